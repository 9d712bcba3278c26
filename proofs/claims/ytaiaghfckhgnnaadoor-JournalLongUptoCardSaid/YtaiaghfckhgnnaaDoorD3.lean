/- Package disk's crash: each file keeps its durable bytes and the first loose ones. Conditions: the disk lies as DRaw says; what is kept is not negative. Package disk's calls on the head alone: Down, Used, Up, Arm, Crash; and New. Conditions: the disk lies as DRaw (DRep) says; numbers are of their kind. -/
import Derived.Test.YtaiaghfckhgnnaaDoorD1
import Derived.Test.YtaiaghfckhgnnaaDoorDl
namespace Go.Proofs
open Go.RowKit Go.Hp Go.Dm Go.Dr
set_option linter.unusedVariables false

section
variable {w : World} {d m : Nat} {D : Dk} {L : List Raw} {clock : Nat} {r : Raw}

theorem lose_close {w wr w1 W' : World} {d m k kn : Nat} {D : Dk} {L : List Raw} {clock : Nat} {r : Raw} {seen : Array Nat} {sv : Value} {kz : Int}
    (hD : DRaw w d m D L clock) (hr : r ∈ L) (hI : LInv wr d m w.heap.size k D L clock seen) (hC : Chg (· ∈ d :: m :: blks L) w wr) (hZ : wr.heap.size = w.heap.size + 1)
    (hc1 : Chg (fun x => x = w.heap.size) wr w1) (hi1 : w1.heap[w.heap.size]? = some (.mapIter (some m) clock (seen.push r.en.born) clock)) (hs1 : w1.heap.size = wr.heap.size)
    (hun : seen.contains r.born = false) (hrok : RawOk w1 r) (hk : kept k r = kn) (hsv : reslice r.sv kn = sv) (hkz : (kn : Int) = kz)
    (hW : Chg (fun x => x = d ∨ x = m ∨ x = r.f) w1 W') (hsz : W'.heap.size = w1.heap.size)
    (hd : W'.heap[d]? = (w1.heap[d]?).map (objSet 1 (.int .i64 ((used k seen L : Int) + kz))))
    (hm : W'.heap[m]? = some (.map (if kn = 0 then ents (((cur k seen L).map Raw.en).filter (·.key != r.name)) else ents ((cur k seen L).map Raw.en)) clock))
    (hf : W'.heap[r.f]? = some (.cells #[sv, .int .i64 kz] 85 (0, 0))) :
    (∃ seen, LInv W' d m w.heap.size k D L clock seen ∧ Chg (· ∈ d :: m :: blks L) w W' ∧ W'.heap.size = w.heap.size + 1) ∧ unseen W' w.heap.size L < unseen wr w.heap.size L := by
  subst hk hsv hkz
  have hltr : ∀ x ∈ d :: m :: blks L, x < wr.heap.size := fun x hx => by have := hD.lt x hx; omega
  have hit : ∀ x ∈ d :: m :: blks L, x ≠ w.heap.size := fun x hx e => by have := hD.lt x hx; omega
  have hrf : r.f ∈ d :: m :: blks L := by simp only [List.mem_cons]; exact .inr (.inr (List.mem_flatMap.2 ⟨r, hr, by simp [Raw.blks]⟩))
  have hW' : Chg (fun x => x = d ∨ x = m ∨ x = w.heap.size ∨ x = r.f) wr W' :=
    (hc1.mono fun x hx => .inl (.inr (.inr (.inl hx)))).trans hW fun x hx => .inl (hx.elim .inl fun hx => hx.elim (fun h => .inr (.inl h)) fun h => .inr (.inr (.inr h)))
  have hstep := hI.step hD.stamps hD.nodup hit hr hun hltr hW' (by
      rw [hd, hc1.block d (hltr d (by simp)) (hit d (by simp)), hI.head]; simp [objSet]) hm (by
      rw [hW.block w.heap.size (by omega) ?_]
      · exact hi1
      · rintro (h | h | h)
        · exact hit d (by simp) h.symm
        · exact hit m (by simp) h.symm
        · exact hit r.f hrf h.symm) hf hD.names (hD.ok.sure r.fl (hD.perm.subset (List.mem_map_of_mem hr)))
  refine ⟨⟨seen.push r.born, hstep.1, ?_, by omega⟩, hstep.2⟩
  refine hC.trans hW' ?_
  rintro x (rfl | rfl | rfl | rfl)
  · exact .inl (by simp)
  · exact .inl (by simp)
  · exact .inr (Nat.le_refl _)
  · exact .inl hrf

theorem heap_drew (w : World) : w.drew.heap = w.heap := rfl

theorem linv_start (k : Nat) (h : DRaw w d m D L clock) : LInv ((w.setCell ⟨d, 1, none⟩ (.int .i64 0)).alloc (.mapIter (some m) clock #[] clock)) d m w.heap.size k D L clock #[] := by
  have hdm := h.ne_dm
  have hlt := h.lt
  have hd : d < w.heap.size := hlt d (by simp)
  have hm : m < w.heap.size := hlt m (by simp)
  have hblk : ∀ x, x < w.heap.size → ((w.setCell ⟨d, 1, none⟩ (.int .i64 0)).alloc (.mapIter (some m) clock #[] clock)).heap[x]? = if x = d then (w.heap[x]?).map (objSet 1 (.int .i64 0)) else w.heap[x]? := fun x hx => by
    rw [halloc, hset, if_neg (by simp; omega)]
  refine { head := ?_, map := ?_, iter := ?_, todo := fun r hr _ => (h.raws r hr).keep fun b hb => ?_, done := fun r hr hs => by simp at hs }
  · rw [hblk d hd, if_pos rfl, h.head]
    have e0 : used k #[] L = 0 := by
      unfold used
      have : (L.filter fun r => (#[] : Array Nat).contains r.born) = [] := List.filter_eq_nil_iff.2 fun r _ => by simp
      rw [this]; rfl
    rw [e0]; simp [objSet, headCells]
  · rw [hblk m hm, if_neg (Ne.symm hdm), h.map]
    have : cur k #[] L = L := List.filter_eq_self.2 fun r _ => by simp
    rw [this]
  · rw [halloc, if_pos (by simp)]
  · rw [hblk b (hlt b (by simp only [List.mem_cons]; exact .inr (.inr (List.mem_flatMap.2 ⟨r, hr, hb⟩)))), if_neg (h.ne_d hr hb)]

set_option maxRecDepth 10000 in
set_option maxHeartbeats 4000000 in
/-- the loop in 'lose' -/
theorem lose_any (k : Nat) (hk63 : (k : Int) ≤ 9223372036854775807) (h : DRaw w d m D L clock) :
    Calls Tryd.prog 38 #[.pointer (some ⟨d, 0, none⟩), .int .i64 (k : Int)] w fun e w' => e = .returned (.tuple #[]) ∧ Chg (· ∈ d :: m :: blks L) w w' ∧
      ∃ L', DRaw w' d m (D.lose k) L' clock ∧ ∀ x ∈ d :: m :: blks L', x ∈ d :: m :: blks L := by
  obtain ⟨c0, c1, c2, c3, c4, c5, fz⟩ := h.cells
  have hdm := h.ne_dm
  have hm0 : (w.setCell ⟨d, 1, none⟩ (.int .i64 0)).heap[m]? = some (.map (ents (L.map Raw.en)) clock) := by rw [hset, if_neg (Ne.symm hdm)]; exact h.map
  have f1 := fz 1
  have HM := Lib.hid hm0
  have HD := Lib.hid h
  clear c0 c3 c4 c5 hm0 h hdm
  go_enter Tryd.func38, Tryd.ntmps38
  go_wp2_with (first | (at_range; refine wpList_range_map rfl _ _ rfl Tryd.underlying54 rfl HM.out ?_))
  go_frame
  simp only [World.size_setCell]
  clear c1 c2 f1 fz HM
  go_loopw [15] (fun _ wr => ∃ seen, LInv wr d m w.heap.size k D L clock seen ∧ Chg (· ∈ d :: m :: blks L) w wr ∧ wr.heap.size = w.heap.size + 1) (fun _ wr => unseen wr w.heap.size L)
  case atStart =>
    exact ⟨#[], linv_start k HD.out, ((Chg.refl (· ∈ d :: m :: blks L) w).setCell (p := ⟨d, 1, none⟩) (.inl (by simp)) _).alloc _, by simp⟩
  case round =>
    obtain ⟨seen, hI, hC, hZ⟩ := hrel
    obtain ⟨g1, g2, gf, g3, g4⟩ := hI.cells
    have HI := Lib.hid hI
    have HC := Lib.hid hC
    have HZ := Lib.hid hZ
    have hb : ∀ e ∈ (cur k seen L).map Raw.en, e.born < clock := by
      intro e he
      obtain ⟨r, hr, rfl⟩ := List.mem_map.1 he
      exact HD.out.young r (List.mem_filter.1 hr).1
    have HB := Lib.hid hb
    clear hI hC hZ hb
    go_wp2_with (at_next; refine stop ?_)
    refine go ?_
    refine wpList_next_map rfl _ rfl rfl HI.out.map HI.out.iter HB.out ?_ ?_
    · intro h0
      have H0 := Lib.hid (left_none h0)
      clear h0 HB
      go_wp2
      go_end0
      have hD := HD.out
      have hI := HI.out
      have hltr : ∀ x ∈ d :: m :: blks L, x < wr.heap.size := fun x hx => by have := hD.lt x hx; have := HZ.out; omega
      have hw : Chg (· = d) wr ((wr.setCell ⟨d, 3, none⟩ (.bool true)).setCell ⟨d, 4, none⟩ (.int .i64 0)) := ((Chg.refl (· = d) wr).setCell (p := ⟨d, 3, none⟩) (.inl rfl) _).setCell (p := ⟨d, 4, none⟩) (.inl rfl) _
      obtain ⟨L', h1, h2⟩ := hI.finish H0.out hD.perm hD.nodup hD.stamps hD.young hltr hD.ok hw (by
        rw [hset, if_pos rfl, hset, if_pos rfl, hI.head]; simp [objSet])
      exact ⟨rfl, HC.out.trans hw (fun x hx => .inl (by subst hx; simp)), L', h1, h2⟩
    · intro e w1 he hc1 hi1 hs1
      obtain ⟨r, hr, hre, hun⟩ := left_mem he
      subst hre
      have hD := HD.out
      have hI := HI.out
      have hltr : ∀ x ∈ d :: m :: blks L, x < wr.heap.size := fun x hx => by have := hD.lt x hx; have := HZ.out; omega
      have hit : ∀ x ∈ d :: m :: blks L, x ≠ w.heap.size := fun x hx e => by have := hD.lt x hx; omega
      have hb1 : ∀ x ∈ d :: m :: blks L, w1.heap[x]? = wr.heap[x]? := fun x hx => hc1.block x (hltr x hx) (hit x hx)
      have hrb : ∀ x ∈ r.blks, x ∈ d :: m :: blks L := fun x hx => by simp only [List.mem_cons]; exact .inr (.inr (List.mem_flatMap.2 ⟨r, hr, hx⟩))
      have hrok : RawOk w1 r := (hI.todo r hr hun).keep fun x hx => hb1 x (hrb x hx)
      have hent : (Instr.entry (.pointer (some ⟨w.heap.size, 0, none⟩))).run Tryd.prog w1 = .ok (.tuple #[.string r.name, .pointer (some ⟨r.f, 0, none⟩)]) w1 := Hp.run_entry_map (P := Tryd.prog) w1 (m := m) (r := w.heap.size) (e := r.en) (by rw [hb1 m (by simp)]; exact hI.map) hi1 (List.mem_map_of_mem (mem_cur hr hun)) (by
        rw [List.map_map]; exact (hD.stamps.sublist ((List.filter_sublist).map _)))
      have q0 := hrok.cell0
      have q1 := hrok.cell1
      have qf := hrok.free
      have e1 : w1.cell? ⟨d, 1, none⟩ = some (.int .i64 (used k seen L : Int)) := by rw [← g1]; exact World.cell?_of_block (a := ⟨d, 1, none⟩) (hb1 d (by simp))
      have e2 : w1.cell? ⟨d, 2, none⟩ = some (.map (some m)) := by rw [← g2]; exact World.cell?_of_block (a := ⟨d, 2, none⟩) (hb1 d (by simp))
      have ef : ∀ i, w1.frozen? ⟨d, i, none⟩ = false := fun i => by rw [← gf i]; exact World.frozen?_of_block (a := ⟨d, i, none⟩) (hb1 d (by simp))
      have hfd : r.f ≠ d := hD.ne_d hr (by simp [Raw.blks])
      have hdf : d ≠ r.f := Ne.symm hfd
      obtain ⟨p, c, hsv, hnc, hcm, hlen, hown⟩ := hrok.own
      rw [hsv] at q0
      have hsure : r.sure ≤ r.bytes.length := hD.ok.sure r.fl (hD.perm.subset (List.mem_map_of_mem hr))
      have hcm' : (c : Int) ≤ 9223372036854775807 := by unfold maxLen at hcm; omega
      have hnc' : (r.bytes.length : Int) ≤ c := by omega
      have hsure' : (r.sure : Int) ≤ r.bytes.length := by omega
      have QF := qf
      have HENT := Lib.hid hent
      have HROK := Lib.hid hrok
      have HSV := Lib.hid hsv
      have HB1 := Lib.hid hb1
      have HLT := Lib.hid hltr
      have HIT := Lib.hid hit
      have HC1 := Lib.hid hc1
      have HI1 := Lib.hid hi1
      have HS1 := Lib.hid hs1
      have HUN := Lib.hid hun
      have HRB := Lib.hid hrb
      clear hD hI hent hrok hsv hb1 hltr hit hc1 hi1 hs1 hun hrb g1 g2 gf g3 g4 HB hlen hown hcm hnc hsure he
      have hmf : m ≠ r.f := Ne.symm (HD.out.ne_m hr (by simp [Raw.blks]))
      have HMF := Lib.hid hmf
      clear hmf
      have hnames : ((cur k seen L).map Raw.en |>.map (·.key)).Nodup := by
        rw [List.map_map]; exact HD.out.names.sublist ((List.filter_sublist).map _)
      have HN := Lib.hid hnames
      clear hnames
      have hm1 : w1.heap[m]? = some (.map (ents ((cur k seen L).map Raw.en)) clock) := by rw [HB1.out m (by simp)]; exact HI.out.map
      have HM1 := Lib.hid hm1
      clear hm1
      have HMD : Hid (m ≠ d) := Lib.hid (Ne.symm HD.out.ne_dm)
      have HDM : Hid (¬ d = m) := Lib.hid HD.out.ne_dm
      have HDL : Hid (d < w1.heap.size) := Lib.hid (by rw [HS1.out]; exact HLT.out d (by simp))
      have HFL : Hid (r.f < w1.heap.size) := Lib.hid (by rw [HS1.out]; exact HLT.out r.f (HRB.out r.f (by simp [Raw.blks])))
      have hub1 : (used k seen L : Int) + (kept k r : Int) ≤ 1099511627776 := by have := used_add k seen HUN.out hr; have := HD.out.sum_le; omega
      by_cases hgt : (k : Int) < (r.bytes.length : Int) - r.sure
      · have hkept : kept k r = r.sure + k := by unfold kept; omega
        have HK := Lib.hid hkept
        have hub : (used k seen L : Int) + ((r.sure : Int) + (k : Int)) ≤ 1099511627776 := by rw [hkept] at hub1; omega
        have HKZ : Hid (((r.sure + k : Nat) : Int) = (r.sure : Int) + (k : Int)) := Lib.hid (by omega)
        clear hub1 hkept
        by_cases hz : r.sure + k = 0
        · have hz' : ((r.sure : Int) + (k : Int) == 0) = true := beq_iff_eq.2 (by omega)
          have HZZ := Lib.hid hz
          clear hz
          have hent := HENT.out
          go_wp2
          refine Rx.wp_region_sched (fun _ => True) [(0, .r), (1, .r), (2, .r), (3, .r), (4, .r), (5, .r), (6, .r), (7, .r), (8, .r), (9, .r), (10, .r)] (by kernel_rfl) (by kernel_rfl) trivial (fun _ _ x _ _ h => (by cases x <;> exact h)) ?_
          iterate 11 (refine Rx.wpSched_q rfl rfl ?_; go_wp2; refine ⟨rfl, ?_⟩)
          refine Rx.wpSched_nil ?_
          clear hent
          go_wp2
          refine Rx.wp_region_sched (fun _ => True) [(0, .r), (1, .r), (2, .r), (3, .r), (4, .r), (5, .r), (6, .r), (7, .r), (8, .r), (9, .r), (10, .r), (11, .r), (12, .r), (13, .r), (14, .e)] (by kernel_rfl) (by kernel_rfl) trivial (fun _ _ x _ _ h => (by cases x <;> exact h)) ?_
          iterate 14 (refine Rx.wpSched_q rfl rfl ?_; go_wp2; refine ⟨rfl, ?_⟩)
          refine Rx.wpSched_e rfl ?_
          go_wp2
          refine ⟨trivial, ?_⟩
          refine Rx.wpSched_nil ?_
          go_wp2_with (at_delete; refine stop ?_)
          refine go ?_
          refine wpList_delete_map rfl _ _ _ _ rfl Tryd.underlying54 Tryd.underlying9 rfl rfl (by simp only [heap_drew, hset, if_neg HMF.out]; exact HM1.out) HN.out ?_
          intro w2 hc2 hm2 hs2
          have k1 : ∀ i, w2.cell? ⟨d, i, none⟩ = w1.cell? ⟨d, i, none⟩ := fun i => by
            refine (World.cell?_of_block (a := ⟨d, i, none⟩) (hc2.block d (by simpa [World.size_setCell] using HDL.out) HDM.out)).trans ?_
            refine World.cell?_of_block (a := ⟨d, i, none⟩) ?_
            simp only [heap_drew, hset, if_neg hdf]
          have k2 : ∀ i, w2.frozen? ⟨d, i, none⟩ = false := fun i => by
            refine (World.frozen?_of_block (a := ⟨d, i, none⟩) (hc2.block d (by simpa [World.size_setCell] using HDL.out) HDM.out)).trans ?_
            refine Eq.trans (World.frozen?_of_block (a := ⟨d, i, none⟩) (w := w1) ?_) (ef i)
            simp only [heap_drew, hset, if_neg hdf]
          have k4 : w2.heap[r.f]? = some (.cells #[.slice p (r.sure + k) c, .int .i64 ((r.sure : Int) + (k : Int))] 85 (0, 0)) := by
            rw [hc2.block r.f (by simpa [World.size_setCell] using HFL.out) (Ne.symm HMF.out)]
            simp only [heap_drew, hset, if_true]
            rw [HROK.out.cells]; simp [objSet, HSV.out]
          have k3 : w2.cell? ⟨r.f, 1, none⟩ = some (.int .i64 ((r.sure : Int) + (k : Int))) := by rw [hcell_of k4]; rfl
          have k5 : Chg (fun x => x = d ∨ x = m ∨ x = r.f) w1 w2 := Chg.trans (by repeat (first | exact Chg.refl _ _ | refine Chg.drew ?_ | refine Chg.setCell ?_ (by simp) _)) hc2 (fun x hx => .inl (.inr (.inl hx)))
          have K4 := Lib.hid k4
          have K5 := Lib.hid k5
          have HD2 := Lib.hid (hc2.block d (by simpa [World.size_setCell] using HDL.out) HDM.out)
          have HM2 := Lib.hid hm2
          have HS2 := Lib.hid hs2
          clear k4 hc2 hm2 hs2 k5
          go_wp2
          refine Rx.wp_region_sched (fun _ => True) [(0, .r), (1, .r), (2, .r), (3, .r), (4, .r), (5, .r), (6, .r), (7, .r), (8, .r), (9, .r), (10, .r), (11, .e)] (by kernel_rfl) (by kernel_rfl) trivial (fun _ _ x _ _ h => (by cases x <;> exact h)) ?_
          iterate 11 (refine Rx.wpSched_q rfl rfl ?_; go_wp2; refine ⟨rfl, ?_⟩)
          refine Rx.wpSched_e rfl ?_
          go_wp2
          refine ⟨trivial, ?_⟩
          refine Rx.wpSched_nil ?_
          go_wp2
          refine lose_close HD.out hr HI.out HC.out HZ.out HC1.out HI1.out HS1.out HUN.out HROK.out HK.out (by rw [HSV.out]; first | done | rfl) HKZ.out ?_ ?_ ?_ ?_ ?_
          · exact (Chg.setCell (p := ⟨d, 1, none⟩) K5.out (by simp) _).drew
          · have := HS2.out; simpa [World.size_setCell] using this
          · simp only [heap_drew, hset, if_true]
            rw [HD2.out]
            simp only [heap_drew, hset, if_neg hdf]
          · simp only [heap_drew, hset, if_neg HMD.out]
            rw [if_pos HZZ.out]; exact HM2.out
          · simp only [heap_drew, hset, if_neg hfd]
            exact K4.out
        · have hz' : ((r.sure : Int) + (k : Int) == 0) = false := beq_eq_false_iff_ne.2 (by omega)
          have HZZ := Lib.hid hz
          clear hz
          have hent := HENT.out
          go_wp2
          refine Rx.wp_region_sched (fun _ => True) [(0, .r), (1, .r), (2, .r), (3, .r), (4, .r), (5, .r), (6, .r), (7, .r), (8, .r), (9, .r), (10, .r)] (by kernel_rfl) (by kernel_rfl) trivial (fun _ _ x _ _ h => (by cases x <;> exact h)) ?_
          iterate 11 (refine Rx.wpSched_q rfl rfl ?_; go_wp2; refine ⟨rfl, ?_⟩)
          refine Rx.wpSched_nil ?_
          clear hent
          go_wp2
          refine Rx.wp_region_sched (fun _ => True) [(0, .r), (1, .r), (2, .r), (3, .r), (4, .r), (5, .r), (6, .r), (7, .r), (8, .r), (9, .r), (10, .r), (11, .r), (12, .r), (13, .r), (14, .e)] (by kernel_rfl) (by kernel_rfl) trivial (fun _ _ x _ _ h => (by cases x <;> exact h)) ?_
          iterate 14 (refine Rx.wpSched_q rfl rfl ?_; go_wp2; refine ⟨rfl, ?_⟩)
          refine Rx.wpSched_e rfl ?_
          go_wp2
          refine ⟨trivial, ?_⟩
          refine Rx.wpSched_nil ?_
          go_wp2
          refine Rx.wp_region_sched (fun _ => True) [(0, .r), (1, .r), (2, .r), (3, .r), (4, .r), (5, .r), (6, .r), (7, .r), (8, .r), (9, .r), (10, .r), (11, .e)] (by kernel_rfl) (by kernel_rfl) trivial (fun _ _ x _ _ h => (by cases x <;> exact h)) ?_
          iterate 11 (refine Rx.wpSched_q rfl rfl ?_; go_wp2; refine ⟨rfl, ?_⟩)
          refine Rx.wpSched_e rfl ?_
          go_wp2
          refine ⟨trivial, ?_⟩
          refine Rx.wpSched_nil ?_
          go_wp2
          refine lose_close HD.out hr HI.out HC.out HZ.out HC1.out HI1.out HS1.out HUN.out HROK.out HK.out (by rw [HSV.out]; first | done | rfl) HKZ.out ?_ ?_ ?_ ?_ ?_
          · repeat (first | exact Chg.refl _ _ | refine Chg.drew ?_ | refine Chg.setCell ?_ (by simp) _)
          · simp [World.size_setCell]
          · simp only [heap_drew, hset, if_neg hdf, if_true]
          · simp only [heap_drew, hset, if_neg HMF.out, if_neg HMD.out]; rw [if_neg HZZ.out]; exact HM1.out
          · simp only [heap_drew, hset, if_neg hfd, if_true]; rw [HROK.out.cells]; simp [objSet, HSV.out, reslice]
      · have hkept : kept k r = r.bytes.length := by unfold kept; omega
        have HK := Lib.hid hkept
        have hub : (used k seen L : Int) + (r.bytes.length : Int) ≤ 1099511627776 := by rw [hkept] at hub1; omega
        clear hub1 hkept
        by_cases hz : r.bytes.length = 0
        · have hz' : ((r.bytes.length : Int) == 0) = true := beq_iff_eq.2 (by omega)
          have HZZ := Lib.hid hz
          clear hz
          have hent := HENT.out
          go_wp2
          refine Rx.wp_region_sched (fun _ => True) [(0, .r), (1, .r), (2, .r), (3, .r), (4, .r), (5, .r), (6, .r), (7, .r), (8, .r), (9, .r), (10, .r)] (by kernel_rfl) (by kernel_rfl) trivial (fun _ _ x _ _ h => (by cases x <;> exact h)) ?_
          iterate 11 (refine Rx.wpSched_q rfl rfl ?_; go_wp2; refine ⟨rfl, ?_⟩)
          refine Rx.wpSched_nil ?_
          clear hent
          go_wp2_with (at_delete; refine stop ?_)
          refine go ?_
          refine wpList_delete_map rfl _ _ _ _ rfl Tryd.underlying54 Tryd.underlying9 rfl rfl (by simp only [heap_drew, hset, if_neg HMF.out]; exact HM1.out) HN.out ?_
          intro w2 hc2 hm2 hs2
          have k1 : ∀ i, w2.cell? ⟨d, i, none⟩ = w1.cell? ⟨d, i, none⟩ := fun i => by
            refine (World.cell?_of_block (a := ⟨d, i, none⟩) (hc2.block d (by simpa [World.size_setCell] using HDL.out) HDM.out)).trans ?_
            refine World.cell?_of_block (a := ⟨d, i, none⟩) ?_
            simp only [heap_drew, hset, if_neg hdf]
          have k2 : ∀ i, w2.frozen? ⟨d, i, none⟩ = false := fun i => by
            refine (World.frozen?_of_block (a := ⟨d, i, none⟩) (hc2.block d (by simpa [World.size_setCell] using HDL.out) HDM.out)).trans ?_
            refine Eq.trans (World.frozen?_of_block (a := ⟨d, i, none⟩) (w := w1) ?_) (ef i)
            simp only [heap_drew, hset, if_neg hdf]
          have k4 : w2.heap[r.f]? = some (.cells #[.slice p r.bytes.length c, .int .i64 (r.bytes.length : Int)] 85 (0, 0)) := by
            rw [hc2.block r.f (by simpa [World.size_setCell] using HFL.out) (Ne.symm HMF.out)]
            simp only [heap_drew, hset, if_true]
            rw [HROK.out.cells]; simp [objSet, HSV.out]
          have k3 : w2.cell? ⟨r.f, 1, none⟩ = some (.int .i64 (r.bytes.length : Int)) := by rw [hcell_of k4]; rfl
          have k5 : Chg (fun x => x = d ∨ x = m ∨ x = r.f) w1 w2 := Chg.trans (by repeat (first | exact Chg.refl _ _ | refine Chg.drew ?_ | refine Chg.setCell ?_ (by simp) _)) hc2 (fun x hx => .inl (.inr (.inl hx)))
          have K4 := Lib.hid k4
          have K5 := Lib.hid k5
          have HD2 := Lib.hid (hc2.block d (by simpa [World.size_setCell] using HDL.out) HDM.out)
          have HM2 := Lib.hid hm2
          have HS2 := Lib.hid hs2
          clear k4 hc2 hm2 hs2 k5
          go_wp2
          refine Rx.wp_region_sched (fun _ => True) [(0, .r), (1, .r), (2, .r), (3, .r), (4, .r), (5, .r), (6, .r), (7, .r), (8, .r), (9, .r), (10, .r), (11, .e)] (by kernel_rfl) (by kernel_rfl) trivial (fun _ _ x _ _ h => (by cases x <;> exact h)) ?_
          iterate 11 (refine Rx.wpSched_q rfl rfl ?_; go_wp2; refine ⟨rfl, ?_⟩)
          refine Rx.wpSched_e rfl ?_
          go_wp2
          refine ⟨trivial, ?_⟩
          refine Rx.wpSched_nil ?_
          go_wp2
          refine lose_close HD.out hr HI.out HC.out HZ.out HC1.out HI1.out HS1.out HUN.out HROK.out HK.out (by rw [HSV.out]; first | done | rfl) rfl ?_ ?_ ?_ ?_ ?_
          · exact (Chg.setCell (p := ⟨d, 1, none⟩) K5.out (by simp) _).drew
          · have := HS2.out; simpa [World.size_setCell] using this
          · simp only [heap_drew, hset, if_true]
            rw [HD2.out]
            simp only [heap_drew, hset, if_neg hdf]
          · simp only [heap_drew, hset, if_neg HMD.out]
            rw [if_pos HZZ.out]; exact HM2.out
          · simp only [heap_drew, hset, if_neg hfd]
            exact K4.out
        · have hz' : ((r.bytes.length : Int) == 0) = false := beq_eq_false_iff_ne.2 (by omega)
          have HZZ := Lib.hid hz
          clear hz
          have hent := HENT.out
          go_wp2
          refine Rx.wp_region_sched (fun _ => True) [(0, .r), (1, .r), (2, .r), (3, .r), (4, .r), (5, .r), (6, .r), (7, .r), (8, .r), (9, .r), (10, .r)] (by kernel_rfl) (by kernel_rfl) trivial (fun _ _ x _ _ h => (by cases x <;> exact h)) ?_
          iterate 11 (refine Rx.wpSched_q rfl rfl ?_; go_wp2; refine ⟨rfl, ?_⟩)
          refine Rx.wpSched_nil ?_
          clear hent
          go_wp2
          go_wp2
          refine Rx.wp_region_sched (fun _ => True) [(0, .r), (1, .r), (2, .r), (3, .r), (4, .r), (5, .r), (6, .r), (7, .r), (8, .r), (9, .r), (10, .r), (11, .e)] (by kernel_rfl) (by kernel_rfl) trivial (fun _ _ x _ _ h => (by cases x <;> exact h)) ?_
          iterate 11 (refine Rx.wpSched_q rfl rfl ?_; go_wp2; refine ⟨rfl, ?_⟩)
          refine Rx.wpSched_e rfl ?_
          go_wp2
          refine ⟨trivial, ?_⟩
          refine Rx.wpSched_nil ?_
          go_wp2
          refine lose_close HD.out hr HI.out HC.out HZ.out HC1.out HI1.out HS1.out HUN.out HROK.out HK.out (by rw [HSV.out]; first | done | rfl) rfl ?_ ?_ ?_ ?_ ?_
          · repeat (first | exact Chg.refl _ _ | refine Chg.drew ?_ | refine Chg.setCell ?_ (by simp) _)
          · simp [World.size_setCell]
          · simp only [heap_drew, hset, if_neg hdf, if_true]
          · simp only [heap_drew, hset, if_neg HMF.out, if_neg HMD.out]; rw [if_neg HZZ.out]; exact HM1.out
          · simp only [heap_drew, hset, if_neg hfd, if_true]; rw [HROK.out.cells]; simp [objSet, HSV.out, reslice]
end
end Go.Proofs
namespace Go.Proofs
open Go.RowKit Go.Hp Go.Dm Go.Dr
set_option linter.unusedVariables false
set_option maxRecDepth 10000

section
variable {w : World} {d m : Nat} {D : Dk} {L : List Raw} {clock : Nat} {r : Raw} {F : List Nat}

theorem used_any (h : DRep w d D F) : Calls Tryd.prog 15 #[.pointer (some ⟨d, 0, none⟩)] w fun e w' => e = .returned (.int .i64 (D.used : Int)) ∧ w = w' := by
  obtain ⟨m, L, clock, h, rfl⟩ := h
  obtain ⟨c0, c1, c2, c3, c4, c5, fz⟩ := h.cells
  clear c0 c3 c2 c4 c5 fz h
  go_enter Tryd.func15, Tryd.ntmps15
  go_wp2
  go_ret
  exact ⟨rfl, rfl⟩

/-- the head turned, nothing else -/
theorem DRaw.ev_head {w' : World} {D' : Dk} (h : DRaw w d m D L clock) (hw : Chg (· = d) w w') (hh : w'.heap[d]? = some (.cells (headCells m D') 56 (0, 0))) (hf : D'.files = D.files) (ok : D'.Ok) :
    DRep w' d D' (d :: m :: blks L) ∧ Ev (d :: m :: blks L) (d :: m :: blks L) w w' :=
  ⟨⟨m, L, clock, h.setHead D' hw hh hf ok, rfl⟩, ⟨hw.mono fun k hk => .inl (by subst hk; simp), fun k hk => .inl hk⟩⟩

theorem up_any (h : DRep w d D F) : Calls Tryd.prog 18 #[.pointer (some ⟨d, 0, none⟩)] w fun e w' => e = .returned (.int .i64 0) ∧ DRep w' d D.up F ∧ Ev F F w w' := by
  obtain ⟨m, L, clock, h, rfl⟩ := h
  obtain ⟨c0, c1, c2, c3, c4, c5, fz⟩ := h.cells
  have H := Lib.hid h
  clear c0 c1 c2 c5 h
  go_enter Tryd.func18, Tryd.ntmps18
  go_wp2
  go_ret
  refine ⟨rfl, DRaw.ev_head H.out (((Chg.refl (· = d) w).setCell (p := ⟨d, 3, none⟩) (.inl rfl) _).setCell (p := ⟨d, 4, none⟩) (.inl rfl) _) ?_ rfl ?_⟩
  · simp only [hset, if_true]; rw [H.out.head]; simp [objSet, headCells, Dk.up, Dk.used]
  · exact { H.out.ok with steps := Nat.zero_le _, armed := fun h => absurd rfl h }

theorem crash_no (k : Int) (h : DRep w d D F) (hd : D.down = true) :
    Calls Tryd.prog 17 #[.pointer (some ⟨d, 0, none⟩), .int .i64 k] w fun e w' => e = .returned (.int .i64 110) ∧ w = w' := by
  obtain ⟨m, L, clock, h, rfl⟩ := h
  obtain ⟨c0, c1, c2, c3, c4, c5, fz⟩ := h.cells
  rw [hd] at c3
  clear c0 c1 c2 c4 c5 fz h hd
  go_enter Tryd.func17, Tryd.ntmps17
  go_wp2
  go_ret
  exact ⟨rfl, rfl⟩
theorem crash_neg (k : Int) (h : DRep w d D F) (hd : D.down = false) (hk : k < 0) :
    Calls Tryd.prog 17 #[.pointer (some ⟨d, 0, none⟩), .int .i64 k] w fun e w' => e = .returned (.int .i64 12) ∧ w = w' := by
  obtain ⟨m, L, clock, h, rfl⟩ := h
  obtain ⟨c0, c1, c2, c3, c4, c5, fz⟩ := h.cells
  rw [hd] at c3
  clear c0 c1 c2 c4 c5 fz h hd
  go_enter Tryd.func17, Tryd.ntmps17
  go_wp2
  go_ret
  exact ⟨rfl, rfl⟩
theorem crash_ok (n : Nat) (hn : (n : Int) ≤ 9223372036854775807) (h : DRep w d D F) (hd : D.down = false) :
    Calls Tryd.prog 17 #[.pointer (some ⟨d, 0, none⟩), .int .i64 (n : Int)] w fun e w' => e = .returned (.int .i64 0) ∧ ∃ F', DRep w' d (D.lose n) F' ∧ Ev F F' w w' := by
  obtain ⟨m, L, clock, h, rfl⟩ := h
  obtain ⟨c0, c1, c2, c3, c4, c5, fz⟩ := h.cells
  rw [hd] at c3
  have H := Lib.hid h
  have hk0 : ¬ (n : Int) < 0 := by omega
  clear c0 c1 c2 c4 c5 fz h hd
  go_enter Tryd.func17, Tryd.ntmps17
  go_wp2_with (first | (go_at_call 38; refine (lose_any n hn H.out).mono ?_; rintro e w' ⟨rfl, hc, L', h1, h2⟩))
  go_ret
  exact ⟨rfl, d :: m :: blks L', ⟨m, L', clock, h1, rfl⟩, ⟨hc, fun k hk => .inl (h2 k hk)⟩⟩

theorem crash_any (k : Int) (hk2 : k ≤ 9223372036854775807) (h : DRep w d D F) :
    Calls Tryd.prog 17 #[.pointer (some ⟨d, 0, none⟩), .int .i64 k] w fun e w' => e = .returned (.int .i64 ((D.crash k).1 : Int)) ∧ ∃ F', DRep w' d (D.crash k).2 F' ∧ Ev F F' w w' := by
  unfold Dk.crash
  by_cases hd : D.down = true
  · rw [if_pos hd]
    exact (crash_no k h hd).mono fun e w' ⟨h1, h2⟩ => by subst h2; exact ⟨h1, F, h, Ev.refl _ _⟩
  · rw [if_neg hd]
    have hd' : D.down = false := by simpa using hd
    by_cases hk : k < 0
    · rw [if_pos hk]
      exact (crash_neg k h hd' hk).mono fun e w' ⟨h1, h2⟩ => by subst h2; exact ⟨h1, F, h, Ev.refl _ _⟩
    · rw [if_neg hk]
      obtain ⟨n, rfl⟩ := Int.eq_ofNat_of_zero_le (by omega : 0 ≤ k)
      exact crash_ok n hk2 h hd'

/-- New -/
theorem new_bad (l : Int) (h : l < 0 ∨ 1099511627776 < l) : Calls Tryd.prog 6 #[.int .i64 l] w fun e w' => e = .returned (.tuple #[.pointer none, .int .i64 12]) ∧ w = w' := by
  rcases h with h | h
  · go_enter Tryd.func6, Tryd.ntmps6
    go_wp2
    go_ret2
    exact ⟨rfl, rfl⟩
  · have h' : ¬ l < 0 := by omega
    go_enter Tryd.func6, Tryd.ntmps6
    go_wp2
    go_ret2
    exact ⟨rfl, rfl⟩

theorem new_rep (n : Nat) (h : n ≤ 1099511627776) :
    DRep ((w.alloc (.map #[] 0)).alloc (.cells #[.int .i64 (n : Int), .int .i64 0, .map (some w.heap.size), .bool false, .int .i64 0, .int .i64 0] 56)) (w.heap.size + 1) ⟨n, [], false, 0, 0⟩ [w.heap.size + 1, w.heap.size] ∧
    Ev [] [w.heap.size + 1, w.heap.size] w ((w.alloc (.map #[] 0)).alloc (.cells #[.int .i64 (n : Int), .int .i64 0, .map (some w.heap.size), .bool false, .int .i64 0, .int .i64 0] 56)) := by
  refine ⟨⟨w.heap.size, [], 0, { head := ?_, map := ?_, raws := fun r hr => (by cases hr), nodup := by simp [blks], perm := List.Perm.refl _, stamps := by simp, young := fun r hr => (by cases hr), ok := ?_ }, rfl⟩, ((Chg.refl _ w).alloc _).alloc _, fun k hk => .inr ?_⟩
  · rw [halloc, if_pos (by simp)]; rfl
  · rw [halloc, if_neg (by simp), halloc, if_pos rfl]; rfl
  · exact { sorted := List.Pairwise.nil, sure := fun f hf => (by cases hf), used := Nat.zero_le _, limit := h, steps := by show 0 ≤ _; omega, keepLo := by show _ ≤ (0 : Int); omega, keepHi := by show (0 : Int) ≤ _; omega, armed := fun h => absurd rfl h }
  · simp at hk; omega

theorem new_ok (n : Nat) (h : n ≤ 1099511627776) : Calls Tryd.prog 6 #[.int .i64 (n : Int)] w fun e w' =>
    e = .returned (.tuple #[.pointer (some ⟨w.heap.size + 1, 0, none⟩), .int .i64 0]) ∧ DRep w' (w.heap.size + 1) ⟨n, [], false, 0, 0⟩ [w.heap.size + 1, w.heap.size] ∧ Ev [] [w.heap.size + 1, w.heap.size] w w' := by
  have hmm := @run_makeMap Tryd.prog
  have h0 : ¬ (n : Int) < 0 := by omega
  have h1 : ¬ (1099511627776 : Int) < n := by omega
  have HN := Lib.hid h
  clear h
  go_enter Tryd.func6, Tryd.ntmps6
  go_wp2
  go_ret2
  exact ⟨rfl, new_rep n HN.out⟩
end
end Go.Proofs
