/- The document's disk: Files. Conditions: the disk lies as RRep says; at most 2^40 files. -/
import Derived.Test.YthnemjnepnbjpaaRc
namespace Go.Proofs
open Go.RowKit Go.Hp Go.Dm Go.Dr
set_option linter.unusedVariables false
set_option maxRecDepth 10000

/-- a file is put behind the others -/
theorem FilesAt.push {w W w4 : World} {v v' : Value} {l : List LF} {x : LF} (h : FilesAt w v l) (hW : Chg (fun _ => False) w W) (hx : OB W 5 x.sv x.bytes) (hxn : ∀ b, sblk x.sv = some b → w.heap.size ≤ b)
    (ho : OC w4 3 41 v' (l.length + 1) (l.flatMap LF.enc ++ x.enc)) (hc : Chg (fun b => sblk v = some b) W w4) (hb : ∀ b, sblk v' = some b → sblk v = some b ∨ W.heap.size ≤ b) : FilesAt w4 v' (l ++ [x]) := by
  have hnd := h.nodup
  unfold lblks at hnd
  rw [List.nodup_append] at hnd
  have hlt : ∀ y ∈ l, ∀ b ∈ y.blk, b < w.heap.size := fun y hy b hb => OC.lt (h.each y hy) (by simpa [LF.blk] using hb)
  have hoff : ∀ y ∈ l, ∀ b ∈ y.blk, sblk v ≠ some b := fun y hy b hb e => hnd.2.2 b (by simp [e]) b (List.mem_flatMap.2 ⟨y, hy, hb⟩) rfl
  have hvlt : ∀ b, sblk v = some b → b < w.heap.size := fun b hb => OC.lt h.sl hb
  have hs := hW.size
  have hxl : ∀ b, sblk x.sv = some b → b < W.heap.size := fun b hb => OC.lt hx hb
  refine ⟨?_, fun y hy => ?_, ?_⟩
  · rw [List.length_append, List.flatMap_append]
    simpa using ho
  · rcases List.mem_append.1 hy with hy | hy
    · refine OC.keep (h.each y hy) fun b hb => ?_
      have hb' : b ∈ y.blk := by simp [LF.blk, hb]
      rw [hc.block b (by have := hlt y hy b hb'; omega) (hoff y hy b hb'), hW.block b (hlt y hy b hb') (fun h => h)]
    · obtain rfl : y = x := by simpa using hy
      exact OC.keep hx fun b hb => hc.block b (hxl b hb) fun e => by have := hvlt b e; have := hxn b hb; omega
  · unfold lblks
    rw [List.flatMap_append, List.nodup_append, List.nodup_append]
    refine ⟨by cases sblk v' <;> simp, ⟨hnd.2.1, by simp [LF.blk]; cases sblk x.sv <;> simp, fun a ha b hb e => ?_⟩, fun a ha b hb' e => ?_⟩
    · obtain ⟨y, hy, ha⟩ := List.mem_flatMap.1 ha
      have h1 := hlt y hy a ha
      have h2 : sblk x.sv = some b := by simpa [LF.blk] using hb
      have := hxn b h2
      omega
    · subst e
      have ha' : sblk v' = some a := by simpa using ha
      rcases hb a ha' with h' | h'
      · rcases List.mem_append.1 hb' with hb' | hb'
        · exact hnd.2.2 a (by simp [h']) a hb' rfl
        · have h2 : sblk x.sv = some a := by simpa [LF.blk] using hb'
          have := hxn a h2; have := hvlt a h'; omega
      · rcases List.mem_append.1 hb' with hb' | hb'
        · obtain ⟨y, hy, hb'⟩ := List.mem_flatMap.1 hb'
          have := hlt y hy a hb'; omega
        · have h2 : sblk x.sv = some a := by simpa [LF.blk] using hb'
          have := hxl a h2; omega

section
variable {w w' : World} {r : Nat} {D D' : Dk} {K K' L : Int} {v : Value} {l : List RF} {G : List Nat} {nm : ByteArray}

/-- ahead of a round: i files are copied -/
structure FRel (w wr : World) (D : Dk) (i : Nat) (v : Value) (lf : List LF) : Prop where
  at_ : FilesAt wr v lf
  m : lf.map LF.fl = D.files.take i
  low : ∀ k ∈ lblks v lf, w.heap.size ≤ k
  chg : Chg (fun _ => False) w wr

theorem FRel.push {wr W w4 : World} {i : Nat} {v v' : Value} {lf : List LF} {x : LF} (h : FRel w wr D i v lf) (hW : Chg (fun _ => False) wr W) (hx : OB W 5 x.sv x.bytes) (hxn : ∀ b, sblk x.sv = some b → wr.heap.size ≤ b)
    (ho : OC w4 3 41 v' (lf.length + 1) (lf.flatMap LF.enc ++ x.enc)) (hc : Chg (fun b => sblk v = some b) W w4) (hb : ∀ b, sblk v' = some b → sblk v = some b ∨ W.heap.size ≤ b) (hg : D.files[i]? = some x.fl) : FRel w w4 D (i + 1) v' (lf ++ [x]) := by
  have hs := hW.size
  have hs0 := h.chg.size
  refine ⟨h.at_.push hW hx hxn ho hc hb, ?_, fun k hk => ?_, (h.chg.trans hW fun _ h => h.elim).trans hc fun k hk => .inr (h.low k (mem_lblks hk))⟩
  · rw [List.map_append, h.m, List.take_add_one, hg]; rfl
  · rcases List.mem_append.1 hk with hk | hk
    · rcases hb k (by simpa using hk) with h' | h'
      · exact h.low k (mem_lblks h')
      · omega
    · rw [List.flatMap_append] at hk
      rcases List.mem_append.1 hk with hk | hk
      · exact h.low k (List.mem_append.2 (.inr hk))
      · have := hxn k (by simpa [LF.blk] using hk); omega

set_option maxHeartbeats 4000000 in
theorem rfiles_any (hN : D.files.length ≤ 1099511627776) (h : RRep w r D G) :
    Calls Try.prog 69 #[.pointer (some ⟨r, 0, none⟩)] w fun e w' => ∃ v l, e = .returned v ∧ FilesAt w' v l ∧ l.map LF.fl = D.files ∧ (∀ k ∈ lblks v l, w.heap.size ≤ k) ∧ Chg (fun _ => False) w w' := by
  obtain ⟨K, v, l, h, rfl⟩ := h
  have hll : l.length = D.files.length := by have := congrArg List.length h.files; simpa using this
  have hlli : (l.length : Int) ≤ 1099511627776 := by omega
  obtain ⟨p, c, rfl, hnc, -, -⟩ := id h.sl
  have hnci : (l.length : Int) ≤ c := by omega
  have H := Lib.hid h
  have HLL := Lib.hid hll
  clear h hN hll hnc
  go_enter Try.func69, Try.ntmps69
  go_wp2
  go_loopw [3, 4] (fun v i wr => ∃ pv nv cv, v = .slice pv nv cv ∧ ∃ (j : Nat) (lf : List LF), i = .int .i64 (j : Int) ∧ j ≤ l.length ∧ FRel w wr D j (.slice pv nv cv) lf) (fun _ i _ => l.length - (Lib.intOf i).toNat)
  case atStart => exact ⟨none, 0, 0, rfl, 0, [], rfl, Nat.zero_le _, files_nil w, rfl, fun k hk => (by simp [lblks] at hk), Chg.refl _ _⟩
  case round =>
    obtain ⟨pv, nv, cv, rfl, j, lf, rfl, hj, hF⟩ := hrel
    have H1 := Lib.hid (H.out.keepW (w' := wr) fun k hk => hF.chg.block k (H.out.lt k hk) (fun h => h))
    obtain ⟨c0, c1, c2, c3, c4, fz⟩ := H1.out.cells
    have HF := Lib.hid hF
    clear hF c0 c2 c3 c4 fz
    by_cases hjl : (j : Int) < l.length
    · obtain ⟨b, off, x, rfl, -, -, hx, z0, z1, z2, z3⟩ := RRaw.file H1.out.sl (k := j) (by omega)
      have hj0 : (0 : Int) ≤ (j : Int) := by omega
      have e2 : x.sv = .slice x.p x.bytes.length x.cap := rfl
      rw [e2] at z2
      have hxl := List.mem_of_getElem? hx
      have hfx : x.fl ∈ D.files := by rw [← H.out.files]; exact List.mem_map_of_mem hxl
      have hbx : x.bytes.length ≤ 1099511627776 := by
        have h1 := get_le (get_of_mem H.out.ok.sorted.nodup hfx)
        have h1 : x.bytes.length ≤ total D.files := h1
        have h2 := H.out.ok.used
        have h3 := H.out.ok.limit
        have h4 : D.used = total D.files := rfl
        omega
      have hget : D.files[j]? = some x.fl := by rw [← H.out.files, List.getElem?_map, hx]; rfl
      have hrb : RB wr x.sv x.bytes := H1.out.each x hxl
      have hcp := fun U (hU : Chg (fun _ => False) (wr.alloc (.cells #[.string x.name, .bool true, .slice x.p x.bytes.length x.cap, .int .i64 (x.sure : Int)] 130)) U) => rcopied_any (w := U) (by omega) (RC.chg (RC.chg hrb ((Chg.refl (fun _ => False) wr).alloc (.cells #[.string x.name, .bool true, .slice x.p x.bytes.length x.cap, .int .i64 (x.sure : Int)] 130)) fun _ _ h => h) hU fun _ _ h => h)
      rw [e2] at hcp
      have hlf : lf.length = j := by
        have e1 := congrArg List.length HF.out.m
        have := HLL.out
        rw [List.length_map, List.length_take] at e1; omega
      have HCP := Lib.hid hcp
      have HGET := Lib.hid hget
      have HLF := Lib.hid hlf
      have hgx := halloc_at wr (.cells #[.string x.name, .bool true, .slice x.p x.bytes.length x.cap, .int .i64 (x.sure : Int)] 130)
      have q3 := hcell_of hgx 3
      have q0 := hcell_of hgx 0
      simp only [List.getElem?_toArray, List.getElem?_cons_zero, List.getElem?_cons_succ] at q3 q0
      have HGX := Lib.hid hgx
      clear hx e2 hxl hfx hbx hget hrb hcp hlf hgx
      go_wp2
      refine Rx.wp_region_sched (fun w' => w'.cell? ⟨wr.heap.size, 0, none⟩ = some (.string x.name) ∧ w'.cell? ⟨wr.heap.size, 3, none⟩ = some (.int .i64 (x.sure : Int))) [(3, .r), (4, .r), (0, .h), (1, .h), (6, .h), (2, .h), (7, .h), (5, .e), (8, .r), (9, .e), (10, .e), (11, .r)] (by kernel_rfl) (by kernel_rfl) (⟨q0, q3⟩) (fun _ _ x _ _ h => (by cases x <;> exact h)) ?_
      iterate 2 (refine Rx.wpSched_q rfl rfl ?_; go_wp2; refine ⟨rfl, ?_⟩)
      iterate 5 (refine Rx.wpSched_h (v := ?_) rfl rfl ?_ ?_; rotate_left; (intro w' hS'; go_simp; try with_reducible rfl))
      refine Rx.wpSched_e rfl ?_
      go_wp2_with (first | (go_at_call 91; refine stop ?_))
      refine go ?_
      refine (HCP.out _ (by first | exact (Chg.refl (fun _ => False) _).drew | exact Chg.refl _ _)).mono ?_
      rintro e w2 ⟨v2, rfl, o2, c2, n2⟩
      obtain ⟨p2, l2, cc2, rfl⟩ : ∃ p l c, v2 = .slice p l c := (by obtain ⟨p3, cc3, e, -⟩ := id o2; exact ⟨_, _, _, e⟩)
      have c2 : Chg (fun _ => False) (wr.alloc (.cells #[.string x.name, .bool true, .slice x.p x.bytes.length x.cap, .int .i64 (x.sure : Int)] 130)) w2 := (by first | exact ((Chg.refl (fun _ => False) _).drew).trans c2 (fun k hk => hk.elim) | exact c2)
      have hgx2 := (c2.block _ (hlt_of HGX.out) (fun h => h)).trans HGX.out
      have hgx3 := (halloc_lt (o := .cells #[.string x.name, .slice p2 l2 cc2, .int .i64 (x.sure : Int)] 41) (hlt_of hgx2)).trans hgx2
      have q4 := hcell_of hgx2 3
      have q5 := hcell_of hgx3 3
      have q40 := hcell_of hgx2 0
      have q50 := hcell_of hgx3 0
      simp only [List.getElem?_toArray, List.getElem?_cons_zero, List.getElem?_cons_succ] at q4 q5 q40 q50
      obtain rfl : l2 = x.bytes.length := OB_len o2
      have HQ4 := Lib.hid (And.intro q40 q4)
      have HQ5 := Lib.hid (And.intro q50 q5)
      have HGX3 := Lib.hid hgx3
      have O2 := Lib.hid o2
      have C2 := Lib.hid c2
      have N2 := Lib.hid n2
      have HSL2 := Lib.hid (OC.chg HF.out.at_.sl ((((Chg.refl (fun _ => False) wr).alloc _).trans c2 fun _ h => h.elim).alloc (.cells #[.string x.name, .slice p2 x.bytes.length cc2, .int .i64 (x.sure : Int)] 41)) fun _ _ h => h)
      have HRC := Lib.hid (OC_new w2 3 41 #[.string x.name, .slice p2 x.bytes.length cc2, .int .i64 (x.sure : Int)] 1 1 (by decide) (by unfold maxLen; decide) rfl).rc
      clear o2 c2 n2 hgx2 hgx3 q5 q50
      go_wp2
      refine ⟨(by exact HQ4.out), ?_⟩
      (refine Rx.wpSched_q rfl rfl ?_; go_wp2; refine ⟨rfl, ?_⟩)
      refine Rx.wpSched_e rfl ?_
      go_wp2
      refine ⟨(by exact HQ5.out), ?_⟩
      refine Rx.wpSched_e rfl ?_
      (obtain ⟨i0, hi, hz0, hz1, hz2⟩ := info_parts info_file)
      refine wpList_append_oc rfl _ _ 38 rfl 41 i0 _ 3 48 Try.underlying38 hi hz0 hz1 hz2 rfl (by decide) rfl rfl HSL2.out HRC.out (by intro u hu; simp at hu; rcases hu with rfl | rfl | rfl <;> rfl) (by decide) (by have := HLF.out; omega) ?_
      intro v' w4 b1 b2 b3 b4
      obtain ⟨pv', cv', rfl, -⟩ := id b1
      have hend := HF.out.push (x := ⟨x.name, p2, cc2, x.bytes, x.sure⟩) ((((Chg.refl (fun _ => False) wr).alloc _).trans C2.out fun _ h => h.elim).alloc (.cells #[.string x.name, .slice p2 x.bytes.length cc2, .int .i64 (x.sure : Int)] 41)) (OC.chg O2.out ((Chg.refl (fun _ => False) w2).alloc _) fun _ _ h => h) (fun b hb => (by have h1 := N2.out b hb; simp at h1; omega)) b1 b2 b3 HGET.out
      have hx6 : sblk (.slice pv nv cv) ≠ some wr.heap.size := (fun e => by have h1 := OC.lt HF.out.at_.sl e; omega)
      have hgx4 := (b2.block _ (hlt_of HGX3.out) hx6).trans HGX3.out
      have q6 := hcell_of hgx4 3
      have q60 := hcell_of hgx4 0
      simp only [List.getElem?_toArray, List.getElem?_cons_zero, List.getElem?_cons_succ] at q6 q60
      have HQ6 := Lib.hid (And.intro q60 q6)
      have HEND := Lib.hid hend
      clear b1 b2 b3 b4 hi hz0 hz1 hz2 hend hx6 hgx4
      go_wp2
      refine ⟨(by exact HQ6.out), ?_⟩
      (refine Rx.wpSched_q rfl rfl ?_; go_wp2; refine ⟨rfl, ?_⟩)
      refine Rx.wpSched_nil ?_
      go_wp2
      go_roundw
      case rel => exact ⟨_, _, _, rfl, j + 1, _, by go_num, by omega, HEND.out⟩
      case measure => simp [Lib.intOf]; omega
    · have hje : D.files.take j = D.files := List.take_of_length_le (by have := HLL.out; omega)
      have hm := HF.out.m
      rw [hje] at hm
      have HM := Lib.hid hm
      clear hje hm
      go_wp2
      go_ret
      exact ⟨.slice pv nv cv, rfl, lf, HF.out.at_, HM.out, HF.out.low, HF.out.chg⟩
end
end Go.Proofs
