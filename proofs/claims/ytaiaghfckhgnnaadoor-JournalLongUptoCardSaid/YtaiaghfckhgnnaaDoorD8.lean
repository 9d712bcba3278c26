/- Package disk's Append. Conditions: the disk lies as DRep says; what is handed in is read and lies apart from the disk. Package disk's Append on a file that does not lie yet. Conditions: the disk lies as DRep says; what is handed in is read and lies apart from the disk. What each call of package disk answers and leaves, in one contract for each. Conditions: the disk lies as DRep says; the bytes handed in are read and lie apart from the disk. -/
import Derived.Test.YtaiaghfckhgnnaaDoorD5
namespace Go.Proofs
open Go.RowKit Go.Hp Go.Dm Go.Dr
set_option linter.unusedVariables false
set_option maxRecDepth 10000

section
variable {w : World} {d m : Nat} {D D' : Dk} {L : List Raw} {clock : Nat} {r : Raw} {F : List Nat} {nm : ByteArray}

theorem RB_take {v : Value} {l : List UInt8} {p : Option Addr} {c : Nat} (hv : v = .slice p l.length c) (h : RB w v l) (n : Nat) (hn : n ≤ l.length) : RB w (.slice p n c) (l.take n) := by
  have hlen : (l.take n).length = n := by simp; omega
  subst hv
  obtain ⟨p', c', he, h1, h2, h3⟩ := h
  cases he
  refine ⟨p, c, by rw [hlen], by omega, by simp, fun hc => ?_⟩
  obtain ⟨b, o, arr, t, fz, rfl, hh, hx⟩ := h3 hc
  refine ⟨b, o, arr, t, fz, rfl, hh, fun i u hu => hx i u ?_⟩
  rw [List.map_take, List.getElem?_take] at hu
  split at hu
  · exact hu
  · cases hu

theorem append_no (bv : Value) (hs : nm.size ≤ maxLen) (h : DRep w d D F) (hl : D.look nm ≠ 0) (hl2 : D.look nm ≠ 112) :
    Calls Tryd.prog 24 #[.pointer (some ⟨d, 0, none⟩), .string nm, bv] w fun e w' => e = .returned (.tuple #[.int .i64 0, .int .i64 (D.look nm : Int)]) ∧ ∃ n, w' = w.drewN n := by
  obtain ⟨m, L, clock, h, rfl⟩ := h
  have hp := look_pos hl
  have hq : ((D.look nm : Int) == 112) = false := beq_eq_false_iff_ne.2 (by omega)
  have H := Lib.hid h
  have HL := Lib.hid hl
  clear h hl hl2
  go_enter Tryd.func24, Tryd.ntmps24
  go_wp2_with (first | (go_at_call 42; refine (find_no nm hs H.out HL.out).mono ?_; rintro e w' ⟨rfl, n, rfl⟩))
  go_ret2
  exact ⟨rfl, _, rfl⟩

/-- a file behind an append: still a disk -/
def appD (D : Dk) (nm : ByteArray) (b : List UInt8) : Dk := { D with files := upd nm (fun f => { f with bytes := f.bytes ++ b }) D.files }

theorem app_total {f : Fl} {b : List UInt8} (hg : get D.files nm = some f) (ok : D.Ok) : total (upd nm (fun f => { f with bytes := f.bytes ++ b }) D.files) = total D.files + b.length := by
  have := total_upd (g := fun f => { f with bytes := f.bytes ++ b }) ok.sorted.nodup hg
  simp only [List.length_append] at this
  omega

theorem app_rep {w1 w2 W : World} {b : List UInt8} {v' : Value} (h : DRaw w1 d m D L clock) (hr : r ∈ L) (hfit : D.used + b.length ≤ D.limit)
    (a1 : OB w2 5 v' (r.bytes ++ b)) (a2 : Chg (fun k => sblk r.sv = some k) w1 w2) (a3 : ∀ k, sblk v' = some k → sblk r.sv = some k ∨ w1.heap.size ≤ k)
    (hW : Chg (fun k => k = r.f ∨ k = d) w2 W) (hd : W.heap[d]? = (w2.heap[d]?).map (objSet 1 (.int .i64 ((D.used : Int) + (b.length : Int)))))
    (hf : W.heap[r.f]? = (w2.heap[r.f]?).map (objSet 0 v')) :
    DRaw W d m (appD D r.name b) (rep { r with sv := v', bytes := r.bytes ++ b } L) clock ∧ Chg (· ∈ d :: m :: blks L) w1 W ∧
      ∀ k ∈ d :: m :: blks (rep { r with sv := v', bytes := r.bytes ++ b } L), k ∈ d :: m :: blks L ∨ w1.heap.size ≤ k := by
  have hlt := h.lt
  have hrb : ∀ k ∈ r.blks, k ∈ d :: m :: blks L := fun k hk => by simp only [List.mem_cons]; exact .inr (.inr (List.mem_flatMap.2 ⟨r, hr, hk⟩))
  have hds : sblk r.sv ≠ some d := fun e => h.ne_d hr (k := d) (by simp [Raw.blks, e]) rfl
  have hfs : sblk r.sv ≠ some r.f := h.sblk_ne hr
  have hc : Chg (fun k => k ∈ r.blks ∨ k = d) w1 W := (a2.mono fun k hk => .inl (.inl (by simp [Raw.blks, hk]))).trans hW fun k hk => .inl (hk.elim (fun e => .inl (by subst e; simp [Raw.blks])) .inr)
  have ok : (appD D r.name b).Ok := by
    refine h.ok.upd (fun f => rfl) (fun f hf _ => ?_) ?_
    · have := h.ok.sure f hf
      simp; omega
    · rw [app_total (h.get_of hr) h.ok]; exact hfit
  have hv' : ∀ k, sblk v' = some k → k ≠ r.f ∧ k ≠ d := fun k hk => by
    rcases a3 k hk with h' | h'
    · exact ⟨fun e => hfs (e ▸ h'), fun e => hds (e ▸ h')⟩
    · have h1 := hlt r.f (hrb r.f (by simp [Raw.blks]))
      have h2 := hlt d (by simp)
      exact ⟨by omega, by omega⟩
  obtain ⟨e1, e2⟩ := h.setFile (r' := { r with sv := v', bytes := r.bytes ++ b }) (D' := appD D r.name b) (g := fun f => { f with bytes := f.bytes ++ b }) hr rfl rfl rfl hc (by
      rw [hd, a2.block d (hlt d (by simp)) hds, h.head]
      have hu : total (upd r.name (fun f => { f with bytes := f.bytes ++ b }) D.files) = total D.files + b.length := app_total (h.get_of hr) h.ok
      simp only [Option.map_some, objSet, headCells, appD, Dk.used, hu]
      rw [show ((total D.files + b.length : Nat) : Int) = (total D.files : Int) + (b.length : Int) from by omega]
      rfl) (by
      refine ⟨?_, OC.keep a1 fun k hk => ?_⟩
      · rw [hf, a2.block r.f (hlt r.f (hrb r.f (by simp [Raw.blks]))) hfs, (h.raws r hr).cells]; simp [objSet]
      · have hk' := OC.lt a1 hk
        exact hW.block k hk' (fun e => e.elim (hv' k hk).1 (hv' k hk).2)) (fun k hk => a3 k hk) rfl rfl ok
  refine ⟨e1, hc.mono fun k hk => .inl (hk.elim (hrb k) fun e => by subst e; simp), e2⟩


theorem find_new (hs : nm.size ≤ maxLen) (h : DRaw w d m D L clock) (hl : D.look nm = 112) :
    Calls Tryd.prog 42 #[.pointer (some ⟨d, 0, none⟩), .string nm] w fun e w' => e = .returned (.tuple #[.pointer none, .int .i64 112]) ∧ ∃ n, w' = w.drewN n := by
  have := find_no nm hs h (by omega)
  rw [hl] at this
  exact this

set_option maxHeartbeats 4000000 in
theorem append_old_ok {pb : Option Addr} {cb : Nat} {bs : List UInt8} (hs : r.name.size ≤ maxLen) (h : DRaw w d m D L clock) (hl : D.look r.name = 0) (hr : r ∈ L) (hlb : bs.length ≤ cb)
    (hb : RB w (.slice pb bs.length cb) bs) (hfire : D.fires = false) (nr er : Nat) (hres : Hid ((nr, er) = (min bs.length (D.limit - D.used), if min bs.length (D.limit - D.used) < bs.length then 111 else 0))) :
    Calls Tryd.prog 24 #[.pointer (some ⟨d, 0, none⟩), .string r.name, .slice pb bs.length cb] w fun e w' => e = .returned (.tuple #[.int .i64 (nr : Int), .int .i64 (er : Int)]) ∧
      ∃ F', DRep w' d (appD D r.name (bs.take (min bs.length (D.limit - D.used)))).tick F' ∧ Ev (d :: m :: blks L) F' w w' := by
  have H := Lib.hid h
  have HL := Lib.hid hl
  have HR := Lib.hid hr
  clear h hl hr
  go_enter Tryd.func24, Tryd.ntmps24
  go_wp2_with (first | (go_at_call 42; refine (find_yes hs H.out HL.out HR.out).mono ?_; rintro e w' ⟨rfl, nd, rfl⟩))
  have H1 := Lib.hid (H.out.drewN nd)
  have HRB : Hid (RB (w.drewN nd) (.slice pb bs.length cb) bs) := Lib.hid (RC.keep hb fun _ _ => rfl)
  clear hb
  have hlim1 : ((D).limit : Int) ≤ 1099511627776 := by have := H1.out.ok.limit; omega
  have hlim2 : ((D).used : Int) ≤ (D).limit := by have := H1.out.ok.used; omega
  obtain ⟨nn, hnn⟩ : ∃ nn : Nat, nn = min bs.length ((D).limit - (D).used) := ⟨_, rfl⟩
  have hmin : min (bs.length : Int) (((D).limit : Int) - ((D).used : Int)) = (nn : Int) := by omega
  have hn1 : (nn : Int) ≤ bs.length := by omega
  have hn2 : (bs.length : Int) ≤ cb := by omega
  have hfit : (D).used + (bs.take nn).length ≤ (D).limit := by have := H1.out.ok.used; simp; omega
  have hln : (bs.take nn).length = nn := by simp; omega
  have hnn3 : ((D).used : Int) + (nn : Int) ≤ 1099511627776 := by rw [hln] at hfit; omega
  have HFIT := Lib.hid hfit
  have HLN := Lib.hid hln
  have HNN := Lib.hid hnn
  have hrok := H.out.raws r HR.out
  have q0 := hrok.cell0
  obtain ⟨g0, g1, g2, g3, g4, g5, gf⟩ := H.out.cells
  have qf := hrok.free
  have HOWN := Lib.hid (H1.out.raws r HR.out).own
  have hlenr : r.bytes.length ≤ 1099511627776 := by
    have h1 := get_le (H1.out.get_of HR.out)
    have h1 : r.bytes.length ≤ total (D).files := h1
    have h2 := H1.out.ok.used
    have h3 := H1.out.ok.limit
    have h4 : (D).used = total (D).files := rfl
    omega
  have HLENR := Lib.hid hlenr
  have hrbt := RB_take rfl HRB.out nn (by omega)
  have HRBT := Lib.hid hrbt
  have hds : sblk r.sv ≠ some d := fun e => H1.out.ne_d HR.out (k := d) (by simp [Raw.blks, e]) rfl
  have hfs : sblk r.sv ≠ some r.f := H1.out.sblk_ne HR.out
  have hdlt : d < (World.heap (w.drewN nd)).size := H1.out.lt d (by simp)
  have hflt : r.f < (World.heap (w.drewN nd)).size := H1.out.lt r.f (by simp only [List.mem_cons]; exact .inr (.inr (List.mem_flatMap.2 ⟨r, HR.out, by simp [Raw.blks]⟩)))
  have hfd : r.f ≠ d := H1.out.ne_d HR.out (by simp [Raw.blks])
  have hdf : d ≠ r.f := Ne.symm hfd
  have HDS := Lib.hid hds
  have HFS := Lib.hid hfs
  have HDLT := Lib.hid hdlt
  have HFLT := Lib.hid hflt
  clear hnn hfit hln hrok hlenr hrbt g3 g4 g5 g2 hds hfs hdlt hflt
  refine Rx.wp_region_sched (fun _ => True) [(0, .r), (1, .r), (2, .r), (3, .r), (4, .r), (5, .r), (6, .r), (7, .r), (8, .r), (9, .r), (10, .r), (11, .r), (12, .r)] (by kernel_rfl) (by kernel_rfl) trivial (fun _ _ x _ _ h => (by cases x <;> exact h)) ?_
  iterate 13 (refine Rx.wpSched_q rfl rfl ?_; go_wp2; refine ⟨rfl, ?_⟩)
  refine Rx.wpSched_nil ?_
  go_wp2
  refine Rx.wp_region_sched (fun _ => True) [(1, .r), (2, .r), (3, .r), (4, .r), (5, .r), (6, .r), (7, .r), (0, .h), (8, .e), (9, .r), (10, .r), (11, .e)] (by kernel_rfl) (by kernel_rfl) trivial (fun _ _ x _ _ h => (by cases x <;> exact h)) ?_
  iterate 7 (refine Rx.wpSched_q rfl rfl ?_; go_wp2; refine ⟨rfl, ?_⟩)
  (refine Rx.wpSched_h (v := ?_) rfl rfl ?_ ?_; rotate_left; (intro w' hS'; go_simp; try with_reducible rfl))
  refine Rx.wpSched_e rfl ?_
  refine wpList_append_bytes rfl _ _ rfl rfl rfl HOWN.out HRBT.out (by have := HLENR.out; have := HLN.out; omega) ?_
  intro pv lv cv w2 a1 a2 a3 a4
  have k1 : ∀ i, w2.cell? ⟨d, i, none⟩ = (World.cell? w) ⟨d, i, none⟩ := fun i => a2.cell HDLT.out HDS.out
  have k2 : ∀ i, w2.frozen? ⟨d, i, none⟩ = (World.frozen? w) ⟨d, i, none⟩ := fun i => a2.frozen HDLT.out HDS.out
  have k3 : ∀ i, w2.cell? ⟨r.f, i, none⟩ = (World.cell? w) ⟨r.f, i, none⟩ := fun i => a2.cell HFLT.out HFS.out
  have k4 : ∀ i, w2.frozen? ⟨r.f, i, none⟩ = (World.frozen? w) ⟨r.f, i, none⟩ := fun i => a2.frozen HFLT.out HFS.out
  have A1 := Lib.hid a1
  have A2 : Hid (Chg (fun k => sblk r.sv = some k) (w.drewN nd) w2) := Lib.hid (((Chg.refl _ (w.drewN nd)).drew.drew).trans a2 (fun k hk => .inl hk))
  have A3 := Lib.hid a3
  clear a1 a2 a3 a4
  go_wp2
  refine ⟨trivial, ?_⟩
  iterate 2 (refine Rx.wpSched_q rfl rfl ?_; go_wp2; refine ⟨rfl, ?_⟩)
  refine Rx.wpSched_e rfl ?_
  go_wp2
  refine ⟨trivial, ?_⟩
  refine Rx.wpSched_nil ?_
  go_wp2_with (first | (go_at_call 43; refine stop ?_))
  refine go ?_
  have hrep := app_rep (W := (w2.setCell ⟨r.f, 0, none⟩ (.slice pv lv cv)).setCell ⟨d, 1, none⟩ (.int .i64 (((D).used : Int) + (nn : Int)))) H1.out HR.out HFIT.out A1.out A2.out A3.out
    (((Chg.refl (fun k => k = r.f ∨ k = d) w2).setCell (p := ⟨r.f, 0, none⟩) (.inl (.inl rfl)) _).setCell (p := ⟨d, 1, none⟩) (.inl (.inr rfl)) _)
    (by simp only [hset, if_true, if_neg hdf]; rw [HLN.out]) (by simp only [hset, if_true, if_neg hfd])
  have HREP := Lib.hid hrep
  clear hrep k1 k2 k3 k4
  refine (crashes_any HREP.out.1).mono ?_
  rintro e w3 ⟨rfl, h3, hc3⟩
  have H3 := Lib.hid h3
  have HC3 := Lib.hid hc3
  clear h3 hc3
  have hff : (appD D r.name (bs.take nn)).fires = false := hfire
  have hfin : ∃ F', DRep w3 d (appD D r.name (bs.take (min bs.length (D.limit - D.used)))).tick F' ∧ Ev (d :: m :: blks L) F' w w3 := by
    rw [← HNN.out]
    refine ⟨_, ⟨m, _, clock, H3.out, rfl⟩, ⟨((Chg.refl (· ∈ d :: m :: blks L) w).drewN nd).trans (HREP.out.2.1.trans HC3.out (fun k hk => .inl (by subst hk; simp))) (fun k hk => .inl hk), fun k hk => HREP.out.2.2 k hk⟩⟩
  have HFIN := Lib.hid hfin
  clear hfin
  by_cases hlt : (nn : Int) < bs.length
  · go_wp2
    go_ret2
    refine ⟨?_, HFIN.out⟩
    have := hres.out
    have hnn := HNN.out
    rw [if_pos (by omega), ← hnn] at this
    cases this
    rfl
  · go_wp2
    go_ret2
    refine ⟨?_, HFIN.out⟩
    have := hres.out
    have hnn := HNN.out
    rw [if_neg (by omega), ← hnn] at this
    cases this
    rfl

set_option maxHeartbeats 4000000 in
theorem append_old_crash {pb : Option Addr} {cb : Nat} {bs : List UInt8} (hs : r.name.size ≤ maxLen) (h : DRaw w d m D L clock) (hl : D.look r.name = 0) (hr : r ∈ L) (hlb : bs.length ≤ cb)
    (hb : RB w (.slice pb bs.length cb) bs) (hfire : D.fires = true) :
    Calls Tryd.prog 24 #[.pointer (some ⟨d, 0, none⟩), .string r.name, .slice pb bs.length cb] w fun e w' => e = .returned (.tuple #[.int .i64 0, .int .i64 110]) ∧
      ∃ F', DRep w' d ((appD D r.name (bs.take (min bs.length (D.limit - D.used)))).tick.lose D.keep.toNat) F' ∧ Ev (d :: m :: blks L) F' w w' := by
  have H := Lib.hid h
  have HL := Lib.hid hl
  have HR := Lib.hid hr
  clear h hl hr
  go_enter Tryd.func24, Tryd.ntmps24
  go_wp2_with (first | (go_at_call 42; refine (find_yes hs H.out HL.out HR.out).mono ?_; rintro e w' ⟨rfl, nd, rfl⟩))
  have H1 := Lib.hid (H.out.drewN nd)
  have HRB : Hid (RB (w.drewN nd) (.slice pb bs.length cb) bs) := Lib.hid (RC.keep hb fun _ _ => rfl)
  clear hb
  have hlim1 : ((D).limit : Int) ≤ 1099511627776 := by have := H1.out.ok.limit; omega
  have hlim2 : ((D).used : Int) ≤ (D).limit := by have := H1.out.ok.used; omega
  obtain ⟨nn, hnn⟩ : ∃ nn : Nat, nn = min bs.length ((D).limit - (D).used) := ⟨_, rfl⟩
  have hmin : min (bs.length : Int) (((D).limit : Int) - ((D).used : Int)) = (nn : Int) := by omega
  have hn1 : (nn : Int) ≤ bs.length := by omega
  have hn2 : (bs.length : Int) ≤ cb := by omega
  have hfit : (D).used + (bs.take nn).length ≤ (D).limit := by have := H1.out.ok.used; simp; omega
  have hln : (bs.take nn).length = nn := by simp; omega
  have hnn3 : ((D).used : Int) + (nn : Int) ≤ 1099511627776 := by rw [hln] at hfit; omega
  have HFIT := Lib.hid hfit
  have HLN := Lib.hid hln
  have HNN := Lib.hid hnn
  have hrok := H.out.raws r HR.out
  have q0 := hrok.cell0
  obtain ⟨g0, g1, g2, g3, g4, g5, gf⟩ := H.out.cells
  have qf := hrok.free
  have HOWN := Lib.hid (H1.out.raws r HR.out).own
  have hlenr : r.bytes.length ≤ 1099511627776 := by
    have h1 := get_le (H1.out.get_of HR.out)
    have h1 : r.bytes.length ≤ total (D).files := h1
    have h2 := H1.out.ok.used
    have h3 := H1.out.ok.limit
    have h4 : (D).used = total (D).files := rfl
    omega
  have HLENR := Lib.hid hlenr
  have hrbt := RB_take rfl HRB.out nn (by omega)
  have HRBT := Lib.hid hrbt
  have hds : sblk r.sv ≠ some d := fun e => H1.out.ne_d HR.out (k := d) (by simp [Raw.blks, e]) rfl
  have hfs : sblk r.sv ≠ some r.f := H1.out.sblk_ne HR.out
  have hdlt : d < (World.heap (w.drewN nd)).size := H1.out.lt d (by simp)
  have hflt : r.f < (World.heap (w.drewN nd)).size := H1.out.lt r.f (by simp only [List.mem_cons]; exact .inr (.inr (List.mem_flatMap.2 ⟨r, HR.out, by simp [Raw.blks]⟩)))
  have hfd : r.f ≠ d := H1.out.ne_d HR.out (by simp [Raw.blks])
  have hdf : d ≠ r.f := Ne.symm hfd
  have HDS := Lib.hid hds
  have HFS := Lib.hid hfs
  have HDLT := Lib.hid hdlt
  have HFLT := Lib.hid hflt
  clear hnn hfit hln hrok hlenr hrbt g3 g4 g5 g2 hds hfs hdlt hflt
  refine Rx.wp_region_sched (fun _ => True) [(0, .r), (1, .r), (2, .r), (3, .r), (4, .r), (5, .r), (6, .r), (7, .r), (8, .r), (9, .r), (10, .r), (11, .r), (12, .r)] (by kernel_rfl) (by kernel_rfl) trivial (fun _ _ x _ _ h => (by cases x <;> exact h)) ?_
  iterate 13 (refine Rx.wpSched_q rfl rfl ?_; go_wp2; refine ⟨rfl, ?_⟩)
  refine Rx.wpSched_nil ?_
  go_wp2
  refine Rx.wp_region_sched (fun _ => True) [(1, .r), (2, .r), (3, .r), (4, .r), (5, .r), (6, .r), (7, .r), (0, .h), (8, .e), (9, .r), (10, .r), (11, .e)] (by kernel_rfl) (by kernel_rfl) trivial (fun _ _ x _ _ h => (by cases x <;> exact h)) ?_
  iterate 7 (refine Rx.wpSched_q rfl rfl ?_; go_wp2; refine ⟨rfl, ?_⟩)
  (refine Rx.wpSched_h (v := ?_) rfl rfl ?_ ?_; rotate_left; (intro w' hS'; go_simp; try with_reducible rfl))
  refine Rx.wpSched_e rfl ?_
  refine wpList_append_bytes rfl _ _ rfl rfl rfl HOWN.out HRBT.out (by have := HLENR.out; have := HLN.out; omega) ?_
  intro pv lv cv w2 a1 a2 a3 a4
  have k1 : ∀ i, w2.cell? ⟨d, i, none⟩ = (World.cell? w) ⟨d, i, none⟩ := fun i => a2.cell HDLT.out HDS.out
  have k2 : ∀ i, w2.frozen? ⟨d, i, none⟩ = (World.frozen? w) ⟨d, i, none⟩ := fun i => a2.frozen HDLT.out HDS.out
  have k3 : ∀ i, w2.cell? ⟨r.f, i, none⟩ = (World.cell? w) ⟨r.f, i, none⟩ := fun i => a2.cell HFLT.out HFS.out
  have k4 : ∀ i, w2.frozen? ⟨r.f, i, none⟩ = (World.frozen? w) ⟨r.f, i, none⟩ := fun i => a2.frozen HFLT.out HFS.out
  have A1 := Lib.hid a1
  have A2 : Hid (Chg (fun k => sblk r.sv = some k) (w.drewN nd) w2) := Lib.hid (((Chg.refl _ (w.drewN nd)).drew.drew).trans a2 (fun k hk => .inl hk))
  have A3 := Lib.hid a3
  clear a1 a2 a3 a4
  go_wp2
  refine ⟨trivial, ?_⟩
  iterate 2 (refine Rx.wpSched_q rfl rfl ?_; go_wp2; refine ⟨rfl, ?_⟩)
  refine Rx.wpSched_e rfl ?_
  go_wp2
  refine ⟨trivial, ?_⟩
  refine Rx.wpSched_nil ?_
  go_wp2_with (first | (go_at_call 43; refine stop ?_))
  refine go ?_
  have hrep := app_rep (W := (w2.setCell ⟨r.f, 0, none⟩ (.slice pv lv cv)).setCell ⟨d, 1, none⟩ (.int .i64 (((D).used : Int) + (nn : Int)))) H1.out HR.out HFIT.out A1.out A2.out A3.out
    (((Chg.refl (fun k => k = r.f ∨ k = d) w2).setCell (p := ⟨r.f, 0, none⟩) (.inl (.inl rfl)) _).setCell (p := ⟨d, 1, none⟩) (.inl (.inr rfl)) _)
    (by simp only [hset, if_true, if_neg hdf]; rw [HLN.out]) (by simp only [hset, if_true, if_neg hfd])
  have HREP := Lib.hid hrep
  clear hrep k1 k2 k3 k4
  refine (crashes_any HREP.out.1).mono ?_
  rintro e w3 ⟨rfl, h3, hc3⟩
  have hff : (appD D r.name (bs.take nn)).fires = true := hfire
  obtain ⟨kk, ek, k5, k6⟩ := keep_cell h3 HREP.out.1.ok hff
  have H3 := Lib.hid h3
  have HC3 := Lib.hid hc3
  clear h3 hc3
  go_wp2_with (first | (go_at_call 38; refine (lose_any kk k6 H3.out).mono ?_; rintro e w4 ⟨rfl, hc4, L', h4, h5⟩))
  go_ret2
  rw [← HNN.out, show D.keep.toNat = kk from ek.out]
  refine ⟨rfl, _, ⟨m, _, clock, h4, rfl⟩, ⟨((Chg.refl (· ∈ d :: m :: blks L) w).drewN nd).trans (HREP.out.2.1.trans ((HC3.out.mono (fun k hk => .inl (by subst hk; simp))).trans hc4 (fun k hk => .inl hk)) HREP.out.2.2) (fun k hk => .inl hk), fun k hk => HREP.out.2.2 k (h5 k hk)⟩⟩
end
end Go.Proofs
namespace Go.Proofs
open Go.RowKit Go.Hp Go.Dm Go.Dr
set_option linter.unusedVariables false
set_option maxRecDepth 10000

theorem _root_.Go.Dm.Dk.Ok.ins {D : Dk} (h : D.Ok) {nm : ByteArray} (hg : get D.files nm = none) : ({ D with files := ins ⟨nm, [], 0⟩ D.files } : Dk).Ok :=
  { h with
    sorted := ins_sorted h.sorted fun g hg' => get_none hg g hg'
    sure := fun f hf => by
      rcases List.mem_cons.1 ((ins_perm _ _).subset hf) with rfl | hf
      · simp
      · exact h.sure f hf
    used := by show total (Dm.ins _ _) ≤ _; rw [total_ins]; have := h.used; simpa [Dk.used] using this }

theorem upd_none {nm : ByteArray} {g : Fl → Fl} {l : List Fl} (h : get l nm = none) : upd nm g l = l := by
  have := get_none h
  unfold upd
  conv => rhs; rw [← List.map_id l]
  exact List.map_congr_left fun f hf => by simp [this f hf]
theorem upd_ins {nm : ByteArray} {g : Fl → Fl} (hg : ∀ f, (g f).name = f.name) : ∀ {l : List Fl}, get l nm = none → ∀ b s, upd nm g (ins ⟨nm, b, s⟩ l) = ins (g ⟨nm, b, s⟩) l
  | [], _, b, s => by simp [ins, upd]
  | f :: l, h, b, s => by
    have hn : f.name ≠ nm := get_none h f (by simp)
    have hl : get l nm = none := by unfold Dm.get at h ⊢; simp only [List.find?_cons] at h; split at h; cases h; exact h
    have ih := upd_ins hg hl b s
    have hu : upd nm g l = l := upd_none hl
    simp only [upd] at ih hu
    simp only [ins, hg]
    by_cases hc : nlt nm f.name
    · simp [hc, upd, hn, hu]
    · simp [hc, upd, hn, ih]
theorem get_ins {nm : ByteArray} {b : List UInt8} {s : Nat} {l : List Fl} (h : Sorted l) (hg : get l nm = none) : get (ins ⟨nm, b, s⟩ l) nm = some ⟨nm, b, s⟩ := by
  have h1 : Sorted (ins ⟨nm, b, s⟩ l) := ins_sorted h fun g hg' => get_none hg g hg'
  exact get_of_mem h1.nodup (f := ⟨nm, b, s⟩) ((ins_perm _ _).symm.subset (by simp))

section
variable {w : World} {d m : Nat} {D D' : Dk} {L : List Raw} {clock : Nat} {F : List Nat} {nm : ByteArray}

theorem look_new (hl : D.look nm = 112) : get D.files nm = none := by
  unfold Dk.look at hl
  split at hl
  · omega
  · split at hl
    · split at hl
      · omega
      · assumption
    · omega


theorem ev_new {w1 w2 : World} {A B C E : List Nat} (h1 : Chg (· = m) w w1) (hm : m ∈ A) (h2 : ∀ k ∈ B, k ∈ A ∨ w.heap.size ≤ k) (h3 : Chg (· ∈ B) w1 w2) (h4 : ∀ k ∈ C, k ∈ B ∨ w1.heap.size ≤ k) (h5 : ∀ k ∈ E, k ∈ C) : Ev A E w w2 := by
  have hs := h1.size
  refine ⟨(h1.mono fun k hk => .inl (by subst hk; exact hm)).trans h3 h2, fun k hk => ?_⟩
  rcases h4 k (h5 k hk) with h | h
  · exact h2 k h
  · exact .inr (by omega)

set_option maxHeartbeats 4000000 in
theorem append_new_ok {pb : Option Addr} {cb : Nat} {bs : List UInt8} (hs : nm.size ≤ maxLen) (h : DRaw w d m D L clock) (hl : D.look nm = 112) (hlb : bs.length ≤ cb)
    (hb : RB w (.slice pb bs.length cb) bs) (hap : ∀ k, sblk (.slice pb bs.length cb) = some k → k ≠ m) {D1 : Dk} (hD1 : Hid (D1 = { D with files := ins ⟨nm, [], 0⟩ D.files })) (hfire : D1.fires = false) (nr er : Nat) (hres : Hid ((nr, er) = (min bs.length (D1.limit - D1.used), if min bs.length (D1.limit - D1.used) < bs.length then 111 else 0))) :
    Calls Tryd.prog 24 #[.pointer (some ⟨d, 0, none⟩), .string nm, .slice pb bs.length cb] w fun e w' => e = .returned (.tuple #[.int .i64 (nr : Int), .int .i64 (er : Int)]) ∧
      ∃ F', DRep w' d (appD D1 nm (bs.take (min bs.length (D1.limit - D1.used)))).tick F' ∧ Ev (d :: m :: blks L) F' w w' := by
  have H := Lib.hid h
  have HL := Lib.hid hl
  have K2 : Hid (∀ n, ((w.drewN n).alloc (.cells #[.slice none 0 0, .int .i64 0] 85)).cell? ⟨d, 2, none⟩ = some (.map (some m))) := Lib.hid fun n => by
    rw [hcell_of ((halloc_lt (w := w.drewN n) (h.lt d (by simp))).trans h.head)]; rfl
  have KF : Hid (∀ n, ((w.drewN n).alloc (.cells #[.slice none 0 0, .int .i64 0] 85)).frozen? ⟨d, 2, none⟩ = false) := Lib.hid fun n => by
    exact hfree_of ((halloc_lt (w := w.drewN n) (h.lt d (by simp))).trans h.head) 2
  clear h hl
  go_enter Tryd.func24, Tryd.ntmps24
  go_wp2_with (first | (go_at_call 42; refine (find_new hs H.out HL.out).mono ?_; rintro e w' ⟨rfl, nd, rfl⟩; have k2 := K2.out nd; have kf := KF.out nd) | (at_mapUpdate; refine stop ?_))
  clear k2 kf
  have HRB0 : Hid (RB (w.drewN nd) (.slice pb bs.length cb) bs) := Lib.hid (RC.keep hb fun _ _ => rfl)
  clear hb
  refine go ?_
  refine wpList_store_map rfl _ _ _ _ rfl Tryd.underlying54 Tryd.underlying9 rfl rfl ((halloc_lt (w := w.drewN nd) (H.out.lt m (by simp))).trans H.out.map) (fun e he => by
    obtain ⟨x, hx, rfl⟩ := List.mem_map.1 he
    exact H.out.get_none (look_new HL.out) x hx) ?_
  intro w1 hc hm hsz
  obtain ⟨r, hrf, hrn, hr, HCH, H1, HEV⟩ : ∃ r : Raw, r.f = w.heap.size ∧ r.name = nm ∧ r ∈ L ++ [r] ∧ Hid (Chg (· = m) w w1) ∧ Hid (DRaw w1 d m D1 (L ++ [r]) (clock + 1)) ∧ Hid (∀ k ∈ d :: m :: blks (L ++ [r]), k ∈ d :: m :: blks L ∨ w.heap.size ≤ k) := by
    have hmlt : m < w.heap.size := H.out.lt m (by simp)
    have hch : Chg (· = m) (w.drewN nd) w1 := ((Chg.refl (· = m) (w.drewN nd)).alloc _).trans hc (fun k hk => .inl hk)
    have hat : w1.heap[w.heap.size]? = some (.cells #[.slice none 0 0, .int .i64 0] 85 (0, 0)) := (hc.block w.heap.size (by simp [World.alloc]) (by show w.heap.size ≠ m; omega)).trans (halloc_at (w.drewN nd) _)
    obtain ⟨f1, f2⟩ := (H.out.drewN nd).newFile (r' := ⟨nm, w.heap.size, .slice none 0 0, [], 0, clock⟩) (D' := D1) (look_new HL.out) rfl hch
      (by rw [hch.block d (H.out.lt d (by simp)) H.out.ne_dm, hD1.out]; exact (H.out.drewN nd).head.trans (by simp [headCells, Dk.used, total_ins]))
      (by rw [hm]; simp [Raw.en]; rfl) ⟨hat, OB_nil _ _⟩ (by simp [Raw.blks, sblk]) (by simp [Raw.blks, sblk]) (by rw [hD1.out]; exact ins_perm _ _) (by rw [hD1.out]; exact H.out.ok.ins (look_new HL.out))
    exact ⟨_, rfl, rfl, by simp, Lib.hid (((Chg.refl (· = m) w).drewN nd).trans hch (fun k hk => .inl hk)), Lib.hid f1, Lib.hid f2⟩
  have HRB : Hid (RB w1 (.slice pb bs.length cb) bs) := Lib.hid (RC.keep HRB0.out fun k hk => HCH.out.block k (RC.lt HRB0.out hk) (hap k hk))
  have HR := Lib.hid hr
  clear hc hm hsz hr HRB0
  rw [← hrf]
  have HRF := Lib.hid hrf
  clear hrf
  subst hrn
  go_wp2
  have hlim1 : ((D1).limit : Int) ≤ 1099511627776 := by have := H1.out.ok.limit; omega
  have hlim2 : ((D1).used : Int) ≤ (D1).limit := by have := H1.out.ok.used; omega
  obtain ⟨nn, hnn⟩ : ∃ nn : Nat, nn = min bs.length ((D1).limit - (D1).used) := ⟨_, rfl⟩
  have hmin : min (bs.length : Int) (((D1).limit : Int) - ((D1).used : Int)) = (nn : Int) := by omega
  have hn1 : (nn : Int) ≤ bs.length := by omega
  have hn2 : (bs.length : Int) ≤ cb := by omega
  have hfit : (D1).used + (bs.take nn).length ≤ (D1).limit := by have := H1.out.ok.used; simp; omega
  have hln : (bs.take nn).length = nn := by simp; omega
  have hnn3 : ((D1).used : Int) + (nn : Int) ≤ 1099511627776 := by rw [hln] at hfit; omega
  have HFIT := Lib.hid hfit
  have HLN := Lib.hid hln
  have HNN := Lib.hid hnn
  have hrok := H1.out.raws r HR.out
  have q0 := hrok.cell0
  obtain ⟨g0, g1, g2, g3, g4, g5, gf⟩ := H1.out.cells
  have qf := hrok.free
  have HOWN := Lib.hid (H1.out.raws r HR.out).own
  have hlenr : r.bytes.length ≤ 1099511627776 := by
    have h1 := get_le (H1.out.get_of HR.out)
    have h1 : r.bytes.length ≤ total (D1).files := h1
    have h2 := H1.out.ok.used
    have h3 := H1.out.ok.limit
    have h4 : (D1).used = total (D1).files := rfl
    omega
  have HLENR := Lib.hid hlenr
  have hrbt := RB_take rfl HRB.out nn (by omega)
  have HRBT := Lib.hid hrbt
  have hds : sblk r.sv ≠ some d := fun e => H1.out.ne_d HR.out (k := d) (by simp [Raw.blks, e]) rfl
  have hfs : sblk r.sv ≠ some r.f := H1.out.sblk_ne HR.out
  have hdlt : d < (World.heap w1).size := H1.out.lt d (by simp)
  have hflt : r.f < (World.heap w1).size := H1.out.lt r.f (by simp only [List.mem_cons]; exact .inr (.inr (List.mem_flatMap.2 ⟨r, HR.out, by simp [Raw.blks]⟩)))
  have hfd : r.f ≠ d := H1.out.ne_d HR.out (by simp [Raw.blks])
  have hdf : d ≠ r.f := Ne.symm hfd
  have HDS := Lib.hid hds
  have HFS := Lib.hid hfs
  have HDLT := Lib.hid hdlt
  have HFLT := Lib.hid hflt
  clear hnn hfit hln hrok hlenr hrbt g3 g4 g5 g2 hds hfs hdlt hflt
  refine Rx.wp_region_sched (fun _ => True) [(0, .r), (1, .r), (2, .r), (3, .r), (4, .r), (5, .r), (6, .r), (7, .r), (8, .r), (9, .r), (10, .r), (11, .r), (12, .r)] (by kernel_rfl) (by kernel_rfl) trivial (fun _ _ x _ _ h => (by cases x <;> exact h)) ?_
  iterate 13 (refine Rx.wpSched_q rfl rfl ?_; go_wp2; refine ⟨rfl, ?_⟩)
  refine Rx.wpSched_nil ?_
  go_wp2
  refine Rx.wp_region_sched (fun _ => True) [(1, .r), (2, .r), (3, .r), (4, .r), (5, .r), (6, .r), (7, .r), (0, .h), (8, .e), (9, .r), (10, .r), (11, .e)] (by kernel_rfl) (by kernel_rfl) trivial (fun _ _ x _ _ h => (by cases x <;> exact h)) ?_
  iterate 7 (refine Rx.wpSched_q rfl rfl ?_; go_wp2; refine ⟨rfl, ?_⟩)
  (refine Rx.wpSched_h (v := ?_) rfl rfl ?_ ?_; rotate_left; (intro w' hS'; go_simp; try with_reducible rfl))
  refine Rx.wpSched_e rfl ?_
  refine wpList_append_bytes rfl _ _ rfl rfl rfl HOWN.out HRBT.out (by have := HLENR.out; have := HLN.out; omega) ?_
  intro pv lv cv w2 a1 a2 a3 a4
  have k1 : ∀ i, w2.cell? ⟨d, i, none⟩ = (World.cell? w1) ⟨d, i, none⟩ := fun i => a2.cell HDLT.out HDS.out
  have k2 : ∀ i, w2.frozen? ⟨d, i, none⟩ = (World.frozen? w1) ⟨d, i, none⟩ := fun i => a2.frozen HDLT.out HDS.out
  have k3 : ∀ i, w2.cell? ⟨r.f, i, none⟩ = (World.cell? w1) ⟨r.f, i, none⟩ := fun i => a2.cell HFLT.out HFS.out
  have k4 : ∀ i, w2.frozen? ⟨r.f, i, none⟩ = (World.frozen? w1) ⟨r.f, i, none⟩ := fun i => a2.frozen HFLT.out HFS.out
  have A1 := Lib.hid a1
  have A2 : Hid (Chg (fun k => sblk r.sv = some k) w1 w2) := Lib.hid (((Chg.refl _ w1).drew.drew).trans a2 (fun k hk => .inl hk))
  have A3 := Lib.hid a3
  clear a1 a2 a3 a4
  go_wp2
  refine ⟨trivial, ?_⟩
  iterate 2 (refine Rx.wpSched_q rfl rfl ?_; go_wp2; refine ⟨rfl, ?_⟩)
  refine Rx.wpSched_e rfl ?_
  go_wp2
  refine ⟨trivial, ?_⟩
  refine Rx.wpSched_nil ?_
  go_wp2_with (first | (go_at_call 43; refine stop ?_))
  refine go ?_
  have hrep := app_rep (W := (w2.setCell ⟨r.f, 0, none⟩ (.slice pv lv cv)).setCell ⟨d, 1, none⟩ (.int .i64 (((D1).used : Int) + (nn : Int)))) H1.out HR.out HFIT.out A1.out A2.out A3.out
    (((Chg.refl (fun k => k = r.f ∨ k = d) w2).setCell (p := ⟨r.f, 0, none⟩) (.inl (.inl rfl)) _).setCell (p := ⟨d, 1, none⟩) (.inl (.inr rfl)) _)
    (by simp only [hset, if_true, if_neg hdf]; rw [HLN.out]) (by simp only [hset, if_true, if_neg hfd])
  have HREP := Lib.hid hrep
  clear hrep k1 k2 k3 k4
  refine (crashes_any HREP.out.1).mono ?_
  rintro e w3 ⟨rfl, h3, hc3⟩
  have H3 := Lib.hid h3
  have HC3 := Lib.hid hc3
  clear h3 hc3
  have hff : (appD D1 r.name (bs.take nn)).fires = false := hfire
  have hfin : ∃ F', DRep w3 d (appD D1 r.name (bs.take (min bs.length (D1.limit - D1.used)))).tick F' ∧ Ev (d :: m :: blks L) F' w w3 := by
    rw [← HNN.out]
    refine ⟨_, ⟨m, _, _, H3.out, rfl⟩, ev_new HCH.out (by simp) HEV.out (HREP.out.2.1.trans HC3.out (fun k hk => .inl (by subst hk; simp))) HREP.out.2.2 (fun k hk => hk)⟩
  have HFIN := Lib.hid hfin
  clear hfin
  by_cases hlt : (nn : Int) < bs.length
  · go_wp2
    go_ret2
    refine ⟨?_, HFIN.out⟩
    have := hres.out
    have hnn := HNN.out
    rw [if_pos (by omega), ← hnn] at this
    cases this
    rfl
  · go_wp2
    go_ret2
    refine ⟨?_, HFIN.out⟩
    have := hres.out
    have hnn := HNN.out
    rw [if_neg (by omega), ← hnn] at this
    cases this
    rfl

set_option maxHeartbeats 4000000 in
theorem append_new_crash {pb : Option Addr} {cb : Nat} {bs : List UInt8} (hs : nm.size ≤ maxLen) (h : DRaw w d m D L clock) (hl : D.look nm = 112) (hlb : bs.length ≤ cb)
    (hb : RB w (.slice pb bs.length cb) bs) (hap : ∀ k, sblk (.slice pb bs.length cb) = some k → k ≠ m) {D1 : Dk} (hD1 : Hid (D1 = { D with files := ins ⟨nm, [], 0⟩ D.files })) (hfire : D1.fires = true) :
    Calls Tryd.prog 24 #[.pointer (some ⟨d, 0, none⟩), .string nm, .slice pb bs.length cb] w fun e w' => e = .returned (.tuple #[.int .i64 0, .int .i64 110]) ∧
      ∃ F', DRep w' d ((appD D1 nm (bs.take (min bs.length (D1.limit - D1.used)))).tick.lose D1.keep.toNat) F' ∧ Ev (d :: m :: blks L) F' w w' := by
  have H := Lib.hid h
  have HL := Lib.hid hl
  have K2 : Hid (∀ n, ((w.drewN n).alloc (.cells #[.slice none 0 0, .int .i64 0] 85)).cell? ⟨d, 2, none⟩ = some (.map (some m))) := Lib.hid fun n => by
    rw [hcell_of ((halloc_lt (w := w.drewN n) (h.lt d (by simp))).trans h.head)]; rfl
  have KF : Hid (∀ n, ((w.drewN n).alloc (.cells #[.slice none 0 0, .int .i64 0] 85)).frozen? ⟨d, 2, none⟩ = false) := Lib.hid fun n => by
    exact hfree_of ((halloc_lt (w := w.drewN n) (h.lt d (by simp))).trans h.head) 2
  clear h hl
  go_enter Tryd.func24, Tryd.ntmps24
  go_wp2_with (first | (go_at_call 42; refine (find_new hs H.out HL.out).mono ?_; rintro e w' ⟨rfl, nd, rfl⟩; have k2 := K2.out nd; have kf := KF.out nd) | (at_mapUpdate; refine stop ?_))
  clear k2 kf
  have HRB0 : Hid (RB (w.drewN nd) (.slice pb bs.length cb) bs) := Lib.hid (RC.keep hb fun _ _ => rfl)
  clear hb
  refine go ?_
  refine wpList_store_map rfl _ _ _ _ rfl Tryd.underlying54 Tryd.underlying9 rfl rfl ((halloc_lt (w := w.drewN nd) (H.out.lt m (by simp))).trans H.out.map) (fun e he => by
    obtain ⟨x, hx, rfl⟩ := List.mem_map.1 he
    exact H.out.get_none (look_new HL.out) x hx) ?_
  intro w1 hc hm hsz
  obtain ⟨r, hrf, hrn, hr, HCH, H1, HEV⟩ : ∃ r : Raw, r.f = w.heap.size ∧ r.name = nm ∧ r ∈ L ++ [r] ∧ Hid (Chg (· = m) w w1) ∧ Hid (DRaw w1 d m D1 (L ++ [r]) (clock + 1)) ∧ Hid (∀ k ∈ d :: m :: blks (L ++ [r]), k ∈ d :: m :: blks L ∨ w.heap.size ≤ k) := by
    have hmlt : m < w.heap.size := H.out.lt m (by simp)
    have hch : Chg (· = m) (w.drewN nd) w1 := ((Chg.refl (· = m) (w.drewN nd)).alloc _).trans hc (fun k hk => .inl hk)
    have hat : w1.heap[w.heap.size]? = some (.cells #[.slice none 0 0, .int .i64 0] 85 (0, 0)) := (hc.block w.heap.size (by simp [World.alloc]) (by show w.heap.size ≠ m; omega)).trans (halloc_at (w.drewN nd) _)
    obtain ⟨f1, f2⟩ := (H.out.drewN nd).newFile (r' := ⟨nm, w.heap.size, .slice none 0 0, [], 0, clock⟩) (D' := D1) (look_new HL.out) rfl hch
      (by rw [hch.block d (H.out.lt d (by simp)) H.out.ne_dm, hD1.out]; exact (H.out.drewN nd).head.trans (by simp [headCells, Dk.used, total_ins]))
      (by rw [hm]; simp [Raw.en]; rfl) ⟨hat, OB_nil _ _⟩ (by simp [Raw.blks, sblk]) (by simp [Raw.blks, sblk]) (by rw [hD1.out]; exact ins_perm _ _) (by rw [hD1.out]; exact H.out.ok.ins (look_new HL.out))
    exact ⟨_, rfl, rfl, by simp, Lib.hid (((Chg.refl (· = m) w).drewN nd).trans hch (fun k hk => .inl hk)), Lib.hid f1, Lib.hid f2⟩
  have HRB : Hid (RB w1 (.slice pb bs.length cb) bs) := Lib.hid (RC.keep HRB0.out fun k hk => HCH.out.block k (RC.lt HRB0.out hk) (hap k hk))
  have HR := Lib.hid hr
  clear hc hm hsz hr HRB0
  rw [← hrf]
  have HRF := Lib.hid hrf
  clear hrf
  subst hrn
  go_wp2
  have hlim1 : ((D1).limit : Int) ≤ 1099511627776 := by have := H1.out.ok.limit; omega
  have hlim2 : ((D1).used : Int) ≤ (D1).limit := by have := H1.out.ok.used; omega
  obtain ⟨nn, hnn⟩ : ∃ nn : Nat, nn = min bs.length ((D1).limit - (D1).used) := ⟨_, rfl⟩
  have hmin : min (bs.length : Int) (((D1).limit : Int) - ((D1).used : Int)) = (nn : Int) := by omega
  have hn1 : (nn : Int) ≤ bs.length := by omega
  have hn2 : (bs.length : Int) ≤ cb := by omega
  have hfit : (D1).used + (bs.take nn).length ≤ (D1).limit := by have := H1.out.ok.used; simp; omega
  have hln : (bs.take nn).length = nn := by simp; omega
  have hnn3 : ((D1).used : Int) + (nn : Int) ≤ 1099511627776 := by rw [hln] at hfit; omega
  have HFIT := Lib.hid hfit
  have HLN := Lib.hid hln
  have HNN := Lib.hid hnn
  have hrok := H1.out.raws r HR.out
  have q0 := hrok.cell0
  obtain ⟨g0, g1, g2, g3, g4, g5, gf⟩ := H1.out.cells
  have qf := hrok.free
  have HOWN := Lib.hid (H1.out.raws r HR.out).own
  have hlenr : r.bytes.length ≤ 1099511627776 := by
    have h1 := get_le (H1.out.get_of HR.out)
    have h1 : r.bytes.length ≤ total (D1).files := h1
    have h2 := H1.out.ok.used
    have h3 := H1.out.ok.limit
    have h4 : (D1).used = total (D1).files := rfl
    omega
  have HLENR := Lib.hid hlenr
  have hrbt := RB_take rfl HRB.out nn (by omega)
  have HRBT := Lib.hid hrbt
  have hds : sblk r.sv ≠ some d := fun e => H1.out.ne_d HR.out (k := d) (by simp [Raw.blks, e]) rfl
  have hfs : sblk r.sv ≠ some r.f := H1.out.sblk_ne HR.out
  have hdlt : d < (World.heap w1).size := H1.out.lt d (by simp)
  have hflt : r.f < (World.heap w1).size := H1.out.lt r.f (by simp only [List.mem_cons]; exact .inr (.inr (List.mem_flatMap.2 ⟨r, HR.out, by simp [Raw.blks]⟩)))
  have hfd : r.f ≠ d := H1.out.ne_d HR.out (by simp [Raw.blks])
  have hdf : d ≠ r.f := Ne.symm hfd
  have HDS := Lib.hid hds
  have HFS := Lib.hid hfs
  have HDLT := Lib.hid hdlt
  have HFLT := Lib.hid hflt
  clear hnn hfit hln hrok hlenr hrbt g3 g4 g5 g2 hds hfs hdlt hflt
  refine Rx.wp_region_sched (fun _ => True) [(0, .r), (1, .r), (2, .r), (3, .r), (4, .r), (5, .r), (6, .r), (7, .r), (8, .r), (9, .r), (10, .r), (11, .r), (12, .r)] (by kernel_rfl) (by kernel_rfl) trivial (fun _ _ x _ _ h => (by cases x <;> exact h)) ?_
  iterate 13 (refine Rx.wpSched_q rfl rfl ?_; go_wp2; refine ⟨rfl, ?_⟩)
  refine Rx.wpSched_nil ?_
  go_wp2
  refine Rx.wp_region_sched (fun _ => True) [(1, .r), (2, .r), (3, .r), (4, .r), (5, .r), (6, .r), (7, .r), (0, .h), (8, .e), (9, .r), (10, .r), (11, .e)] (by kernel_rfl) (by kernel_rfl) trivial (fun _ _ x _ _ h => (by cases x <;> exact h)) ?_
  iterate 7 (refine Rx.wpSched_q rfl rfl ?_; go_wp2; refine ⟨rfl, ?_⟩)
  (refine Rx.wpSched_h (v := ?_) rfl rfl ?_ ?_; rotate_left; (intro w' hS'; go_simp; try with_reducible rfl))
  refine Rx.wpSched_e rfl ?_
  refine wpList_append_bytes rfl _ _ rfl rfl rfl HOWN.out HRBT.out (by have := HLENR.out; have := HLN.out; omega) ?_
  intro pv lv cv w2 a1 a2 a3 a4
  have k1 : ∀ i, w2.cell? ⟨d, i, none⟩ = (World.cell? w1) ⟨d, i, none⟩ := fun i => a2.cell HDLT.out HDS.out
  have k2 : ∀ i, w2.frozen? ⟨d, i, none⟩ = (World.frozen? w1) ⟨d, i, none⟩ := fun i => a2.frozen HDLT.out HDS.out
  have k3 : ∀ i, w2.cell? ⟨r.f, i, none⟩ = (World.cell? w1) ⟨r.f, i, none⟩ := fun i => a2.cell HFLT.out HFS.out
  have k4 : ∀ i, w2.frozen? ⟨r.f, i, none⟩ = (World.frozen? w1) ⟨r.f, i, none⟩ := fun i => a2.frozen HFLT.out HFS.out
  have A1 := Lib.hid a1
  have A2 : Hid (Chg (fun k => sblk r.sv = some k) w1 w2) := Lib.hid (((Chg.refl _ w1).drew.drew).trans a2 (fun k hk => .inl hk))
  have A3 := Lib.hid a3
  clear a1 a2 a3 a4
  go_wp2
  refine ⟨trivial, ?_⟩
  iterate 2 (refine Rx.wpSched_q rfl rfl ?_; go_wp2; refine ⟨rfl, ?_⟩)
  refine Rx.wpSched_e rfl ?_
  go_wp2
  refine ⟨trivial, ?_⟩
  refine Rx.wpSched_nil ?_
  go_wp2_with (first | (go_at_call 43; refine stop ?_))
  refine go ?_
  have hrep := app_rep (W := (w2.setCell ⟨r.f, 0, none⟩ (.slice pv lv cv)).setCell ⟨d, 1, none⟩ (.int .i64 (((D1).used : Int) + (nn : Int)))) H1.out HR.out HFIT.out A1.out A2.out A3.out
    (((Chg.refl (fun k => k = r.f ∨ k = d) w2).setCell (p := ⟨r.f, 0, none⟩) (.inl (.inl rfl)) _).setCell (p := ⟨d, 1, none⟩) (.inl (.inr rfl)) _)
    (by simp only [hset, if_true, if_neg hdf]; rw [HLN.out]) (by simp only [hset, if_true, if_neg hfd])
  have HREP := Lib.hid hrep
  clear hrep k1 k2 k3 k4
  refine (crashes_any HREP.out.1).mono ?_
  rintro e w3 ⟨rfl, h3, hc3⟩
  have hff : (appD D1 r.name (bs.take nn)).fires = true := hfire
  obtain ⟨kk, ek, k5, k6⟩ := keep_cell h3 HREP.out.1.ok hff
  have H3 := Lib.hid h3
  have HC3 := Lib.hid hc3
  clear h3 hc3
  go_wp2_with (first | (go_at_call 38; refine (lose_any kk k6 H3.out).mono ?_; rintro e w4 ⟨rfl, hc4, L', h4, h5⟩))
  go_ret2
  rw [← HNN.out, show D1.keep.toNat = kk from ek.out]
  refine ⟨rfl, _, ⟨m, _, _, h4, rfl⟩, ev_new HCH.out (by simp) HEV.out (HREP.out.2.1.trans ((HC3.out.mono (fun k hk => .inl (by subst hk; simp))).trans hc4 (fun k hk => .inl hk)) HREP.out.2.2) HREP.out.2.2 h5⟩

end
end Go.Proofs
namespace Go.Proofs
open Go.RowKit Go.Hp Go.Dm Go.Dr
set_option linter.unusedVariables false
set_option maxRecDepth 10000

section
variable {w : World} {d m : Nat} {D D' : Dk} {L : List Raw} {clock : Nat} {r : Raw} {F : List Nat} {nm : ByteArray}

set_option maxHeartbeats 1600000 in
theorem read_place (a b : Int) (hs : r.name.size ≤ maxLen) (h : DRaw w d m D L clock) (hl : D.look r.name = 0) (hr : r ∈ L) (hk : a < 0 ∨ b < 0 ∨ (r.bytes.length : Int) < a ∨ (r.bytes.length : Int) - a < b) :
    Calls Tryd.prog 28 #[.pointer (some ⟨d, 0, none⟩), .string r.name, .int .i64 a, .int .i64 b] w fun e w' => e = .returned (.tuple #[.slice none 0 0, .int .i64 12]) ∧ ∃ n, w' = w.drewN n := by
  have hrok := h.raws r hr
  have q0 := hrok.cell0
  obtain ⟨p, c, hsv, hnc, hcm, hlen, hown⟩ := hrok.own
  rw [hsv] at q0
  have hlb : r.bytes.length ≤ 1099511627776 := by
    have h1 := get_le (h.get_of hr)
    have h1 : r.bytes.length ≤ total D.files := h1
    have h2 := h.ok.used
    have h3 := h.ok.limit
    have h4 : D.used = total D.files := rfl
    omega
  have hlb : (r.bytes.length : Int) ≤ 1099511627776 := by omega
  clear hrok hsv hnc hcm hlen hown
  have H := Lib.hid h
  have HL := Lib.hid hl
  have HR := Lib.hid hr
  clear h hl hr
  by_cases ha0 : a < 0
  · clear hlb
    clear hk
    go_enter Tryd.func28, Tryd.ntmps28
    go_wp2_with (first | (go_at_call 42; refine (find_yes hs H.out HL.out HR.out).mono ?_; rintro e w' ⟨rfl, nd, rfl⟩))
    go_ret2
    exact ⟨rfl, nd, rfl⟩
  · by_cases hb0 : b < 0
    · clear hlb
      clear hk
      go_enter Tryd.func28, Tryd.ntmps28
      go_wp2_with (first | (go_at_call 42; refine (find_yes hs H.out HL.out HR.out).mono ?_; rintro e w' ⟨rfl, nd, rfl⟩))
      go_ret2
      exact ⟨rfl, nd, rfl⟩
    · by_cases ha1 : (r.bytes.length : Int) < a
      · clear hlb
        clear hk
        go_enter Tryd.func28, Tryd.ntmps28
        go_wp2_with (first | (go_at_call 42; refine (find_yes hs H.out HL.out HR.out).mono ?_; rintro e w' ⟨rfl, nd, rfl⟩))
        go_ret2
        exact ⟨rfl, nd, rfl⟩
      · have hk4 : (r.bytes.length : Int) - a < b := by omega
        clear hk
        go_enter Tryd.func28, Tryd.ntmps28
        go_wp2_with (first | (go_at_call 42; refine (find_yes hs H.out HL.out HR.out).mono ?_; rintro e w' ⟨rfl, nd, rfl⟩))
        go_ret2
        exact ⟨rfl, nd, rfl⟩

theorem look_raw (h : DRaw w d m D L clock) (hl : D.look nm = 0) : ∃ r ∈ L, r.name = nm := by
  unfold Dk.look at hl
  split at hl
  · omega
  · split at hl
    · split at hl
      · rename_i f hf
        obtain ⟨r, hr, e, _⟩ := h.get_some hf
        exact ⟨r, hr, e⟩
      · omega
    · omega

theorem _root_.Go.Dr.DRaw.len_of (h : DRaw w d m D L clock) (hr : r ∈ L) : lenOf D.files r.name = r.bytes.length := by unfold lenOf; rw [h.get_of hr]; rfl
theorem _root_.Go.Dr.DRaw.bytes_of (h : DRaw w d m D L clock) (hr : r ∈ L) : bytesOf D.files r.name = r.bytes := by unfold bytesOf; rw [h.get_of hr]; rfl
theorem _root_.Go.Dr.DRaw.sure_of (h : DRaw w d m D L clock) (hr : r ∈ L) : sureOf D.files r.name = r.sure := by unfold sureOf; rw [h.get_of hr]; rfl

/-- what a call leaves: the disk D', nothing else changed -/
def Left (w : World) (d : Nat) (F : List Nat) (D' : Dk) (w' : World) : Prop := ∃ F', DRep w' d D' F' ∧ Ev F F' w w'

theorem Left.same (h : DRep w d D F) (n : Nat) : Left w d F D (w.drewN n) := ⟨F, h.keep fun _ _ => rfl, (Ev.refl F w).drewN n⟩
theorem left_same {w' : World} (h : DRep w d D F) (hw : ∃ n, w' = w.drewN n) : Left w d F D w' := by obtain ⟨n, rfl⟩ := hw; exact Left.same h n

theorem sync_any (hs : nm.size ≤ maxLen) (h : DRep w d D F) :
    Calls Tryd.prog 31 #[.pointer (some ⟨d, 0, none⟩), .string nm] w fun e w' => e = .returned (.int .i64 ((D.sync nm).1 : Int)) ∧ Left w d F (D.sync nm).2 w' := by
  unfold Dk.sync
  by_cases hl : D.look nm = 0
  · rw [if_pos hl]
    obtain ⟨m, L, clock, h, rfl⟩ := h
    obtain ⟨r, hr, rfl⟩ := look_raw h hl
    unfold Dk.change
    by_cases hf : D.fires = true
    · rw [if_pos hf]
      exact sync_crash hs h hl hr hf
    · rw [if_neg hf]
      exact sync_ok hs h hl hr (by simpa using hf)
  · rw [if_neg hl]
    exact (sync_no hs h hl).mono fun e w' ⟨h1, h2⟩ => ⟨h1, left_same h h2⟩

theorem cut_any (k : Int) (hs : nm.size ≤ maxLen) (h : DRep w d D F) :
    Calls Tryd.prog 30 #[.pointer (some ⟨d, 0, none⟩), .string nm, .int .i64 k] w fun e w' => e = .returned (.int .i64 ((D.cut nm k).1 : Int)) ∧ Left w d F (D.cut nm k).2 w' := by
  unfold Dk.cut
  by_cases hl : D.look nm = 0
  · rw [if_pos hl]
    obtain ⟨m, L, clock, h, rfl⟩ := h
    obtain ⟨r, hr, rfl⟩ := look_raw h hl
    rw [h.len_of hr]
    by_cases hk : k < 0 ∨ (r.bytes.length : Int) < k
    · rw [if_pos hk]
      exact (cut_place k hs h hl hr hk).mono fun e w' ⟨h1, h2⟩ => ⟨h1, left_same ⟨m, L, clock, h, rfl⟩ h2⟩
    · rw [if_neg hk]
      obtain ⟨n, rfl⟩ : ∃ n : Nat, k = n := ⟨k.toNat, by omega⟩
      unfold Dk.change
      by_cases hf : D.fires = true
      · rw [if_pos hf]
        exact cut_crash n hs h hl hr (by omega) hf
      · rw [if_neg hf]
        exact cut_ok n hs h hl hr (by omega) (by simpa using hf)
  · rw [if_neg hl]
    exact (cut_no k hs h hl).mono fun e w' ⟨h1, h2⟩ => ⟨h1, left_same h h2⟩

theorem size_any (hs : nm.size ≤ maxLen) (h : DRep w d D F) :
    Calls Tryd.prog 27 #[.pointer (some ⟨d, 0, none⟩), .string nm] w fun e w' =>
      e = .returned (.tuple #[.int .i64 ((D.size nm).1 : Int), .int .i64 ((D.size nm).2.1 : Int), .int .i64 ((D.size nm).2.2 : Int)]) ∧ Left w d F D w' := by
  unfold Dk.size
  by_cases hl : D.look nm = 0
  · rw [if_pos hl]
    obtain ⟨m, L, clock, h, rfl⟩ := h
    obtain ⟨r, hr, rfl⟩ := look_raw h hl
    rw [h.len_of hr, h.sure_of hr]
    exact (size_yes hs h hl hr).mono fun e w' ⟨h1, h2⟩ => ⟨h1, left_same ⟨m, L, clock, h, rfl⟩ h2⟩
  · rw [if_neg hl]
    exact (size_no hs h hl).mono fun e w' ⟨h1, h2⟩ => ⟨h1, left_same h h2⟩

/-- bytes are answered in memory of their own, beside the disk -/
def Tell (w : World) (d : Nat) (F : List Nat) (D : Dk) (l : List UInt8) (c : Nat) (e : Ending) (w' : World) : Prop :=
  ∃ v, e = .returned (.tuple #[v, .int .i64 (c : Int)]) ∧ OB w' 5 v l ∧ (∀ b, sblk v = some b → w.heap.size ≤ b) ∧ Chg (fun _ => False) w w' ∧ DRep w' d D F

theorem read_any (a b : Int) (hs : nm.size ≤ maxLen) (h : DRep w d D F) :
    Calls Tryd.prog 28 #[.pointer (some ⟨d, 0, none⟩), .string nm, .int .i64 a, .int .i64 b] w (Tell w d F D (D.read nm a b).1 (D.read nm a b).2) := by
  unfold Dk.read
  have hno : ∀ (c : Nat) e w', (e = .returned (.tuple #[.slice none 0 0, .int .i64 (c : Int)]) ∧ ∃ n, w' = w.drewN n) → Tell w d F D [] c e w' := fun c e w' ⟨h1, n, h2⟩ => by
    subst h2
    exact ⟨_, h1, OB_nil _ _, by simp [sblk], (Chg.refl _ w).drewN n, h.keep fun _ _ => rfl⟩
  by_cases hl : D.look nm = 0
  · rw [if_pos hl]
    have h0 := h
    obtain ⟨m, L, clock, h, rfl⟩ := h
    obtain ⟨r, hr, rfl⟩ := look_raw h hl
    rw [h.len_of hr, h.bytes_of hr]
    by_cases hk : a < 0 ∨ b < 0 ∨ (r.bytes.length : Int) < a ∨ (r.bytes.length : Int) - a < b
    · rw [if_pos hk]
      exact (read_place a b hs h hl hr hk).mono fun e w' hh => hno 12 e w' hh
    · rw [if_neg hk]
      obtain ⟨x, rfl⟩ : ∃ n : Nat, a = n := ⟨a.toNat, by omega⟩
      obtain ⟨y, rfl⟩ : ∃ n : Nat, b = n := ⟨b.toNat, by omega⟩
      refine (read_ok x y hs h hl hr (by omega)).mono ?_
      rintro e w' ⟨v, h1, h2, h3, h4⟩
      exact ⟨v, h1, h2, h4, h3, h0.chg h3 fun _ _ h => h⟩
  · rw [if_neg hl]
    exact (read_no a b hs h hl).mono fun e w' hh => hno _ e w' hh

theorem Ok_fires {D : Dk} : D.fires = true ∨ D.fires = false := by cases D.fires <;> simp

theorem append_eq {bs : List UInt8} {D1 : Dk} (hl : D.look nm = 0 ∨ D.look nm = 112) (h1 : { D with files := putB nm (bs.take (min bs.length (D.limit - D.used))) D.files } = D1) :
    D.append nm bs = if D.fires then ((0, 110), D1.tick.lose D.keep.toNat) else ((min bs.length (D.limit - D.used), if min bs.length (D.limit - D.used) < bs.length then 111 else 0), D1.tick) := by
  subst h1
  unfold Dk.append
  rw [if_pos hl]
  rfl

theorem append_any {bv : Value} {bs : List UInt8} (hs : nm.size ≤ maxLen) (h : DRep w d D F) (hb : RB w bv bs) (hap : ∀ k, sblk bv = some k → k ∉ F) :
    Calls Tryd.prog 24 #[.pointer (some ⟨d, 0, none⟩), .string nm, bv] w fun e w' =>
      e = .returned (.tuple #[.int .i64 ((D.append nm bs).1.1 : Int), .int .i64 ((D.append nm bs).1.2 : Int)]) ∧ Left w d F (D.append nm bs).2 w' := by
  by_cases hl : D.look nm = 0 ∨ D.look nm = 112
  · have hl0 := hl
    obtain ⟨m, L, clock, h, rfl⟩ := h
    obtain ⟨pb, cb, rfl, hlb, -⟩ := id hb
    rcases hl with hl | hl
    · obtain ⟨r, hr, rfl⟩ := look_raw h hl
      rw [append_eq (D1 := appD D r.name (bs.take (min bs.length (D.limit - D.used)))) hl0 (by unfold putB; rw [h.get_of hr]; rfl)]
      by_cases hf : D.fires = true
      · rw [if_pos hf]
        exact append_old_crash hs h hl hr hlb hb hf
      · rw [if_neg hf]
        exact append_old_ok hs h hl hr hlb hb (by simpa using hf) _ _ (Lib.hid rfl)
    · have hg := look_new hl
      have eu : ({ D with files := ins ⟨nm, [], 0⟩ D.files } : Dk).used = D.used := by simp [Dk.used, total_ins]
      have hapm : ∀ k, sblk (.slice pb bs.length cb) = some k → k ≠ m := fun k hk e => hap k hk (by subst e; simp)
      rw [append_eq (D1 := appD { D with files := ins ⟨nm, [], 0⟩ D.files } nm (bs.take (min bs.length (D.limit - D.used)))) hl0 (by
        unfold putB; rw [hg]; simp only [appD]; rw [upd_ins (g := fun f => { f with bytes := f.bytes ++ bs.take (min bs.length (D.limit - D.used)) }) (fun f => rfl) hg]; simp)]
      by_cases hf : D.fires = true
      · rw [if_pos hf]
        have := append_new_crash hs h hl hlb hb hapm (D1 := { D with files := ins ⟨nm, [], 0⟩ D.files }) (Lib.hid rfl) hf
        rw [eu] at this
        exact this
      · rw [if_neg hf]
        have := append_new_ok hs h hl hlb hb hapm (D1 := { D with files := ins ⟨nm, [], 0⟩ D.files }) (Lib.hid rfl) (show D.fires = false by simpa using hf) (min bs.length (D.limit - D.used)) (if min bs.length (D.limit - D.used) < bs.length then 111 else 0) (Lib.hid (by rw [eu]))
        rw [eu] at this
        exact this
  · have e : D.append nm bs = ((0, D.look nm), D) := by unfold Dk.append; rw [if_neg hl]
    rw [e]
    have hno := append_no (D := D) (nm := nm) bv hs h (by omega) (by omega)
    exact hno.mono fun e w' ⟨h1, h2⟩ => ⟨h1, left_same h h2⟩
end
end Go.Proofs
