/- Package disk's Append. Conditions: the disk lies as DRep says; what is handed in is read and lies apart from the disk. -/
import Derived.Test.YtaiaghfckhgnnaaGreatDoorD5
namespace Go.Proofs
open Go.RowKit Go.Hp Go.Dm Go.Dr
set_option linter.unusedVariables false
set_option maxRecDepth 10000

section
variable {w : World} {d m : Nat} {D D' : Dk} {L : List Raw} {clock : Nat} {r : Raw} {F : List Nat} {nm : ByteArray}

theorem RB_take {v : Value} {l : List UInt8} {p : Option Addr} {c : Nat} (hv : v = .slice p l.length c) (h : RB w v l) (n : Nat) (hn : n ≤ l.length) : RB w (.slice p n c) (l.take n) := by
  have hlen : (l.take n).length = n := by simp; omega
  subst hv
  obtain ⟨p', c', he, h1, h2, h3⟩ := h
  cases he
  refine ⟨p, c, by rw [hlen], by omega, by simp, fun hc => ?_⟩
  obtain ⟨b, o, arr, t, fz, rfl, hh, hx⟩ := h3 hc
  refine ⟨b, o, arr, t, fz, rfl, hh, fun i u hu => hx i u ?_⟩
  rw [List.map_take, List.getElem?_take] at hu
  split at hu
  · exact hu
  · cases hu

theorem append_no (bv : Value) (hs : nm.size ≤ maxLen) (h : DRep w d D F) (hl : D.look nm ≠ 0) (hl2 : D.look nm ≠ 112) :
    Calls Tryz.prog 58 #[.pointer (some ⟨d, 0, none⟩), .string nm, bv] w fun e w' => e = .returned (.tuple #[.int .i64 0, .int .i64 (D.look nm : Int)]) ∧ ∃ n, w' = w.drewN n := by
  obtain ⟨m, L, clock, h, rfl⟩ := h
  have hp := look_pos hl
  have hq : ((D.look nm : Int) == 112) = false := beq_eq_false_iff_ne.2 (by omega)
  have H := Lib.hid h
  have HL := Lib.hid hl
  clear h hl hl2
  go_enter Tryz.func58, Tryz.ntmps58
  go_wp2_with (first | (go_at_call 77; refine (find_no nm hs H.out HL.out).mono ?_; rintro e w' ⟨rfl, n, rfl⟩))
  go_ret2
  exact ⟨rfl, _, rfl⟩

/-- a file behind an append: still a disk -/
def appD (D : Dk) (nm : ByteArray) (b : List UInt8) : Dk := { D with files := upd nm (fun f => { f with bytes := f.bytes ++ b }) D.files }

theorem app_total {f : Fl} {b : List UInt8} (hg : get D.files nm = some f) (ok : D.Ok) : total (upd nm (fun f => { f with bytes := f.bytes ++ b }) D.files) = total D.files + b.length := by
  have := total_upd (g := fun f => { f with bytes := f.bytes ++ b }) ok.sorted.nodup hg
  simp only [List.length_append] at this
  omega

theorem app_rep {w1 w2 W : World} {b : List UInt8} {v' : Value} (h : DRaw w1 d m D L clock) (hr : r ∈ L) (hfit : D.used + b.length ≤ D.limit)
    (a1 : OB w2 5 v' (r.bytes ++ b)) (a2 : Chg (fun k => sblk r.sv = some k) w1 w2) (a3 : ∀ k, sblk v' = some k → sblk r.sv = some k ∨ w1.heap.size ≤ k)
    (hW : Chg (fun k => k = r.f ∨ k = d) w2 W) (hd : W.heap[d]? = (w2.heap[d]?).map (objSet 1 (.int .i64 ((D.used : Int) + (b.length : Int)))))
    (hf : W.heap[r.f]? = (w2.heap[r.f]?).map (objSet 0 v')) :
    DRaw W d m (appD D r.name b) (rep { r with sv := v', bytes := r.bytes ++ b } L) clock ∧ Chg (· ∈ d :: m :: blks L) w1 W ∧
      ∀ k ∈ d :: m :: blks (rep { r with sv := v', bytes := r.bytes ++ b } L), k ∈ d :: m :: blks L ∨ w1.heap.size ≤ k := by
  have hlt := h.lt
  have hrb : ∀ k ∈ r.blks, k ∈ d :: m :: blks L := fun k hk => by simp only [List.mem_cons]; exact .inr (.inr (List.mem_flatMap.2 ⟨r, hr, hk⟩))
  have hds : sblk r.sv ≠ some d := fun e => h.ne_d hr (k := d) (by simp [Raw.blks, e]) rfl
  have hfs : sblk r.sv ≠ some r.f := h.sblk_ne hr
  have hc : Chg (fun k => k ∈ r.blks ∨ k = d) w1 W := (a2.mono fun k hk => .inl (.inl (by simp [Raw.blks, hk]))).trans hW fun k hk => .inl (hk.elim (fun e => .inl (by subst e; simp [Raw.blks])) .inr)
  have ok : (appD D r.name b).Ok := by
    refine h.ok.upd (fun f => rfl) (fun f hf _ => ?_) ?_
    · have := h.ok.sure f hf
      simp; omega
    · rw [app_total (h.get_of hr) h.ok]; exact hfit
  have hv' : ∀ k, sblk v' = some k → k ≠ r.f ∧ k ≠ d := fun k hk => by
    rcases a3 k hk with h' | h'
    · exact ⟨fun e => hfs (e ▸ h'), fun e => hds (e ▸ h')⟩
    · have h1 := hlt r.f (hrb r.f (by simp [Raw.blks]))
      have h2 := hlt d (by simp)
      exact ⟨by omega, by omega⟩
  obtain ⟨e1, e2⟩ := h.setFile (r' := { r with sv := v', bytes := r.bytes ++ b }) (D' := appD D r.name b) (g := fun f => { f with bytes := f.bytes ++ b }) hr rfl rfl rfl hc (by
      rw [hd, a2.block d (hlt d (by simp)) hds, h.head]
      have hu : total (upd r.name (fun f => { f with bytes := f.bytes ++ b }) D.files) = total D.files + b.length := app_total (h.get_of hr) h.ok
      simp only [Option.map_some, objSet, headCells, appD, Dk.used, hu]
      rw [show ((total D.files + b.length : Nat) : Int) = (total D.files : Int) + (b.length : Int) from by omega]
      rfl) (by
      refine ⟨?_, OC.keep a1 fun k hk => ?_⟩
      · rw [hf, a2.block r.f (hlt r.f (hrb r.f (by simp [Raw.blks]))) hfs, (h.raws r hr).cells]; simp [objSet]
      · have hk' := OC.lt a1 hk
        exact hW.block k hk' (fun e => e.elim (hv' k hk).1 (hv' k hk).2)) (fun k hk => a3 k hk) rfl rfl ok
  refine ⟨e1, hc.mono fun k hk => .inl (hk.elim (hrb k) fun e => by subst e; simp), e2⟩


theorem find_new (hs : nm.size ≤ maxLen) (h : DRaw w d m D L clock) (hl : D.look nm = 112) :
    Calls Tryz.prog 77 #[.pointer (some ⟨d, 0, none⟩), .string nm] w fun e w' => e = .returned (.tuple #[.pointer none, .int .i64 112]) ∧ ∃ n, w' = w.drewN n := by
  have := find_no nm hs h (by omega)
  rw [hl] at this
  exact this

set_option maxHeartbeats 4000000 in
theorem append_old_ok {pb : Option Addr} {cb : Nat} {bs : List UInt8} (hs : r.name.size ≤ maxLen) (h : DRaw w d m D L clock) (hl : D.look r.name = 0) (hr : r ∈ L) (hlb : bs.length ≤ cb)
    (hb : RB w (.slice pb bs.length cb) bs) (hfire : D.fires = false) (nr er : Nat) (hres : Hid ((nr, er) = (min bs.length (D.limit - D.used), if min bs.length (D.limit - D.used) < bs.length then 111 else 0))) :
    Calls Tryz.prog 58 #[.pointer (some ⟨d, 0, none⟩), .string r.name, .slice pb bs.length cb] w fun e w' => e = .returned (.tuple #[.int .i64 (nr : Int), .int .i64 (er : Int)]) ∧
      ∃ F', DRep w' d (appD D r.name (bs.take (min bs.length (D.limit - D.used)))).tick F' ∧ Ev (d :: m :: blks L) F' w w' := by
  have H := Lib.hid h
  have HL := Lib.hid hl
  have HR := Lib.hid hr
  clear h hl hr
  go_enter Tryz.func58, Tryz.ntmps58
  go_wp2_with (first | (go_at_call 77; refine (find_yes hs H.out HL.out HR.out).mono ?_; rintro e w' ⟨rfl, nd, rfl⟩))
  have H1 := Lib.hid (H.out.drewN nd)
  have HRB : Hid (RB (w.drewN nd) (.slice pb bs.length cb) bs) := Lib.hid (RC.keep hb fun _ _ => rfl)
  clear hb
  have hlim1 : ((D).limit : Int) ≤ 1099511627776 := by have := H1.out.ok.limit; omega
  have hlim2 : ((D).used : Int) ≤ (D).limit := by have := H1.out.ok.used; omega
  obtain ⟨nn, hnn⟩ : ∃ nn : Nat, nn = min bs.length ((D).limit - (D).used) := ⟨_, rfl⟩
  have hmin : min (bs.length : Int) (((D).limit : Int) - ((D).used : Int)) = (nn : Int) := by omega
  have hn1 : (nn : Int) ≤ bs.length := by omega
  have hn2 : (bs.length : Int) ≤ cb := by omega
  have hfit : (D).used + (bs.take nn).length ≤ (D).limit := by have := H1.out.ok.used; simp; omega
  have hln : (bs.take nn).length = nn := by simp; omega
  have hnn3 : ((D).used : Int) + (nn : Int) ≤ 1099511627776 := by rw [hln] at hfit; omega
  have HFIT := Lib.hid hfit
  have HLN := Lib.hid hln
  have HNN := Lib.hid hnn
  have hrok := H.out.raws r HR.out
  have q0 := hrok.cell0
  obtain ⟨g0, g1, g2, g3, g4, g5, gf⟩ := H.out.cells
  have qf := hrok.free
  have HOWN := Lib.hid (H1.out.raws r HR.out).own
  have hlenr : r.bytes.length ≤ 1099511627776 := by
    have h1 := get_le (H1.out.get_of HR.out)
    have h1 : r.bytes.length ≤ total (D).files := h1
    have h2 := H1.out.ok.used
    have h3 := H1.out.ok.limit
    have h4 : (D).used = total (D).files := rfl
    omega
  have HLENR := Lib.hid hlenr
  have hrbt := RB_take rfl HRB.out nn (by omega)
  have HRBT := Lib.hid hrbt
  have hds : sblk r.sv ≠ some d := fun e => H1.out.ne_d HR.out (k := d) (by simp [Raw.blks, e]) rfl
  have hfs : sblk r.sv ≠ some r.f := H1.out.sblk_ne HR.out
  have hdlt : d < (World.heap (w.drewN nd)).size := H1.out.lt d (by simp)
  have hflt : r.f < (World.heap (w.drewN nd)).size := H1.out.lt r.f (by simp only [List.mem_cons]; exact .inr (.inr (List.mem_flatMap.2 ⟨r, HR.out, by simp [Raw.blks]⟩)))
  have hfd : r.f ≠ d := H1.out.ne_d HR.out (by simp [Raw.blks])
  have hdf : d ≠ r.f := Ne.symm hfd
  have HDS := Lib.hid hds
  have HFS := Lib.hid hfs
  have HDLT := Lib.hid hdlt
  have HFLT := Lib.hid hflt
  clear hnn hfit hln hrok hlenr hrbt g3 g4 g5 g2 hds hfs hdlt hflt
  refine Rx.wp_region_sched (fun _ => True) [(0, .r), (1, .r), (2, .r), (3, .r), (4, .r), (5, .r), (6, .r), (7, .r), (8, .r), (9, .r), (10, .r), (11, .r), (12, .r)] (by kernel_rfl) (by kernel_rfl) trivial (fun _ _ x _ _ h => (by cases x <;> exact h)) ?_
  iterate 13 (refine Rx.wpSched_q rfl rfl ?_; go_wp2; refine ⟨rfl, ?_⟩)
  refine Rx.wpSched_nil ?_
  go_wp2
  refine Rx.wp_region_sched (fun _ => True) [(1, .r), (2, .r), (3, .r), (4, .r), (5, .r), (6, .r), (7, .r), (0, .h), (8, .e), (9, .r), (10, .r), (11, .e)] (by kernel_rfl) (by kernel_rfl) trivial (fun _ _ x _ _ h => (by cases x <;> exact h)) ?_
  iterate 7 (refine Rx.wpSched_q rfl rfl ?_; go_wp2; refine ⟨rfl, ?_⟩)
  (refine Rx.wpSched_h (v := ?_) rfl rfl ?_ ?_; rotate_left; (intro w' hS'; go_simp; try with_reducible rfl))
  refine Rx.wpSched_e rfl ?_
  refine wpList_append_bytes rfl _ _ rfl rfl rfl HOWN.out HRBT.out (by have := HLENR.out; have := HLN.out; omega) ?_
  intro pv lv cv w2 a1 a2 a3 a4
  have k1 : ∀ i, w2.cell? ⟨d, i, none⟩ = (World.cell? w) ⟨d, i, none⟩ := fun i => a2.cell HDLT.out HDS.out
  have k2 : ∀ i, w2.frozen? ⟨d, i, none⟩ = (World.frozen? w) ⟨d, i, none⟩ := fun i => a2.frozen HDLT.out HDS.out
  have k3 : ∀ i, w2.cell? ⟨r.f, i, none⟩ = (World.cell? w) ⟨r.f, i, none⟩ := fun i => a2.cell HFLT.out HFS.out
  have k4 : ∀ i, w2.frozen? ⟨r.f, i, none⟩ = (World.frozen? w) ⟨r.f, i, none⟩ := fun i => a2.frozen HFLT.out HFS.out
  have A1 := Lib.hid a1
  have A2 : Hid (Chg (fun k => sblk r.sv = some k) (w.drewN nd) w2) := Lib.hid (((Chg.refl _ (w.drewN nd)).drew.drew).trans a2 (fun k hk => .inl hk))
  have A3 := Lib.hid a3
  clear a1 a2 a3 a4
  go_wp2
  refine ⟨trivial, ?_⟩
  iterate 2 (refine Rx.wpSched_q rfl rfl ?_; go_wp2; refine ⟨rfl, ?_⟩)
  refine Rx.wpSched_e rfl ?_
  go_wp2
  refine ⟨trivial, ?_⟩
  refine Rx.wpSched_nil ?_
  go_wp2_with (first | (go_at_call 81; refine stop ?_))
  refine go ?_
  have hrep := app_rep (W := (w2.setCell ⟨r.f, 0, none⟩ (.slice pv lv cv)).setCell ⟨d, 1, none⟩ (.int .i64 (((D).used : Int) + (nn : Int)))) H1.out HR.out HFIT.out A1.out A2.out A3.out
    (((Chg.refl (fun k => k = r.f ∨ k = d) w2).setCell (p := ⟨r.f, 0, none⟩) (.inl (.inl rfl)) _).setCell (p := ⟨d, 1, none⟩) (.inl (.inr rfl)) _)
    (by simp only [hset, if_true, if_neg hdf]; rw [HLN.out]) (by simp only [hset, if_true, if_neg hfd])
  have HREP := Lib.hid hrep
  clear hrep k1 k2 k3 k4
  refine (crashes_any HREP.out.1).mono ?_
  rintro e w3 ⟨rfl, h3, hc3⟩
  have H3 := Lib.hid h3
  have HC3 := Lib.hid hc3
  clear h3 hc3
  have hff : (appD D r.name (bs.take nn)).fires = false := hfire
  have hfin : ∃ F', DRep w3 d (appD D r.name (bs.take (min bs.length (D.limit - D.used)))).tick F' ∧ Ev (d :: m :: blks L) F' w w3 := by
    rw [← HNN.out]
    refine ⟨_, ⟨m, _, clock, H3.out, rfl⟩, ⟨((Chg.refl (· ∈ d :: m :: blks L) w).drewN nd).trans (HREP.out.2.1.trans HC3.out (fun k hk => .inl (by subst hk; simp))) (fun k hk => .inl hk), fun k hk => HREP.out.2.2 k hk⟩⟩
  have HFIN := Lib.hid hfin
  clear hfin
  by_cases hlt : (nn : Int) < bs.length
  · go_wp2
    go_ret2
    refine ⟨?_, HFIN.out⟩
    have := hres.out
    have hnn := HNN.out
    rw [if_pos (by omega), ← hnn] at this
    cases this
    rfl
  · go_wp2
    go_ret2
    refine ⟨?_, HFIN.out⟩
    have := hres.out
    have hnn := HNN.out
    rw [if_neg (by omega), ← hnn] at this
    cases this
    rfl

set_option maxHeartbeats 4000000 in
theorem append_old_crash {pb : Option Addr} {cb : Nat} {bs : List UInt8} (hs : r.name.size ≤ maxLen) (h : DRaw w d m D L clock) (hl : D.look r.name = 0) (hr : r ∈ L) (hlb : bs.length ≤ cb)
    (hb : RB w (.slice pb bs.length cb) bs) (hfire : D.fires = true) :
    Calls Tryz.prog 58 #[.pointer (some ⟨d, 0, none⟩), .string r.name, .slice pb bs.length cb] w fun e w' => e = .returned (.tuple #[.int .i64 0, .int .i64 110]) ∧
      ∃ F', DRep w' d ((appD D r.name (bs.take (min bs.length (D.limit - D.used)))).tick.lose D.keep.toNat) F' ∧ Ev (d :: m :: blks L) F' w w' := by
  have H := Lib.hid h
  have HL := Lib.hid hl
  have HR := Lib.hid hr
  clear h hl hr
  go_enter Tryz.func58, Tryz.ntmps58
  go_wp2_with (first | (go_at_call 77; refine (find_yes hs H.out HL.out HR.out).mono ?_; rintro e w' ⟨rfl, nd, rfl⟩))
  have H1 := Lib.hid (H.out.drewN nd)
  have HRB : Hid (RB (w.drewN nd) (.slice pb bs.length cb) bs) := Lib.hid (RC.keep hb fun _ _ => rfl)
  clear hb
  have hlim1 : ((D).limit : Int) ≤ 1099511627776 := by have := H1.out.ok.limit; omega
  have hlim2 : ((D).used : Int) ≤ (D).limit := by have := H1.out.ok.used; omega
  obtain ⟨nn, hnn⟩ : ∃ nn : Nat, nn = min bs.length ((D).limit - (D).used) := ⟨_, rfl⟩
  have hmin : min (bs.length : Int) (((D).limit : Int) - ((D).used : Int)) = (nn : Int) := by omega
  have hn1 : (nn : Int) ≤ bs.length := by omega
  have hn2 : (bs.length : Int) ≤ cb := by omega
  have hfit : (D).used + (bs.take nn).length ≤ (D).limit := by have := H1.out.ok.used; simp; omega
  have hln : (bs.take nn).length = nn := by simp; omega
  have hnn3 : ((D).used : Int) + (nn : Int) ≤ 1099511627776 := by rw [hln] at hfit; omega
  have HFIT := Lib.hid hfit
  have HLN := Lib.hid hln
  have HNN := Lib.hid hnn
  have hrok := H.out.raws r HR.out
  have q0 := hrok.cell0
  obtain ⟨g0, g1, g2, g3, g4, g5, gf⟩ := H.out.cells
  have qf := hrok.free
  have HOWN := Lib.hid (H1.out.raws r HR.out).own
  have hlenr : r.bytes.length ≤ 1099511627776 := by
    have h1 := get_le (H1.out.get_of HR.out)
    have h1 : r.bytes.length ≤ total (D).files := h1
    have h2 := H1.out.ok.used
    have h3 := H1.out.ok.limit
    have h4 : (D).used = total (D).files := rfl
    omega
  have HLENR := Lib.hid hlenr
  have hrbt := RB_take rfl HRB.out nn (by omega)
  have HRBT := Lib.hid hrbt
  have hds : sblk r.sv ≠ some d := fun e => H1.out.ne_d HR.out (k := d) (by simp [Raw.blks, e]) rfl
  have hfs : sblk r.sv ≠ some r.f := H1.out.sblk_ne HR.out
  have hdlt : d < (World.heap (w.drewN nd)).size := H1.out.lt d (by simp)
  have hflt : r.f < (World.heap (w.drewN nd)).size := H1.out.lt r.f (by simp only [List.mem_cons]; exact .inr (.inr (List.mem_flatMap.2 ⟨r, HR.out, by simp [Raw.blks]⟩)))
  have hfd : r.f ≠ d := H1.out.ne_d HR.out (by simp [Raw.blks])
  have hdf : d ≠ r.f := Ne.symm hfd
  have HDS := Lib.hid hds
  have HFS := Lib.hid hfs
  have HDLT := Lib.hid hdlt
  have HFLT := Lib.hid hflt
  clear hnn hfit hln hrok hlenr hrbt g3 g4 g5 g2 hds hfs hdlt hflt
  refine Rx.wp_region_sched (fun _ => True) [(0, .r), (1, .r), (2, .r), (3, .r), (4, .r), (5, .r), (6, .r), (7, .r), (8, .r), (9, .r), (10, .r), (11, .r), (12, .r)] (by kernel_rfl) (by kernel_rfl) trivial (fun _ _ x _ _ h => (by cases x <;> exact h)) ?_
  iterate 13 (refine Rx.wpSched_q rfl rfl ?_; go_wp2; refine ⟨rfl, ?_⟩)
  refine Rx.wpSched_nil ?_
  go_wp2
  refine Rx.wp_region_sched (fun _ => True) [(1, .r), (2, .r), (3, .r), (4, .r), (5, .r), (6, .r), (7, .r), (0, .h), (8, .e), (9, .r), (10, .r), (11, .e)] (by kernel_rfl) (by kernel_rfl) trivial (fun _ _ x _ _ h => (by cases x <;> exact h)) ?_
  iterate 7 (refine Rx.wpSched_q rfl rfl ?_; go_wp2; refine ⟨rfl, ?_⟩)
  (refine Rx.wpSched_h (v := ?_) rfl rfl ?_ ?_; rotate_left; (intro w' hS'; go_simp; try with_reducible rfl))
  refine Rx.wpSched_e rfl ?_
  refine wpList_append_bytes rfl _ _ rfl rfl rfl HOWN.out HRBT.out (by have := HLENR.out; have := HLN.out; omega) ?_
  intro pv lv cv w2 a1 a2 a3 a4
  have k1 : ∀ i, w2.cell? ⟨d, i, none⟩ = (World.cell? w) ⟨d, i, none⟩ := fun i => a2.cell HDLT.out HDS.out
  have k2 : ∀ i, w2.frozen? ⟨d, i, none⟩ = (World.frozen? w) ⟨d, i, none⟩ := fun i => a2.frozen HDLT.out HDS.out
  have k3 : ∀ i, w2.cell? ⟨r.f, i, none⟩ = (World.cell? w) ⟨r.f, i, none⟩ := fun i => a2.cell HFLT.out HFS.out
  have k4 : ∀ i, w2.frozen? ⟨r.f, i, none⟩ = (World.frozen? w) ⟨r.f, i, none⟩ := fun i => a2.frozen HFLT.out HFS.out
  have A1 := Lib.hid a1
  have A2 : Hid (Chg (fun k => sblk r.sv = some k) (w.drewN nd) w2) := Lib.hid (((Chg.refl _ (w.drewN nd)).drew.drew).trans a2 (fun k hk => .inl hk))
  have A3 := Lib.hid a3
  clear a1 a2 a3 a4
  go_wp2
  refine ⟨trivial, ?_⟩
  iterate 2 (refine Rx.wpSched_q rfl rfl ?_; go_wp2; refine ⟨rfl, ?_⟩)
  refine Rx.wpSched_e rfl ?_
  go_wp2
  refine ⟨trivial, ?_⟩
  refine Rx.wpSched_nil ?_
  go_wp2_with (first | (go_at_call 81; refine stop ?_))
  refine go ?_
  have hrep := app_rep (W := (w2.setCell ⟨r.f, 0, none⟩ (.slice pv lv cv)).setCell ⟨d, 1, none⟩ (.int .i64 (((D).used : Int) + (nn : Int)))) H1.out HR.out HFIT.out A1.out A2.out A3.out
    (((Chg.refl (fun k => k = r.f ∨ k = d) w2).setCell (p := ⟨r.f, 0, none⟩) (.inl (.inl rfl)) _).setCell (p := ⟨d, 1, none⟩) (.inl (.inr rfl)) _)
    (by simp only [hset, if_true, if_neg hdf]; rw [HLN.out]) (by simp only [hset, if_true, if_neg hfd])
  have HREP := Lib.hid hrep
  clear hrep k1 k2 k3 k4
  refine (crashes_any HREP.out.1).mono ?_
  rintro e w3 ⟨rfl, h3, hc3⟩
  have hff : (appD D r.name (bs.take nn)).fires = true := hfire
  obtain ⟨kk, ek, k5, k6⟩ := keep_cell h3 HREP.out.1.ok hff
  have H3 := Lib.hid h3
  have HC3 := Lib.hid hc3
  clear h3 hc3
  go_wp2_with (first | (go_at_call 82; refine (lose_any kk k6 H3.out).mono ?_; rintro e w4 ⟨rfl, hc4, L', h4, h5⟩))
  go_ret2
  rw [← HNN.out, show D.keep.toNat = kk from ek.out]
  refine ⟨rfl, _, ⟨m, _, clock, h4, rfl⟩, ⟨((Chg.refl (· ∈ d :: m :: blks L) w).drewN nd).trans (HREP.out.2.1.trans ((HC3.out.mono (fun k hk => .inl (by subst hk; simp))).trans hc4 (fun k hk => .inl hk)) HREP.out.2.2) (fun k hk => .inl hk), fun k hk => HREP.out.2.2 k (h5 k hk)⟩⟩
end
end Go.Proofs
