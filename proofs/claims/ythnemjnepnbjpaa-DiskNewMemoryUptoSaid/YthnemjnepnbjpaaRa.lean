/- The document's disk: Crash, Sync, Remove, Cut, Turn. Conditions: the disk lies as RRep says; at most 2^40 files. -/
import Derived.Test.YthnemjnepnbjpaaR9
namespace Go.Proofs
open Go.RowKit Go.Hp Go.Dm Go.Dr
set_option linter.unusedVariables false
set_option maxRecDepth 10000

section
variable {w w' : World} {r : Nat} {D D' : Dk} {K K' L : Int} {v : Value} {l : List RF} {G : List Nat} {nm : ByteArray}

theorem RLeft.same (h : RRep w r D G) (hc : Chg (fun _ => False) w w') : RLeft w r G D w' := ⟨G, h.chg hc fun _ _ h => h, hc.mono (fun k hk => hk.elim), fun k hk => .inl hk⟩
theorem rlook_zero (h : D.look nm = 0) : ∃ fb fs, Dm.get D.files nm = some ⟨nm, fb, fs⟩ := by
  unfold Dk.look at h
  split at h
  · omega
  · split at h
    · split at h
      · rename_i f hf
        have := (get_some hf).2
        obtain ⟨fn, fb, fs⟩ := f
        simp only at this
        subst this
        exact ⟨fb, fs, hf⟩
      · omega
    · omega

set_option maxHeartbeats 1000000 in
theorem rcrash_any (k : Int) (hk : k ≤ 9223372036854775807) (hN : D.files.length ≤ 1099511627776) (h : RRep w r D G) :
    Calls Try.prog 73 #[.pointer (some ⟨r, 0, none⟩), .int .i64 k] w fun e w' => e = .returned (.int .i64 ((D.crash k).1 : Int)) ∧ RLeft w r G (D.crash k).2 w' := by
  obtain ⟨K, v, l, h, rfl⟩ := h
  obtain ⟨c0, c1, c2, c3, c4, fz⟩ := h.cells
  have HH := Lib.hid (show RRep w r D (r :: lrblk v l) from ⟨K, v, l, h, rfl⟩)
  unfold Dk.crash
  by_cases hd : D.down = true
  · rw [if_pos hd]
    rw [hd] at c2
    clear c0 c1 c3 c4 fz h hd hk hN
    go_enter Try.func73, Try.ntmps73
    go_wp2
    go_ret
    exact ⟨rfl, RLeft.same HH.out (Chg.refl _ _)⟩
  · rw [if_neg hd]
    have hd' : D.down = false := by simpa using hd
    rw [hd'] at c2
    by_cases hk0 : k < 0
    · rw [if_pos hk0]
      clear c0 c1 c3 c4 fz h hd hd' hk hN
      go_enter Try.func73, Try.ntmps73
      go_wp2
      go_ret
      exact ⟨rfl, RLeft.same HH.out (Chg.refl _ _)⟩
    · rw [if_neg hk0]
      obtain ⟨q, rfl⟩ := Int.eq_ofNat_of_zero_le (by omega : 0 ≤ k)
      have HFA := Lib.hid (rfalls_any q hk hN HH.out)
      clear c0 c1 c3 c4 fz h hd hd' hk hN
      go_enter Try.func73, Try.ntmps73
      go_wp2_with (first | (go_at_call 95; refine HFA.out.mono ?_; rintro e w3 ⟨rfl, hl3⟩))
      go_ret
      exact ⟨rfl, hl3⟩

set_option maxHeartbeats 1000000 in
theorem rsync_any (hs : nm.size ≤ maxLen) (hN : D.files.length ≤ 1099511627776) (h : RRep w r D G) :
    Calls Try.prog 64 #[.pointer (some ⟨r, 0, none⟩), .string nm] w fun e w' => e = .returned (.int .i64 ((D.sync nm).1 : Int)) ∧ RLeft w r G (D.sync nm).2 w' := by
  unfold Dk.sync
  by_cases hl : D.look nm = 0
  · rw [if_pos hl]
    obtain ⟨fb, fs, hg⟩ := rlook_zero hl
    have HCODE := Lib.hid ((lookC_true D nm).trans hl)
    have HLK := Lib.hid (rlook_any true hs hN h)
    have hch := fun W (hW : RRep W r D G) => rchange_any (w := W) (nm := nm) (upd nm fun f => { f with sure := f.bytes.length }) 2 none 0 0 0 0 hN (fun W G hW => rdid_sync (D := D.tick) hg hN hW) hW
    unfold deedV at hch
    have HCH := Lib.hid hch
    have HH := Lib.hid h
    clear hl hg hs hN h hch
    go_enter Try.func64, Try.ntmps64
    go_wp2_with (first | (go_at_call 92; refine stop ?_))
    refine go ?_
    refine HLK.out.mono ?_
    rintro e w2 ⟨a, b, p, n, c, s, rfl, hfi, hc⟩
    rw [HCODE.out]
    unfold fileV
    have HC := Lib.hid hc
    clear hfi hc
    go_wp2_with (first | (go_at_call 96; refine stop ?_))
    refine go ?_
    refine (HCH.out _ (rrep_alloc (HH.out.chg HC.out fun _ _ h => h) _)).mono ?_
    rintro e w3 ⟨rfl, hl3⟩
    have HL3 := Lib.hid hl3
    clear hl3
    go_wp2
    go_ret
    exact ⟨rfl, RLeft.quiet (HC.out.alloc _) HL3.out HH.out.lt⟩
  · rw [if_neg hl]
    have hcd : ((lookC D nm true : Nat) : Int) ≠ 0 := by rw [lookC_true]; omega
    have HLK := Lib.hid (rlook_any true hs hN h)
    have HH := Lib.hid h
    rw [← lookC_true] at *
    generalize hcdg : lookC D nm true = cd at *
    have g0 : ((cd : Int) != 0) = true := by simpa using hcd
    have HCD := Lib.hid hcdg
    clear hcd hl hs hN h hcdg
    go_enter Try.func64, Try.ntmps64
    go_wp2_with (first | (go_at_call 92; refine stop ?_))
    refine go ?_
    refine HLK.out.mono ?_
    rintro e w2 ⟨a, b, p, n, c, s, rfl, -, hc⟩
    rw [HCD.out]
    have HC := Lib.hid hc
    clear hc
    unfold fileV
    go_wp2
    go_ret
    exact ⟨rfl, RLeft.same HH.out (HC.out.alloc _)⟩

set_option maxHeartbeats 1000000 in
theorem rremove_any (hs : nm.size ≤ maxLen) (hN : D.files.length ≤ 1099511627776) (h : RRep w r D G) :
    Calls Try.prog 66 #[.pointer (some ⟨r, 0, none⟩), .string nm] w fun e w' => e = .returned (.int .i64 ((D.remove nm).1 : Int)) ∧ RLeft w r G (D.remove nm).2 w' := by
  unfold Dk.remove
  by_cases hl : D.look nm = 0
  · rw [if_pos hl]
    obtain ⟨fb, fs, hg⟩ := rlook_zero hl
    have HCODE := Lib.hid ((lookC_true D nm).trans hl)
    have HLK := Lib.hid (rlook_any true hs hN h)
    have hch := fun W (hW : RRep W r D G) => rchange_any (w := W) (nm := nm) (del nm) 4 none 0 0 0 0 hN (fun W G hW => rdid_gone (D := D.tick) hg hN hW) hW
    unfold deedV at hch
    have HCH := Lib.hid hch
    have HH := Lib.hid h
    clear hl hg hs hN h hch
    go_enter Try.func66, Try.ntmps66
    go_wp2_with (first | (go_at_call 92; refine stop ?_))
    refine go ?_
    refine HLK.out.mono ?_
    rintro e w2 ⟨a, b, p, n, c, s, rfl, hfi, hc⟩
    rw [HCODE.out]
    unfold fileV
    have HC := Lib.hid hc
    clear hfi hc
    go_wp2_with (first | (go_at_call 96; refine stop ?_))
    refine go ?_
    refine (HCH.out _ (rrep_alloc (HH.out.chg HC.out fun _ _ h => h) _)).mono ?_
    rintro e w3 ⟨rfl, hl3⟩
    have HL3 := Lib.hid hl3
    clear hl3
    go_wp2
    go_ret
    exact ⟨rfl, RLeft.quiet (HC.out.alloc _) HL3.out HH.out.lt⟩
  · rw [if_neg hl]
    have hcd : ((lookC D nm true : Nat) : Int) ≠ 0 := by rw [lookC_true]; omega
    have HLK := Lib.hid (rlook_any true hs hN h)
    have HH := Lib.hid h
    rw [← lookC_true] at *
    generalize hcdg : lookC D nm true = cd at *
    have g0 : ((cd : Int) != 0) = true := by simpa using hcd
    have HCD := Lib.hid hcdg
    clear hcd hl hs hN h hcdg
    go_enter Try.func66, Try.ntmps66
    go_wp2_with (first | (go_at_call 92; refine stop ?_))
    refine go ?_
    refine HLK.out.mono ?_
    rintro e w2 ⟨a, b, p, n, c, s, rfl, -, hc⟩
    rw [HCD.out]
    have HC := Lib.hid hc
    clear hc
    unfold fileV
    go_wp2
    go_ret
    exact ⟨rfl, RLeft.same HH.out (HC.out.alloc _)⟩

/-- a file that look has found, as a value -/
theorem looked_file {fb : List UInt8} {fs : Nat} {w2 : World} {a : ByteArray} {b : Bool} {p : Option Addr} {n c s : Nat} (hg : Dm.get D.files nm = some ⟨nm, fb, fs⟩) (h : FileIs w2 G nm (Dm.get D.files nm) (fileV a b p n c s)) :
    n = fb.length ∧ s = fs ∧ fb.length ≤ c ∧ RB w2 (.slice p fb.length c) fb := by
  rw [hg] at h
  obtain ⟨p', c', e, hrb, -⟩ := h
  obtain ⟨-, -, rfl, rfl, rfl, rfl⟩ := fileV_inj e
  refine ⟨rfl, rfl, ?_, hrb⟩
  obtain ⟨p2, c2, he, h2, -⟩ := hrb
  simp only [Value.slice.injEq] at he h2
  omega
theorem get_bounds (h : D.Ok) {fb : List UInt8} {fs : Nat} (hg : Dm.get D.files nm = some ⟨nm, fb, fs⟩) : fb.length ≤ 1099511627776 ∧ fs ≤ fb.length := by
  have h1 := get_le hg
  have h2 := h.used
  have h3 := h.limit
  have h4 : D.used = total D.files := rfl
  simp only at h1
  exact ⟨by omega, h.sure _ (get_some hg).1⟩

set_option maxHeartbeats 1000000 in
theorem rcut_any (k : Int) (hs : nm.size ≤ maxLen) (hN : D.files.length ≤ 1099511627776) (h : RRep w r D G) :
    Calls Try.prog 65 #[.pointer (some ⟨r, 0, none⟩), .string nm, .int .i64 k] w fun e w' => e = .returned (.int .i64 ((D.cut nm k).1 : Int)) ∧ RLeft w r G (D.cut nm k).2 w' := by
  unfold Dk.cut
  by_cases hl : D.look nm = 0
  · rw [if_pos hl]
    obtain ⟨fb, fs, hg⟩ := rlook_zero hl
    have hlen : lenOf D.files nm = fb.length := by unfold lenOf; rw [hg]
    obtain ⟨hb1, hb2⟩ := get_bounds h.ok hg
    have HCODE := Lib.hid ((lookC_true D nm).trans hl)
    have HLK := Lib.hid (rlook_any true hs hN h)
    have HH := Lib.hid h
    have HG := Lib.hid hg
    rw [hlen]
    by_cases hk : k < 0 ∨ (fb.length : Int) < k
    · rw [if_pos hk]
      by_cases hk0 : k < 0
      · clear hl hg hs hN h hlen hk hb1 hb2
        go_enter Try.func65, Try.ntmps65
        go_wp2_with (first | (go_at_call 92; refine stop ?_))
        refine go ?_
        refine HLK.out.mono ?_
        rintro e w2 ⟨a, b, p, n, c, s, rfl, hfi, hc⟩
        rw [HCODE.out]
        unfold fileV
        obtain ⟨rfl, rfl, hnc, hrb⟩ := looked_file HG.out (hfi HCODE.out rfl)
        have HC := Lib.hid hc
        clear hfi hc hnc hrb
        go_wp2
        go_ret
        exact ⟨rfl, RLeft.same HH.out (HC.out.alloc _)⟩
      · have hk1 : (fb.length : Int) < k := by omega
        clear hl hg hs hN h hlen hk hb1 hb2
        go_enter Try.func65, Try.ntmps65
        go_wp2_with (first | (go_at_call 92; refine stop ?_))
        refine go ?_
        refine HLK.out.mono ?_
        rintro e w2 ⟨a, b, p, n, c, s, rfl, hfi, hc⟩
        rw [HCODE.out]
        unfold fileV
        obtain ⟨rfl, rfl, hnc, hrb⟩ := looked_file HG.out (hfi HCODE.out rfl)
        have HC := Lib.hid hc
        clear hfi hc hnc hrb
        go_wp2
        go_ret
        exact ⟨rfl, RLeft.same HH.out (HC.out.alloc _)⟩
    · rw [if_neg hk]
      obtain ⟨q, rfl⟩ := Int.eq_ofNat_of_zero_le (by omega : 0 ≤ k)
      obtain ⟨bs, hbl, hbt⟩ : ∃ bs : List UInt8, bs.length = q ∧ fb.take bs.length = bs := ⟨fb.take q, by simp; omega, by simp⟩
      subst hbl
      have hle : bs.length ≤ fb.length := by omega
      have hle2 : ¬ (fb.length : Int) < (bs.length : Int) := by omega
      have hle3 : ¬ fb.length < bs.length := by omega
      have hch := fun W (hW : RRep W r D G) => rchange_any (w := W) (nm := nm) (upd nm fun f => { f with bytes := f.bytes.take bs.length, sure := min f.sure bs.length }) 3 none 0 0 (bs.length : Int) 0 hN (fun W G hW => rdid_cut bs hbt hle hb1 hb2 (D := D.tick) hg hN hW) hW
      unfold deedV at hch
      have HCH := Lib.hid hch
      rw [Int.toNat_natCast]
      clear hl hg hs hN h hch hlen hk hb1 hb2 hbt hle
      go_enter Try.func65, Try.ntmps65
      go_wp2_with (first | (go_at_call 92; refine stop ?_))
      refine go ?_
      refine HLK.out.mono ?_
      rintro e w2 ⟨a, b, p, n, c, s, rfl, hfi, hc⟩
      rw [HCODE.out]
      unfold fileV
      obtain ⟨rfl, rfl, hnc, hrb⟩ := looked_file HG.out (hfi HCODE.out rfl)
      have HC := Lib.hid hc
      clear hfi hc hnc hrb
      go_wp2_with (first | (go_at_call 96; refine stop ?_))
      refine go ?_
      refine (HCH.out _ (rrep_alloc (HH.out.chg HC.out fun _ _ h => h) _)).mono ?_
      rintro e w3 ⟨rfl, hl3⟩
      have HL3 := Lib.hid hl3
      clear hl3
      go_wp2
      go_ret
      exact ⟨rfl, RLeft.quiet (HC.out.alloc _) HL3.out HH.out.lt⟩
  · rw [if_neg hl]
    have hcd : ((lookC D nm true : Nat) : Int) ≠ 0 := by rw [lookC_true]; omega
    have HLK := Lib.hid (rlook_any true hs hN h)
    have HH := Lib.hid h
    rw [← lookC_true] at *
    generalize hcdg : lookC D nm true = cd at *
    have g0 : ((cd : Int) != 0) = true := by simpa using hcd
    have HCD := Lib.hid hcdg
    clear hcd hl hs hN h hcdg
    go_enter Try.func65, Try.ntmps65
    go_wp2_with (first | (go_at_call 92; refine stop ?_))
    refine go ?_
    refine HLK.out.mono ?_
    rintro e w2 ⟨a, b, p, n, c, s, rfl, -, hc⟩
    rw [HCD.out]
    have HC := Lib.hid hc
    clear hc
    unfold fileV
    go_wp2
    go_ret
    exact ⟨rfl, RLeft.same HH.out (HC.out.alloc _)⟩

set_option maxHeartbeats 1000000 in
theorem rturn_any (k : Int) (mk : UInt8) (hs : nm.size ≤ maxLen) (hN : D.files.length ≤ 1099511627776) (h : RRep w r D G) :
    Calls Try.prog 75 #[.pointer (some ⟨r, 0, none⟩), .string nm, .int .i64 k, .int .u8 (mk.toNat : Int)] w fun e w' => e = .returned (.int .i64 ((D.turn nm k mk).1 : Int)) ∧ RLeft w r G (D.turn nm k mk).2 w' := by
  unfold Dk.turn
  by_cases hl : D.look nm = 0
  · rw [if_pos hl]
    obtain ⟨fb, fs, hg⟩ := rlook_zero hl
    have hlen : lenOf D.files nm = fb.length := by unfold lenOf; rw [hg]
    obtain ⟨hb1, hb2⟩ := get_bounds h.ok hg
    have HCODE := Lib.hid ((lookC_true D nm).trans hl)
    have HLK := Lib.hid (rlook_any true hs hN h)
    have HH := Lib.hid h
    have HG := Lib.hid hg
    rw [hlen]
    by_cases hk : k < 0 ∨ (fb.length : Int) ≤ k
    · rw [if_pos hk]
      by_cases hk0 : k < 0
      · clear hl hg hs hN h hlen hk hb1 hb2
        go_enter Try.func75, Try.ntmps75
        go_wp2_with (first | (go_at_call 92; refine stop ?_))
        refine go ?_
        refine HLK.out.mono ?_
        rintro e w2 ⟨a, b, p, n, c, s, rfl, hfi, hc⟩
        rw [HCODE.out]
        unfold fileV
        obtain ⟨rfl, rfl, hnc, hrb⟩ := looked_file HG.out (hfi HCODE.out rfl)
        have HC := Lib.hid hc
        clear hfi hc hnc hrb
        go_wp2
        go_ret
        exact ⟨rfl, RLeft.same HH.out (HC.out.alloc _)⟩
      · have hk1 : (fb.length : Int) ≤ k := by omega
        clear hl hg hs hN h hlen hk hb1 hb2
        go_enter Try.func75, Try.ntmps75
        go_wp2_with (first | (go_at_call 92; refine stop ?_))
        refine go ?_
        refine HLK.out.mono ?_
        rintro e w2 ⟨a, b, p, n, c, s, rfl, hfi, hc⟩
        rw [HCODE.out]
        unfold fileV
        obtain ⟨rfl, rfl, hnc, hrb⟩ := looked_file HG.out (hfi HCODE.out rfl)
        have HC := Lib.hid hc
        clear hfi hc hnc hrb
        go_wp2
        go_ret
        exact ⟨rfl, RLeft.same HH.out (HC.out.alloc _)⟩
    · rw [if_neg hk]
      obtain ⟨q, rfl⟩ := Int.eq_ofNat_of_zero_le (by omega : 0 ≤ k)
      have hle : q < fb.length := by omega
      have hle2 : ¬ (fb.length : Int) ≤ (q : Int) := by omega
      have hle3 : ¬ fb.length ≤ q := by omega
      have hch := fun W (hW : RRep W r D G) => rdid_turn (w := W) (pb := none) (nb := 0) (cb := 0) q mk hle hb1 hg hN hW
      unfold deedV at hch
      have HCH := Lib.hid hch
      rw [Int.toNat_natCast]
      clear hl hg hs hN h hch hlen hk hb1 hb2 hle
      go_enter Try.func75, Try.ntmps75
      go_wp2_with (first | (go_at_call 92; refine stop ?_))
      refine go ?_
      refine HLK.out.mono ?_
      rintro e w2 ⟨a, b, p, n, c, s, rfl, hfi, hc⟩
      rw [HCODE.out]
      unfold fileV
      obtain ⟨rfl, rfl, hnc, hrb⟩ := looked_file HG.out (hfi HCODE.out rfl)
      have HC := Lib.hid hc
      clear hfi hc hnc hrb
      go_wp2_with (first | (go_at_call 94; refine stop ?_))
      refine go ?_
      refine (HCH.out _ (rrep_alloc (HH.out.chg HC.out fun _ _ h => h) _)).mono ?_
      rintro e w3 ⟨rfl, hl3⟩
      have HL3 := Lib.hid hl3
      clear hl3
      go_wp2
      go_ret
      exact ⟨rfl, RLeft.quiet (HC.out.alloc _) HL3.out HH.out.lt⟩
  · rw [if_neg hl]
    have hcd : ((lookC D nm true : Nat) : Int) ≠ 0 := by rw [lookC_true]; omega
    have HLK := Lib.hid (rlook_any true hs hN h)
    have HH := Lib.hid h
    rw [← lookC_true] at *
    generalize hcdg : lookC D nm true = cd at *
    have g0 : ((cd : Int) != 0) = true := by simpa using hcd
    have HCD := Lib.hid hcdg
    clear hcd hl hs hN h hcdg
    go_enter Try.func75, Try.ntmps75
    go_wp2_with (first | (go_at_call 92; refine stop ?_))
    refine go ?_
    refine HLK.out.mono ?_
    rintro e w2 ⟨a, b, p, n, c, s, rfl, -, hc⟩
    rw [HCD.out]
    have HC := Lib.hid hc
    clear hc
    unfold fileV
    go_wp2
    go_ret
    exact ⟨rfl, RLeft.same HH.out (HC.out.alloc _)⟩
end
end Go.Proofs
