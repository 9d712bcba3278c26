/- DiskPrefix' walk. Conditions: the three slices are read; they have at most 1048576 bytes. -/
import Derived.Test.YthnemjnepnbjpaaPx
import Derived.Test.YthnemjnepnbjpaaAq
import Derived.Test.YthnemjnepnbjpaaMy
import Derived.Test.YthnemjnepnbjpaaWs
namespace Go.Proofs
open Go.RowKit Go.Hp Go.Dm Go.Dr
set_option linter.unusedVariables false
set_option maxRecDepth 10000
theorem RB.takeX {w : World} {p : Option Addr} {c : Nat} {bs : List UInt8} (h : RB w (.slice p bs.length c) bs) (m : Nat) (hm : m ≤ bs.length) : RB w (.slice p m c) (bs.take m) := by
  obtain ⟨p', c', he, hnc, hlen, hblk⟩ := h
  obtain ⟨rfl, -, rfl⟩ : p = p' ∧ bs.length = bs.length ∧ c = c' := by simpa only [Value.slice.injEq] using he
  have e : (bs.take m).length = m := by simp; omega
  refine ⟨p, c, by rw [e], by rw [e]; omega, by simp, fun hc => ?_⟩
  obtain ⟨b, off, arr, t, fz, rfl, hh, hx⟩ := hblk hc
  refine ⟨b, off, arr, t, fz, rfl, hh, fun i u hu => hx i u ?_⟩
  rw [List.map_take, List.getElem?_take] at hu
  split at hu
  · exact hu
  · cases hu
theorem px_crash0 {D : Dk} (h : D.down = false) : (D.crash 0).2.files = loseL 0 D.files ∧ (D.crash 0).2.down = true := by
  unfold Dk.crash
  rw [if_neg (by rw [h]; simp), if_neg (by decide)]
  exact ⟨rfl, rfl⟩
theorem px_want (X Y : List UInt8) (k : Nat) : ((⟨#[33]⟩ : ByteArray) ++ ⟨X.toArray⟩ ++ ⟨(List.take (min k Y.length) Y).toArray⟩) = ⟨(33 :: X ++ Y.take k).toArray⟩ := by
  apply bytes_ext
  have e : Y.take (min k Y.length) = Y.take k := by
    by_cases h : k ≤ Y.length
    · rw [Nat.min_eq_left h]
    · rw [Nat.min_eq_right (by omega), List.take_of_length_le (Nat.le_refl _), List.take_of_length_le (by omega)]
  rw [e]
  simp [ByteArray.data_append]
theorem px_other (Z : List UInt8) (k : Nat) : (((⟨#[63]⟩ : ByteArray) ++ ⟨Z.toArray⟩).extract 0 (min (k : Int) (1 + (Z.length : Int))).toNat) = ⟨((63 :: Z).take k).toArray⟩ := by
  apply bytes_ext
  have e : (min (k : Int) (1 + (Z.length : Int))).toNat = min k (63 :: Z).length := by rw [List.length_cons]; omega
  have e2 : (63 :: Z).take (min k (63 :: Z).length) = (63 :: Z).take k := by
    by_cases h : k ≤ (63 :: Z).length
    · rw [Nat.min_eq_left h]
    · rw [Nat.min_eq_right (by omega), List.take_of_length_le (Nat.le_refl _), List.take_of_length_le (by omega)]
  rw [e, ByteArray.data_extract, ByteArray.data_append, Array.toList_extract]
  simp only [Array.toList_append, List.extract_eq_take_drop, Nat.sub_zero, List.drop_zero]
  exact e2
section
variable {w : World} {X Y Z : List UInt8} {px py pz : Option Addr} {cx cy cz : Nat}

set_option maxHeartbeats 16000000 in
theorem prefix_walk (kk : Int) (ar : Bool) (hX : RB w (.slice px X.length cx) X) (hY : RB w (.slice py Y.length cy) Y) (hZ : RB w (.slice pz Z.length cz) Z) (lX : X.length ≤ 1048576) (lY : Y.length ≤ 1048576) (lZ : Z.length ≤ 1048576)
    (hk1 : -9223372036854775808 ≤ kk) (hk2 : kk ≤ 9223372036854775807) :
    Calls Try.prog 3 #[.agg #[.slice px X.length cx, .slice py Y.length cy, .slice pz Z.length cz, .int .i64 kk, .bool ar]] w fun e w' => e = .returned (.bool true) ∧ Chg (fun _ => False) w w' := by
  obtain ⟨L, hL⟩ : ∃ L : Nat, L = X.length + Y.length + Z.length + 2 := ⟨_, rfl⟩
  obtain ⟨k, hk⟩ : ∃ k : Nat, k = kk.toNat := ⟨_, rfl⟩
  have eL : (X.length : Int) + (Y.length : Int) + (Z.length : Int) + 2 = (L : Int) := by omega
  have eK : max kk 0 = (k : Int) := by omega
  have iX : (X.length : Int) ≤ 1048576 := by omega
  have iY : (Y.length : Int) ≤ 1048576 := by omega
  have iZ : (Z.length : Int) ≤ 1048576 := by omega
  have HWC := Lib.hid ((Chg.refl (fun _ => False) w).alloc (.cells #[.slice px X.length cx, .slice py Y.length cy, .slice pz Z.length cz, .int .i64 kk, .bool ar] 24))
  have HB0 := Lib.hid (halloc_at w (.cells #[.slice px X.length cx, .slice py Y.length cy, .slice pz Z.length cz, .int .i64 kk, .bool ar] 24))
  have HNEW := Lib.hid (new_ok (w := w.alloc (.cells #[.slice px X.length cx, .slice py Y.length cy, .slice pz Z.length cz, .int .i64 kk, .bool ar] 24)) L (by omega))
  have HX := Lib.hid (RC.chg hX HWC.out fun _ _ h => h)
  have HY := Lib.hid (RC.chg hY HWC.out fun _ _ h => h)
  have HZ := Lib.hid (RC.chg hZ HWC.out fun _ _ h => h)
  have HL := Lib.hid hL
  have HLX := Lib.hid (And.intro lX (And.intro lY lZ))
  have HKK := Lib.hid (And.intro hk1 (And.intro hk2 hk))
  clear hX hY hZ lX lY lZ hL hk hk1 hk2
  go_enter Try.func3, Try.ntmps3
  go_wp2_with (first | (go_at_call 16; refine (num_any _ _).mono ?_; rintro e w' ⟨rfl, rfl⟩) | (go_at_call 15; refine stop ?_))
  refine go ?_
  refine HNEW.out.mono ?_
  rintro e w1 ⟨he, h1, v1⟩
  rw [halloc_size] at he h1 v1
  generalize w.heap.size + 1 + 1 = d at he h1 v1
  subst he
  have m1 := (Many.nil _).addDisk h1 v1
  generalize w.alloc (.cells #[.slice px X.length cx, .slice py Y.length cy, .slice pz Z.length cz, .int .i64 kk, .bool ar] 24) = W at m1 HB0 HWC HNEW HX HY HZ
  have hbx := (m1.chg.block _ (hlt_of HB0.out) (fun h => h)).trans HB0.out
  have q0 := hcell_of hbx 0
  have q1 := hcell_of hbx 1
  have q2 := hcell_of hbx 2
  have q3 := hcell_of hbx 3
  simp only [List.getElem?_toArray, List.getElem?_cons_zero, List.getElem?_cons_succ] at q0 q1 q2 q3
  have M1 := Lib.hid m1
  have hbx1 := (halloc_lt (o := .cells #[.int .u8 33] 5 (1, 2)) (hlt_of hbx)).trans hbx
  have r0 := hcell_of hbx1 0
  simp only [List.getElem?_toArray, List.getElem?_cons_zero] at r0
  have HBX := Lib.hid hbx
  clear h1 v1 m1 hbx hbx1
  have hconv := Lib.run_convert_bytes_const (P := Try.prog) w1 22 5 #[.int .u8 33] 1 1 Try.underlying22 Try.underlying5
  go_wp2_with (first | (go_at_call 16; refine (num_any _ _).mono ?_; rintro e w' ⟨rfl, rfl⟩) | (at_builtin; refine stop ?_))
  clear hconv
  refine go ?_
  have M2 := Lib.hid (M1.out.alloc (.cells #[.int .u8 33] 5 (1, 2)))
  refine wpList_append_full rfl _ _ rfl (l := [33]) rfl rfl (by decide) (rb_new w1 [33] 5 (1, 2)) (RC.chg HX.out M2.out.chg fun _ _ h => h) (by have := HLX.out.1; simp; omega) ?_
  intro pa la ca w2 b1 b2 b3
  have M3 := Lib.hid (M2.out.quiet b2)
  have hap := append_any (nm := nA) (by decide) M3.out.first b1 (fun k hk hF => by
    have h1 := M1.out.first.lt k hF
    rcases b3 k hk with h | h
    · have : k = w1.heap.size := by simpa [sblk] using h.symm
      omega
    · simp at h; omega)
  rw [show ([33] ++ X) = 33 :: X from rfl, px1 HL.out] at hap
  have HAP := Lib.hid hap
  clear b1 b2 b3 hap q0 q1 q2 q3 r0
  go_wp2_with (first | (go_at_call 17; refine stop ?_))
  refine go ?_
  refine HAP.out.mono ?_
  rintro e w3 ⟨rfl, hl3⟩
  obtain ⟨F3, m3⟩ := M3.out.left hl3
  have hsy := sync_any (nm := nA) (by decide) m3.first
  rw [px2] at hsy
  have HSY := Lib.hid hsy
  have M3b := Lib.hid m3
  clear hl3 m3 hsy
  go_wp2_with (first | (go_at_call 18; refine stop ?_))
  refine go ?_
  refine HSY.out.mono ?_
  rintro e w4 ⟨rfl, hl4⟩
  obtain ⟨F4, m4⟩ := M3b.out.left hl4
  have hbx := (m4.chg.block _ (hlt_of HB0.out) (fun h => h)).trans HB0.out
  have hbx1 := (halloc_lt (o := .cells #[.int .u8 63] 5 (1, 2)) (hlt_of hbx)).trans hbx
  have r2 := hcell_of hbx1 2
  simp only [List.getElem?_toArray, List.getElem?_cons_zero, List.getElem?_cons_succ] at r2
  have M4 := Lib.hid m4
  clear hl4 m4 hbx hbx1
  have hconv := Lib.run_convert_bytes_const (P := Try.prog) w4 22 5 #[.int .u8 63] 1 1 Try.underlying22 Try.underlying5
  go_wp2_with (first | (go_at_call 16; refine (num_any _ _).mono ?_; rintro e w' ⟨rfl, rfl⟩) | (at_builtin; refine stop ?_))
  clear hconv
  refine go ?_
  have M5 := Lib.hid (M4.out.alloc (.cells #[.int .u8 63] 5 (1, 2)))
  refine wpList_append_full rfl _ _ rfl (l := [63]) rfl rfl (by decide) (rb_new w4 [63] 5 (1, 2)) (RC.chg HZ.out M5.out.chg fun _ _ h => h) (by have := HLX.out.2.2; simp; omega) ?_
  intro pa5 la5 ca5 w5 b1 b2 b3
  have M6 := Lib.hid (M5.out.quiet b2)
  have hap := append_any (nm := nB) (by decide) M6.out.first b1 (fun k hk hF => by
    have h1 := M4.out.first.lt k hF
    rcases b3 k hk with h | h
    · have : k = w4.heap.size := by simpa [sblk] using h.symm
      omega
    · simp at h; omega)
  rw [show ([63] ++ Z) = 63 :: Z from rfl, px3 HL.out] at hap
  have HAP := Lib.hid hap
  clear b1 b2 b3 hap r2
  go_wp2_with (first | (go_at_call 17; refine stop ?_))
  refine go ?_
  refine HAP.out.mono ?_
  rintro e w6 ⟨rfl, hl6⟩
  obtain ⟨F6, m6⟩ := M6.out.left hl6
  have hbx := (m6.chg.block _ (hlt_of HB0.out) (fun h => h)).trans HB0.out
  have r1 := hcell_of hbx 1
  have r4 := hcell_of hbx 4
  simp only [List.getElem?_toArray, List.getElem?_cons_zero, List.getElem?_cons_succ] at r1 r4
  have M7 := Lib.hid m6
  clear hl6 m6 hbx
  have HKI := Lib.hid (show (k : Int) ≤ 9223372036854775807 by have h1 := HKK.out; omega)
  cases ar with
  | true =>
    have har := arm_any 1 (k : Int) (by decide) (by omega) HKI.out M7.out.first
    rw [px6] at har
    have HAR := Lib.hid har
    clear har
    go_wp2_with (first | (go_at_call 19; refine stop ?_))
    refine go ?_
    refine HAR.out.mono ?_
    rintro e w7 ⟨rfl, a1, a2⟩
    have m8 := M7.out.turn (y := Ent.disk d _ F6) a1 (good_disk _ _ _) a2
    have hbx := (m8.chg.block _ (hlt_of HB0.out) (fun h => h)).trans HB0.out
    have r1 := hcell_of hbx 1
    simp only [List.getElem?_toArray, List.getElem?_cons_zero, List.getElem?_cons_succ] at r1
    have M8 := Lib.hid m8
    have HCP := Lib.hid (copied_any (w := w7) (l := Y) (by have := HLX.out.2.1; omega) (RC.chg HY.out m8.chg fun _ _ h => h))
    clear a1 a2 m8 hbx r4
    go_wp2_with (first | (go_at_call 20; refine stop ?_))
    refine go ?_
    refine HCP.out.mono ?_
    rintro e w8 ⟨v8, rfl, o8, c8, n8⟩
    have M9 := Lib.hid (M8.out.quiet c8)
    have hap := append_any (nm := nA) (by decide) M9.out.first (OB.rb o8) (fun k hk hF => by have h1 := M8.out.first.lt k hF; have h2 := n8 k hk; omega)
    rw [px7 HL.out] at hap
    obtain ⟨p8, c8', rfl, -⟩ := id o8
    have HAP := Lib.hid hap
    clear hap o8 c8 n8 r1
    go_wp2_with (first | (go_at_call 17; refine stop ?_))
    refine go ?_
    refine HAP.out.mono ?_
    rintro e w9 ⟨rfl, hl9⟩
    obtain ⟨F9, m9⟩ := M9.out.left hl9
    have M10 := Lib.hid m9
    clear hl9 m9
    simp only [show ((110 : Nat) : Int) = 110 from rfl, show ((0 : Nat) : Int) = 0 from rfl]
    go_wp2_with (first | (go_at_call 16; refine (num_any _ _).mono ?_; rintro e w' ⟨rfl, rfl⟩))
    have hbx := (M10.out.chg.block _ (hlt_of HB0.out) (fun h => h)).trans HB0.out
    have r0 := hcell_of hbx 0
    have r1 := hcell_of hbx 1
    have r2 := hcell_of hbx 2
    simp only [List.getElem?_toArray, List.getElem?_cons_zero, List.getElem?_cons_succ] at r0 r1 r2
    have hm1 : (Y.length : Int) ≤ (cy : Int) := by obtain ⟨p', c', e, h1, -⟩ := HY.out; simp only [Value.slice.injEq] at e; omega
    have hm2 : Y.length ≤ cy := by omega
    have hc1 : (convert 22 9 (.slice px X.length cx)).run Try.prog w9.drew = .ok (.string ⟨X.toArray⟩) w9.drew := run_toString (P := Try.prog) w9.drew 22 9 5 Try.underlying22 Try.underlying5 Try.underlying9 (RC.chg HX.out M10.out.chg.drew fun _ _ h => h)
    have hc2 : (convert 22 9 (.slice py (min k Y.length) cy)).run Try.prog w9.drew = .ok (.string ⟨(Y.take (min k Y.length)).toArray⟩) w9.drew := run_toString (P := Try.prog) w9.drew 22 9 5 Try.underlying22 Try.underlying5 Try.underlying9 (RB.takeX (RC.chg HY.out M10.out.chg.drew fun _ _ h => h) (min k Y.length) (Nat.min_le_right _ _))
    have hc4 : (convert 22 9 (.slice py (min (k : Int) (Y.length : Int)).toNat cy)).run Try.prog w9.drew = .ok (.string ⟨(Y.take (min k Y.length)).toArray⟩) w9.drew := by rw [show (min (k : Int) (Y.length : Int)).toNat = min k Y.length by omega]; exact hc2
    have hc3 : (convert 22 9 (.slice pz Z.length cz)).run Try.prog w9.drew = .ok (.string ⟨Z.toArray⟩) w9.drew := run_toString (P := Try.prog) w9.drew 22 9 5 Try.underlying22 Try.underlying5 Try.underlying9 (RC.chg HZ.out M10.out.chg.drew fun _ _ h => h)
    clear hbx
    refine Rx.ws_region (fun _ => True) [(0, .r), (1, .r), (2, .r), (3, .r), (4, .r), (5, .r), (6, .r), (7, .r), (8, .r), (9, .r), (10, .r), (11, .r), (12, .r), (13, .r), (14, .r)] (by kernel_rfl) (by kernel_rfl) trivial (fun _ _ x _ _ h => (by cases x <;> exact h)) ?_
    iterate 15 (refine Rx.ws_q rfl rfl ?_; go_wp2; refine Rx.atS_mk ?_)
    refine Rx.ws_nil ?_
    go_wp2
    have hw : ((⟨#[33]⟩ : ByteArray) ++ ⟨X.toArray⟩ ++ ⟨(List.take (min k Y.length) Y).toArray⟩) = ⟨(33 :: X ++ Y.take k).toArray⟩ := px_want X Y k
    have ho : (((⟨#[63]⟩ : ByteArray) ++ ⟨Z.toArray⟩).extract 0 (min (k : Int) (1 + (Z.length : Int))).toNat) = ⟨((63 :: Z).take k).toArray⟩ := px_other Z k
    rw [hw, ho]
    have HD : Hid (∃ D F, Many W w9 [Ent.disk d D F] ∧ D.files = leftF X Y Z k ∧ D.down = true) := Lib.hid ⟨_, _, M10.out, rfl, rfl⟩
    clear hw ho hc1 hc2 hc3 hc4 hm1 hm2 r0 r1 r2
    obtain ⟨WL, hWL⟩ : ∃ WL : List UInt8, WL = 33 :: X ++ Y.take k := ⟨_, rfl⟩
    obtain ⟨OL, hOL⟩ : ∃ OL : List UInt8, OL = (63 :: Z).take k := ⟨_, rfl⟩
    rw [← hWL, ← hOL]
    have HWL := Lib.hid (And.intro hWL hOL)
    clear hWL hOL
    go_loopw [14] (fun i wr => ∃ j : Nat, i = .int .i64 (j : Int) ∧ j ≤ 2 ∧ ∃ D F, Many W wr [Ent.disk d D F] ∧ D.files = leftF X Y Z k ∧ D.down = true) (fun i _ => 2 - (Lib.intOf i).toNat)
    case atStart => exact ⟨0, rfl, by omega, by obtain ⟨D, F, h1, h2, h3⟩ := HD.out; exact ⟨D, F, h1.drewN 1, h2, h3⟩⟩
    case round =>
      obtain ⟨j, rfl, hj, D, F, hM, hDf, hDd⟩ := hrel
      have HM := Lib.hid hM
      have HDF := Lib.hid hDf
      have HDN := Lib.hid (down_any hM.first)
      have HUP := Lib.hid (up_any hM.first)
      rw [hDd] at HDN
      clear hM hDf hDd
      by_cases hjl : (j : Int) < 2
      · have hj0 : (0 : Int) ≤ (j : Int) := by omega
        go_wp2_with (first | (go_at_call 16; refine (num_any _ _).mono ?_; rintro e w' ⟨rfl, rfl⟩) | (go_at_call 22; refine HDN.out.mono ?_; rintro e w' ⟨rfl, rfl⟩) | (go_at_call 23; refine stop ?_))
        refine go ?_
        refine HUP.out.mono ?_
        rintro e w2' ⟨rfl, u1, u2⟩
        have m2 := HM.out.turn (y := Ent.disk d D.up F) u1 (good_disk _ _ _) u2
        have M2' := Lib.hid m2
        have HDN2 := Lib.hid (down_any m2.first)
        rw [show D.up.down = false from rfl] at HDN2
        clear u1 u2 m2
        go_wp2_with (first | (go_at_call 16; refine (num_any _ _).mono ?_; rintro e w' ⟨rfl, rfl⟩) | (go_at_call 22; refine HDN2.out.mono ?_; rintro e w' ⟨rfl, rfl⟩) | (go_at_call 24; refine stop ?_))
        refine go ?_
        have hlf : (leftF X Y Z k).length ≤ 2 := by unfold leftF; split <;> simp
        refine (files_any (by show D.files.length ≤ _; rw [HDF.out]; omega) M2'.out.first).mono ?_
        rintro e w3' ⟨v, l, rfl, f1, f2, f3, f4⟩
        obtain ⟨pl, cl, rfl, hlc, -⟩ := id f1.sl
        have M3' := Lib.hid (M2'.out.quiet f4)
        have f2 : l.map LF.fl = leftF X Y Z k := f2.trans HDF.out
        have hcr := crash_any 0 (by decide) M3'.out.first
        have HCR := Lib.hid hcr
        have hc0 := px_crash0 (D := D.up) rfl
        rw [show D.up.files = leftF X Y Z k from HDF.out, px8] at hc0
        have HC0 := Lib.hid hc0
        have hlen := congrArg List.length f2
        rw [List.length_map] at hlen
        have hWL := HWL.out.1
        have hOL := HWL.out.2
        clear f3 f4 hcr hc0 hlf
        by_cases hO : OL = []
        · have f2' : l.map LF.fl = [⟨nA, WL, WL.length⟩] := by rw [f2]; unfold leftF; rw [← hOL, if_pos hO, ← hWL]
          have hl1 : l.length = 1 := by have := congrArg List.length f2'; simpa using this
          obtain ⟨fb, f, rfl, hf0, ho0, -, y0, y1, y2⟩ := f1.file (k := 0) (by omega)
          have hff : f.fl = ⟨nA, WL, WL.length⟩ := by
            have h1 : (l.map LF.fl)[0]? = some f.fl := by rw [List.getElem?_map, hf0]; rfl
            rw [f2'] at h1
            simpa using h1.symm
          obtain ⟨e1, e2, e3⟩ : f.name = ⟨#[97]⟩ ∧ f.bytes = WL ∧ f.sure = WL.length := by simpa [LF.fl, nA] using hff
          have esv : f.sv = .slice f.p WL.length f.cap := by unfold LF.sv; rw [e2]
          rw [esv] at y1 ho0
          rw [e2] at ho0
          rw [e1] at y0
          rw [e3] at y2
          simp only [Nat.zero_mul, Nat.zero_add] at y0 y1 y2
          have hcv : (convert 22 9 (.slice f.p WL.length f.cap)).run Try.prog w3' = .ok (.string ⟨WL.toArray⟩) w3' := run_toString (P := Try.prog) w3' 22 9 5 Try.underlying22 Try.underlying5 Try.underlying9 ho0.rb
          rw [hl1]
          subst hO
          rw [hl1] at hlc
          have hlc2 : (1 : Int) ≤ (cl : Int) := by omega
          clear f1 f2 f2' hf0 ho0 hff e1 e2 e3 esv hWL hOL hlen hl1
          go_wp2_with (first | (go_at_call 21; refine stop ?_))
          refine go ?_
          refine HCR.out.mono ?_
          rintro e w5' ⟨rfl, F5, z1, z2⟩
          have M5' := Lib.hid (M3'.out.turn (y := Ent.disk d _ F5) z1 (good_disk _ _ _) z2)
          clear z1 z2
          go_wp2
          go_roundw
          case rel => exact ⟨j + 1, by go_num, by omega, _, _, M5'.out, HC0.out.1, HC0.out.2⟩
          case measure => simp [Lib.intOf]; omega
        · have f2' : l.map LF.fl = [⟨nA, WL, WL.length⟩, ⟨nB, OL, OL.length⟩] := by rw [f2]; unfold leftF; rw [← hOL, if_neg hO, ← hWL]
          have hl1 : l.length = 2 := by have := congrArg List.length f2'; simpa using this
          obtain ⟨fb, f, rfl, hf0, ho0, -, y0, y1, y2⟩ := f1.file (k := 0) (by omega)
          obtain ⟨fb', f', he', hf1, ho1, -, u0, u1, u2⟩ := f1.file (k := 1) (by omega)
          obtain rfl : fb = fb' := by simpa using he'
          have hff : f.fl = ⟨nA, WL, WL.length⟩ := by
            have h1 : (l.map LF.fl)[0]? = some f.fl := by rw [List.getElem?_map, hf0]; rfl
            rw [f2'] at h1
            simpa using h1.symm
          have hff' : f'.fl = ⟨nB, OL, OL.length⟩ := by
            have h1 : (l.map LF.fl)[1]? = some f'.fl := by rw [List.getElem?_map, hf1]; rfl
            rw [f2'] at h1
            simpa using h1.symm
          obtain ⟨e1, e2, e3⟩ : f.name = ⟨#[97]⟩ ∧ f.bytes = WL ∧ f.sure = WL.length := by simpa [LF.fl, nA] using hff
          obtain ⟨g1, g2, g3⟩ : f'.name = ⟨#[98]⟩ ∧ f'.bytes = OL ∧ f'.sure = OL.length := by simpa [LF.fl, nB] using hff'
          have esv : f.sv = .slice f.p WL.length f.cap := by unfold LF.sv; rw [e2]
          have gsv : f'.sv = .slice f'.p OL.length f'.cap := by unfold LF.sv; rw [g2]
          rw [esv] at y1 ho0
          rw [e2] at ho0
          rw [e1] at y0
          rw [e3] at y2
          rw [gsv] at u1 ho1
          rw [g2] at ho1
          rw [g1] at u0
          simp only [Nat.zero_mul, Nat.zero_add] at y0 y1 y2
          simp only [Nat.one_mul] at u0 u1 u2
          have hcv : (convert 22 9 (.slice f.p WL.length f.cap)).run Try.prog w3' = .ok (.string ⟨WL.toArray⟩) w3' := run_toString (P := Try.prog) w3' 22 9 5 Try.underlying22 Try.underlying5 Try.underlying9 ho0.rb
          have hcu : (convert 22 9 (.slice f'.p OL.length f'.cap)).run Try.prog w3' = .ok (.string ⟨OL.toArray⟩) w3' := run_toString (P := Try.prog) w3' 22 9 5 Try.underlying22 Try.underlying5 Try.underlying9 ho1.rb
          rw [hl1]
          obtain ⟨c0, OT, rfl⟩ := List.exists_cons_of_ne_nil hO
          rw [List.length_cons] at hcu u1
          rw [hl1] at hlc
          have hlc2 : (2 : Int) ≤ (cl : Int) := by omega
          clear f1 f2 f2' hf0 ho0 hff e1 e2 e3 esv hWL hOL hlen hl1 hO hf1 ho1 hff' g1 g2 g3 gsv he' u2
          go_wp2_with (first | (go_at_call 21; refine stop ?_))
          refine go ?_
          refine HCR.out.mono ?_
          rintro e w5' ⟨rfl, F5, z1, z2⟩
          have M5' := Lib.hid (M3'.out.turn (y := Ent.disk d _ F5) z1 (good_disk _ _ _) z2)
          clear z1 z2
          go_wp2
          go_roundw
          case rel => exact ⟨j + 1, by go_num, by omega, _, _, M5'.out, HC0.out.1, HC0.out.2⟩
          case measure => simp [Lib.intOf]; omega
      · go_wp2
        go_ret
        exact ⟨rfl, HWC.out.trans HM.out.chg fun _ h => h.elim⟩
  | false =>
    have HCP := Lib.hid (copied_any (w := w6) (l := Y) (by have := HLX.out.2.1; omega) (RC.chg HY.out M7.out.chg fun _ _ h => h))
    go_wp2_with (first | (go_at_call 20; refine stop ?_))
    refine go ?_
    refine HCP.out.mono ?_
    rintro e w8 ⟨v8, rfl, o8, c8, n8⟩
    have M9 := Lib.hid (M7.out.quiet c8)
    have hap := append_any (nm := nA) (by decide) M9.out.first (OB.rb o8) (fun k hk hF => by have h1 := M7.out.first.lt k hF; have h2 := n8 k hk; omega)
    rw [px4 HL.out] at hap
    obtain ⟨p8, c8', rfl, -⟩ := id o8
    have HAP := Lib.hid hap
    clear hap o8 c8 n8 r1 r4
    go_wp2_with (first | (go_at_call 17; refine stop ?_))
    refine go ?_
    refine HAP.out.mono ?_
    rintro e w8b ⟨rfl, hl9⟩
    obtain ⟨F9, m9⟩ := M9.out.left hl9
    have hcr := crash_any (k : Int) HKI.out m9.first
    rw [px5] at hcr
    have HCR := Lib.hid hcr
    have M9b := Lib.hid m9
    clear hl9 m9 hcr
    go_wp2_with (first | (go_at_call 21; refine stop ?_))
    refine go ?_
    refine HCR.out.mono ?_
    rintro e w9 ⟨rfl, F10, z1, z2⟩
    have m10 := M9b.out.turn (y := Ent.disk d _ F10) z1 (good_disk _ _ _) z2
    have hbx := (m10.chg.block _ (hlt_of HB0.out) (fun h => h)).trans HB0.out
    have r1 := hcell_of hbx 1
    simp only [List.getElem?_toArray, List.getElem?_cons_zero, List.getElem?_cons_succ] at r1
    have M10 := Lib.hid m10
    clear z1 z2 m10 hbx
    simp only [show ((0 : Nat) : Int) = 0 from rfl]
    go_wp2_with (first | (go_at_call 16; refine (num_any _ _).mono ?_; rintro e w' ⟨rfl, rfl⟩))
    clear r1
    have hbx := (M10.out.chg.block _ (hlt_of HB0.out) (fun h => h)).trans HB0.out
    have r0 := hcell_of hbx 0
    have r1 := hcell_of hbx 1
    have r2 := hcell_of hbx 2
    simp only [List.getElem?_toArray, List.getElem?_cons_zero, List.getElem?_cons_succ] at r0 r1 r2
    have hm1 : (Y.length : Int) ≤ (cy : Int) := by obtain ⟨p', c', e, h1, -⟩ := HY.out; simp only [Value.slice.injEq] at e; omega
    have hm2 : Y.length ≤ cy := by omega
    have hc1 : (convert 22 9 (.slice px X.length cx)).run Try.prog w9.drew = .ok (.string ⟨X.toArray⟩) w9.drew := run_toString (P := Try.prog) w9.drew 22 9 5 Try.underlying22 Try.underlying5 Try.underlying9 (RC.chg HX.out M10.out.chg.drew fun _ _ h => h)
    have hc2 : (convert 22 9 (.slice py (min k Y.length) cy)).run Try.prog w9.drew = .ok (.string ⟨(Y.take (min k Y.length)).toArray⟩) w9.drew := run_toString (P := Try.prog) w9.drew 22 9 5 Try.underlying22 Try.underlying5 Try.underlying9 (RB.takeX (RC.chg HY.out M10.out.chg.drew fun _ _ h => h) (min k Y.length) (Nat.min_le_right _ _))
    have hc4 : (convert 22 9 (.slice py (min (k : Int) (Y.length : Int)).toNat cy)).run Try.prog w9.drew = .ok (.string ⟨(Y.take (min k Y.length)).toArray⟩) w9.drew := by rw [show (min (k : Int) (Y.length : Int)).toNat = min k Y.length by omega]; exact hc2
    have hc3 : (convert 22 9 (.slice pz Z.length cz)).run Try.prog w9.drew = .ok (.string ⟨Z.toArray⟩) w9.drew := run_toString (P := Try.prog) w9.drew 22 9 5 Try.underlying22 Try.underlying5 Try.underlying9 (RC.chg HZ.out M10.out.chg.drew fun _ _ h => h)
    clear hbx
    refine Rx.ws_region (fun _ => True) [(0, .r), (1, .r), (2, .r), (3, .r), (4, .r), (5, .r), (6, .r), (7, .r), (8, .r), (9, .r), (10, .r), (11, .r), (12, .r), (13, .r), (14, .r)] (by kernel_rfl) (by kernel_rfl) trivial (fun _ _ x _ _ h => (by cases x <;> exact h)) ?_
    iterate 15 (refine Rx.ws_q rfl rfl ?_; go_wp2; refine Rx.atS_mk ?_)
    refine Rx.ws_nil ?_
    go_wp2
    have hw : ((⟨#[33]⟩ : ByteArray) ++ ⟨X.toArray⟩ ++ ⟨(List.take (min k Y.length) Y).toArray⟩) = ⟨(33 :: X ++ Y.take k).toArray⟩ := px_want X Y k
    have ho : (((⟨#[63]⟩ : ByteArray) ++ ⟨Z.toArray⟩).extract 0 (min (k : Int) (1 + (Z.length : Int))).toNat) = ⟨((63 :: Z).take k).toArray⟩ := px_other Z k
    rw [hw, ho]
    have HD : Hid (∃ D F, Many W w9 [Ent.disk d D F] ∧ D.files = leftF X Y Z k ∧ D.down = true) := Lib.hid ⟨_, _, M10.out, rfl, rfl⟩
    clear hw ho hc1 hc2 hc3 hc4 hm1 hm2 r0 r1 r2
    obtain ⟨WL, hWL⟩ : ∃ WL : List UInt8, WL = 33 :: X ++ Y.take k := ⟨_, rfl⟩
    obtain ⟨OL, hOL⟩ : ∃ OL : List UInt8, OL = (63 :: Z).take k := ⟨_, rfl⟩
    rw [← hWL, ← hOL]
    have HWL := Lib.hid (And.intro hWL hOL)
    clear hWL hOL
    go_loopw [14] (fun i wr => ∃ j : Nat, i = .int .i64 (j : Int) ∧ j ≤ 2 ∧ ∃ D F, Many W wr [Ent.disk d D F] ∧ D.files = leftF X Y Z k ∧ D.down = true) (fun i _ => 2 - (Lib.intOf i).toNat)
    case atStart => exact ⟨0, rfl, by omega, by obtain ⟨D, F, h1, h2, h3⟩ := HD.out; exact ⟨D, F, h1.drewN 1, h2, h3⟩⟩
    case round =>
      obtain ⟨j, rfl, hj, D, F, hM, hDf, hDd⟩ := hrel
      have HM := Lib.hid hM
      have HDF := Lib.hid hDf
      have HDN := Lib.hid (down_any hM.first)
      have HUP := Lib.hid (up_any hM.first)
      rw [hDd] at HDN
      clear hM hDf hDd
      by_cases hjl : (j : Int) < 2
      · have hj0 : (0 : Int) ≤ (j : Int) := by omega
        go_wp2_with (first | (go_at_call 16; refine (num_any _ _).mono ?_; rintro e w' ⟨rfl, rfl⟩) | (go_at_call 22; refine HDN.out.mono ?_; rintro e w' ⟨rfl, rfl⟩) | (go_at_call 23; refine stop ?_))
        refine go ?_
        refine HUP.out.mono ?_
        rintro e w2' ⟨rfl, u1, u2⟩
        have m2 := HM.out.turn (y := Ent.disk d D.up F) u1 (good_disk _ _ _) u2
        have M2' := Lib.hid m2
        have HDN2 := Lib.hid (down_any m2.first)
        rw [show D.up.down = false from rfl] at HDN2
        clear u1 u2 m2
        go_wp2_with (first | (go_at_call 16; refine (num_any _ _).mono ?_; rintro e w' ⟨rfl, rfl⟩) | (go_at_call 22; refine HDN2.out.mono ?_; rintro e w' ⟨rfl, rfl⟩) | (go_at_call 24; refine stop ?_))
        refine go ?_
        have hlf : (leftF X Y Z k).length ≤ 2 := by unfold leftF; split <;> simp
        refine (files_any (by show D.files.length ≤ _; rw [HDF.out]; omega) M2'.out.first).mono ?_
        rintro e w3' ⟨v, l, rfl, f1, f2, f3, f4⟩
        obtain ⟨pl, cl, rfl, hlc, -⟩ := id f1.sl
        have M3' := Lib.hid (M2'.out.quiet f4)
        have f2 : l.map LF.fl = leftF X Y Z k := f2.trans HDF.out
        have hcr := crash_any 0 (by decide) M3'.out.first
        have HCR := Lib.hid hcr
        have hc0 := px_crash0 (D := D.up) rfl
        rw [show D.up.files = leftF X Y Z k from HDF.out, px8] at hc0
        have HC0 := Lib.hid hc0
        have hlen := congrArg List.length f2
        rw [List.length_map] at hlen
        have hWL := HWL.out.1
        have hOL := HWL.out.2
        clear f3 f4 hcr hc0 hlf
        by_cases hO : OL = []
        · have f2' : l.map LF.fl = [⟨nA, WL, WL.length⟩] := by rw [f2]; unfold leftF; rw [← hOL, if_pos hO, ← hWL]
          have hl1 : l.length = 1 := by have := congrArg List.length f2'; simpa using this
          obtain ⟨fb, f, rfl, hf0, ho0, -, y0, y1, y2⟩ := f1.file (k := 0) (by omega)
          have hff : f.fl = ⟨nA, WL, WL.length⟩ := by
            have h1 : (l.map LF.fl)[0]? = some f.fl := by rw [List.getElem?_map, hf0]; rfl
            rw [f2'] at h1
            simpa using h1.symm
          obtain ⟨e1, e2, e3⟩ : f.name = ⟨#[97]⟩ ∧ f.bytes = WL ∧ f.sure = WL.length := by simpa [LF.fl, nA] using hff
          have esv : f.sv = .slice f.p WL.length f.cap := by unfold LF.sv; rw [e2]
          rw [esv] at y1 ho0
          rw [e2] at ho0
          rw [e1] at y0
          rw [e3] at y2
          simp only [Nat.zero_mul, Nat.zero_add] at y0 y1 y2
          have hcv : (convert 22 9 (.slice f.p WL.length f.cap)).run Try.prog w3' = .ok (.string ⟨WL.toArray⟩) w3' := run_toString (P := Try.prog) w3' 22 9 5 Try.underlying22 Try.underlying5 Try.underlying9 ho0.rb
          rw [hl1]
          subst hO
          rw [hl1] at hlc
          have hlc2 : (1 : Int) ≤ (cl : Int) := by omega
          clear f1 f2 f2' hf0 ho0 hff e1 e2 e3 esv hWL hOL hlen hl1
          go_wp2_with (first | (go_at_call 21; refine stop ?_))
          refine go ?_
          refine HCR.out.mono ?_
          rintro e w5' ⟨rfl, F5, z1, z2⟩
          have M5' := Lib.hid (M3'.out.turn (y := Ent.disk d _ F5) z1 (good_disk _ _ _) z2)
          clear z1 z2
          go_wp2
          go_roundw
          case rel => exact ⟨j + 1, by go_num, by omega, _, _, M5'.out, HC0.out.1, HC0.out.2⟩
          case measure => simp [Lib.intOf]; omega
        · have f2' : l.map LF.fl = [⟨nA, WL, WL.length⟩, ⟨nB, OL, OL.length⟩] := by rw [f2]; unfold leftF; rw [← hOL, if_neg hO, ← hWL]
          have hl1 : l.length = 2 := by have := congrArg List.length f2'; simpa using this
          obtain ⟨fb, f, rfl, hf0, ho0, -, y0, y1, y2⟩ := f1.file (k := 0) (by omega)
          obtain ⟨fb', f', he', hf1, ho1, -, u0, u1, u2⟩ := f1.file (k := 1) (by omega)
          obtain rfl : fb = fb' := by simpa using he'
          have hff : f.fl = ⟨nA, WL, WL.length⟩ := by
            have h1 : (l.map LF.fl)[0]? = some f.fl := by rw [List.getElem?_map, hf0]; rfl
            rw [f2'] at h1
            simpa using h1.symm
          have hff' : f'.fl = ⟨nB, OL, OL.length⟩ := by
            have h1 : (l.map LF.fl)[1]? = some f'.fl := by rw [List.getElem?_map, hf1]; rfl
            rw [f2'] at h1
            simpa using h1.symm
          obtain ⟨e1, e2, e3⟩ : f.name = ⟨#[97]⟩ ∧ f.bytes = WL ∧ f.sure = WL.length := by simpa [LF.fl, nA] using hff
          obtain ⟨g1, g2, g3⟩ : f'.name = ⟨#[98]⟩ ∧ f'.bytes = OL ∧ f'.sure = OL.length := by simpa [LF.fl, nB] using hff'
          have esv : f.sv = .slice f.p WL.length f.cap := by unfold LF.sv; rw [e2]
          have gsv : f'.sv = .slice f'.p OL.length f'.cap := by unfold LF.sv; rw [g2]
          rw [esv] at y1 ho0
          rw [e2] at ho0
          rw [e1] at y0
          rw [e3] at y2
          rw [gsv] at u1 ho1
          rw [g2] at ho1
          rw [g1] at u0
          simp only [Nat.zero_mul, Nat.zero_add] at y0 y1 y2
          simp only [Nat.one_mul] at u0 u1 u2
          have hcv : (convert 22 9 (.slice f.p WL.length f.cap)).run Try.prog w3' = .ok (.string ⟨WL.toArray⟩) w3' := run_toString (P := Try.prog) w3' 22 9 5 Try.underlying22 Try.underlying5 Try.underlying9 ho0.rb
          have hcu : (convert 22 9 (.slice f'.p OL.length f'.cap)).run Try.prog w3' = .ok (.string ⟨OL.toArray⟩) w3' := run_toString (P := Try.prog) w3' 22 9 5 Try.underlying22 Try.underlying5 Try.underlying9 ho1.rb
          rw [hl1]
          obtain ⟨c0, OT, rfl⟩ := List.exists_cons_of_ne_nil hO
          rw [List.length_cons] at hcu u1
          rw [hl1] at hlc
          have hlc2 : (2 : Int) ≤ (cl : Int) := by omega
          clear f1 f2 f2' hf0 ho0 hff e1 e2 e3 esv hWL hOL hlen hl1 hO hf1 ho1 hff' g1 g2 g3 gsv he' u2
          go_wp2_with (first | (go_at_call 21; refine stop ?_))
          refine go ?_
          refine HCR.out.mono ?_
          rintro e w5' ⟨rfl, F5, z1, z2⟩
          have M5' := Lib.hid (M3'.out.turn (y := Ent.disk d _ F5) z1 (good_disk _ _ _) z2)
          clear z1 z2
          go_wp2
          go_roundw
          case rel => exact ⟨j + 1, by go_num, by omega, _, _, M5'.out, HC0.out.1, HC0.out.2⟩
          case measure => simp [Lib.intOf]; omega
      · go_wp2
        go_ret
        exact ⟨rfl, HWC.out.trans HM.out.chg fun _ h => h.elim⟩
end
end Go.Proofs
