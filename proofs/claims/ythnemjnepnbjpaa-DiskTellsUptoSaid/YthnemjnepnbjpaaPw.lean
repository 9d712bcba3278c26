/- DiskWrites, DiskReads, DiskTells, DiskCrashes, DiskAll: their walks. Conditions: the script's files and ops lie as IFiles and OpsAt say. -/
import Derived.Test.YthnemjnepnbjpaaPy
namespace Go.Proofs
open Go.RowKit Go.Hp Go.Dm Go.Dr
set_option linter.unusedVariables false
set_option maxRecDepth 10000
section
variable {w : World} {fv ov : Value} {l : List LI} {ops : List (OpP × Value)}

set_option maxHeartbeats 4000000 in
theorem diskWrites_walk (lim : Int) (hb1 : -9223372036854775808 ≤ lim) (hb2 : lim ≤ 9223372036854775807) (h : IFiles w fv l) (ho : OpsAt w ov ops) :
    Calls Try.prog 9 #[.agg #[.int .i64 lim, fv, ov]] w fun e w' => e = .returned (.bool true) ∧ Chg (fun _ => False) w w' := by
  obtain ⟨pf, cf, rfl, -⟩ := id h.row
  obtain ⟨p, cap, rfl, -⟩ := id ho.row
  have HC := Lib.hid ((Chg.refl (fun _ => False) w).alloc (.cells #[.int .i64 lim, .slice pf l.length cf, .slice p ops.length cap] 50))
  have HZ := Lib.hid (halloc_at w (.cells #[.int .i64 lim, .slice pf l.length cf, .slice p ops.length cap] 50))
  have HP := Lib.hid fun U (hU : Chg (fun _ => False) w U) => played_any (w := U) lim 1 4 hb1 hb2 (h.chg hU) (ho.chg hU)
  clear h ho hb1 hb2
  go_enter Try.func9, Try.ntmps9
  go_wp2_with (first | (go_at_call 28; refine stop ?_))
  refine go ?_
  refine (awake_any _).mono ?_
  rintro e w1 ⟨rfl, c1⟩
  have C1 := Lib.hid (HC.out.trans c1 fun _ h => h.elim)
  have Z1 := Lib.hid ((c1.block _ (hlt_of HZ.out) (fun h => h)).trans HZ.out)
  have q0 := hcell_of Z1.out 0
  have q1 := hcell_of Z1.out 1
  have q2 := hcell_of Z1.out 2
  simp only [List.getElem?_toArray, List.getElem?_cons_zero, List.getElem?_cons_succ] at q0 q1 q2
  clear c1
  go_wp2_with (first | (go_at_call 38; refine stop ?_))
  refine go ?_
  refine (HP.out _ C1.out).mono ?_
  rintro e w2 ⟨rfl, c2⟩
  have C2 := Lib.hid (C1.out.trans c2 fun _ h => h.elim)
  clear c2
  go_wp2
  go_ret
  exact ⟨rfl, C2.out⟩

set_option maxHeartbeats 4000000 in
theorem diskReads_walk (lim : Int) (hb1 : -9223372036854775808 ≤ lim) (hb2 : lim ≤ 9223372036854775807) (h : IFiles w fv l) (ho : OpsAt w ov ops) :
    Calls Try.prog 10 #[.agg #[.int .i64 lim, fv, ov]] w fun e w' => e = .returned (.bool true) ∧ Chg (fun _ => False) w w' := by
  obtain ⟨pf, cf, rfl, -⟩ := id h.row
  obtain ⟨p, cap, rfl, -⟩ := id ho.row
  have HC := Lib.hid ((Chg.refl (fun _ => False) w).alloc (.cells #[.int .i64 lim, .slice pf l.length cf, .slice p ops.length cap] 50))
  have HZ := Lib.hid (halloc_at w (.cells #[.int .i64 lim, .slice pf l.length cf, .slice p ops.length cap] 50))
  have HP := Lib.hid fun U (hU : Chg (fun _ => False) w U) => played_any (w := U) lim 5 6 hb1 hb2 (h.chg hU) (ho.chg hU)
  clear h ho hb1 hb2
  go_enter Try.func10, Try.ntmps10
  go_wp2_with (first | (go_at_call 28; refine stop ?_))
  refine go ?_
  refine (awake_any _).mono ?_
  rintro e w1 ⟨rfl, c1⟩
  have C1 := Lib.hid (HC.out.trans c1 fun _ h => h.elim)
  have Z1 := Lib.hid ((c1.block _ (hlt_of HZ.out) (fun h => h)).trans HZ.out)
  have q0 := hcell_of Z1.out 0
  have q1 := hcell_of Z1.out 1
  have q2 := hcell_of Z1.out 2
  simp only [List.getElem?_toArray, List.getElem?_cons_zero, List.getElem?_cons_succ] at q0 q1 q2
  clear c1
  go_wp2_with (first | (go_at_call 38; refine stop ?_))
  refine go ?_
  refine (HP.out _ C1.out).mono ?_
  rintro e w2 ⟨rfl, c2⟩
  have C2 := Lib.hid (C1.out.trans c2 fun _ h => h.elim)
  clear c2
  go_wp2
  go_ret
  exact ⟨rfl, C2.out⟩

set_option maxHeartbeats 4000000 in
theorem diskTells_walk (lim : Int) (hb1 : -9223372036854775808 ≤ lim) (hb2 : lim ≤ 9223372036854775807) (h : IFiles w fv l) (ho : OpsAt w ov ops) :
    Calls Try.prog 11 #[.agg #[.int .i64 lim, fv, ov]] w fun e w' => e = .returned (.bool true) ∧ Chg (fun _ => False) w w' := by
  obtain ⟨pf, cf, rfl, -⟩ := id h.row
  obtain ⟨p, cap, rfl, -⟩ := id ho.row
  have HC := Lib.hid ((Chg.refl (fun _ => False) w).alloc (.cells #[.int .i64 lim, .slice pf l.length cf, .slice p ops.length cap] 50))
  have HZ := Lib.hid (halloc_at w (.cells #[.int .i64 lim, .slice pf l.length cf, .slice p ops.length cap] 50))
  have HP := Lib.hid fun U (hU : Chg (fun _ => False) w U) => played_any (w := U) lim 7 7 hb1 hb2 (h.chg hU) (ho.chg hU)
  clear h ho hb1 hb2
  go_enter Try.func11, Try.ntmps11
  go_wp2_with (first | (go_at_call 28; refine stop ?_))
  refine go ?_
  refine (awake_any _).mono ?_
  rintro e w1 ⟨rfl, c1⟩
  have C1 := Lib.hid (HC.out.trans c1 fun _ h => h.elim)
  have Z1 := Lib.hid ((c1.block _ (hlt_of HZ.out) (fun h => h)).trans HZ.out)
  have q0 := hcell_of Z1.out 0
  have q1 := hcell_of Z1.out 1
  have q2 := hcell_of Z1.out 2
  simp only [List.getElem?_toArray, List.getElem?_cons_zero, List.getElem?_cons_succ] at q0 q1 q2
  clear c1
  go_wp2_with (first | (go_at_call 38; refine stop ?_))
  refine go ?_
  refine (HP.out _ C1.out).mono ?_
  rintro e w2 ⟨rfl, c2⟩
  have C2 := Lib.hid (C1.out.trans c2 fun _ h => h.elim)
  clear c2
  go_wp2
  go_ret
  exact ⟨rfl, C2.out⟩

set_option maxHeartbeats 4000000 in
theorem diskCrashes_walk (lim : Int) (hb1 : -9223372036854775808 ≤ lim) (hb2 : lim ≤ 9223372036854775807) (h : IFiles w fv l) (ho : OpsAt w ov ops) :
    Calls Try.prog 12 #[.agg #[.int .i64 lim, fv, ov]] w fun e w' => e = .returned (.bool true) ∧ Chg (fun _ => False) w w' := by
  obtain ⟨pf, cf, rfl, -⟩ := id h.row
  obtain ⟨p, cap, rfl, -⟩ := id ho.row
  have HC := Lib.hid ((Chg.refl (fun _ => False) w).alloc (.cells #[.int .i64 lim, .slice pf l.length cf, .slice p ops.length cap] 50))
  have HZ := Lib.hid (halloc_at w (.cells #[.int .i64 lim, .slice pf l.length cf, .slice p ops.length cap] 50))
  have HP := Lib.hid fun U (hU : Chg (fun _ => False) w U) => played_any (w := U) lim 8 11 hb1 hb2 (h.chg hU) (ho.chg hU)
  clear h ho hb1 hb2
  go_enter Try.func12, Try.ntmps12
  go_wp2_with (first | (go_at_call 28; refine stop ?_))
  refine go ?_
  refine (awake_any _).mono ?_
  rintro e w1 ⟨rfl, c1⟩
  have C1 := Lib.hid (HC.out.trans c1 fun _ h => h.elim)
  have Z1 := Lib.hid ((c1.block _ (hlt_of HZ.out) (fun h => h)).trans HZ.out)
  have q0 := hcell_of Z1.out 0
  have q1 := hcell_of Z1.out 1
  have q2 := hcell_of Z1.out 2
  simp only [List.getElem?_toArray, List.getElem?_cons_zero, List.getElem?_cons_succ] at q0 q1 q2
  clear c1
  go_wp2_with (first | (go_at_call 38; refine stop ?_))
  refine go ?_
  refine (HP.out _ C1.out).mono ?_
  rintro e w2 ⟨rfl, c2⟩
  have C2 := Lib.hid (C1.out.trans c2 fun _ h => h.elim)
  clear c2
  go_wp2
  go_ret
  exact ⟨rfl, C2.out⟩

set_option maxHeartbeats 4000000 in
theorem diskAll_walk (lim : Int) (hb1 : -9223372036854775808 ≤ lim) (hb2 : lim ≤ 9223372036854775807) (h : IFiles w fv l) (ho : OpsAt w ov ops) :
    Calls Try.prog 13 #[.agg #[.int .i64 lim, fv, ov]] w fun e w' => e = .returned (.bool true) ∧ Chg (fun _ => False) w w' := by
  obtain ⟨pf, cf, rfl, -⟩ := id h.row
  obtain ⟨p, cap, rfl, -⟩ := id ho.row
  have HC := Lib.hid ((Chg.refl (fun _ => False) w).alloc (.cells #[.int .i64 lim, .slice pf l.length cf, .slice p ops.length cap] 50))
  have HZ := Lib.hid (halloc_at w (.cells #[.int .i64 lim, .slice pf l.length cf, .slice p ops.length cap] 50))
  have HP := Lib.hid fun U (hU : Chg (fun _ => False) w U) => played_any (w := U) lim 1 11 hb1 hb2 (h.chg hU) (ho.chg hU)
  clear h ho hb1 hb2
  go_enter Try.func13, Try.ntmps13
  go_wp2_with (first | (go_at_call 28; refine stop ?_))
  refine go ?_
  refine (awake_any _).mono ?_
  rintro e w1 ⟨rfl, c1⟩
  have C1 := Lib.hid (HC.out.trans c1 fun _ h => h.elim)
  have Z1 := Lib.hid ((c1.block _ (hlt_of HZ.out) (fun h => h)).trans HZ.out)
  have q0 := hcell_of Z1.out 0
  have q1 := hcell_of Z1.out 1
  have q2 := hcell_of Z1.out 2
  simp only [List.getElem?_toArray, List.getElem?_cons_zero, List.getElem?_cons_succ] at q0 q1 q2
  clear c1
  go_wp2_with (first | (go_at_call 38; refine stop ?_))
  refine go ?_
  refine (HP.out _ C1.out).mono ?_
  rintro e w2 ⟨rfl, c2⟩
  have C2 := Lib.hid (C1.out.trans c2 fun _ h => h.elim)
  clear c2
  go_wp2
  go_ret
  exact ⟨rfl, C2.out⟩
end
end Go.Proofs
