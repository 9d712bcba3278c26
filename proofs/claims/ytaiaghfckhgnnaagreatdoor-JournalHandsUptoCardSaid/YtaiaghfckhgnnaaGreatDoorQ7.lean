/- JournalHands, proved: for all arguments whose values and letters are together at most 1048576 it answers true, and its arguments read as they did. Conditions: those of the statement. -/
import Derived.Test.YtaiaghfckhgnnaaGreatDoorJH
import Derived.Test.YtaiaghfckhgnnaaGreatDoorJ0
import Derived.Test.YtaiaghfckhgnnaaGreatDoorTie
import Derived.Test.YtaiaghfckhgnnaaGreatDoorCards
import Derived.SevenTiedAt
namespace Go.Proofs.YtaiaghfckhgnnaaGreatDoor.journalHands
open Go.ChangeShapes Go.WideShapes Go.ChangeAt Go.RowKit Go.Hp
set_option linter.unusedVariables false
set_option maxRecDepth 10000

theorem rd_bytes : Tryz.prog.readableRec 23 = true ∧ 23 < Tryz.prog.types.size := ⟨by kernel_rfl, of_decide_eq_true (by kernel_rfl)⟩
theorem contract (H : Type) (enc : TypeId × Value → H) (W : World) (args : Array Value) (ds gs : List (DataW H)) (before : List MemPlace)
    (hval : ∀ (j : Nat) t v, Tryz.f5.params[j]? = some t → args[j]? = some v → Value.okWide Tryz.prog W .any 0 t v)
    (hW : DataW.Whole enc Tryz.prog Tryz.f5.params.toList Rows.journalHandsSpec.vars false W args.toList ds gs before) (hk : Rows.uptoSmall H (ds ++ gs) = true) (hL : laidMetH Tryz.prog laidL W) :
    Calls Tryz.prog 5 args W fun e W' => ∃ v, e = .returned v ∧ Rows.journalHandsSpec.post enc Tryz.prog Tryz.f5 false true false false W args v W' := by
  have hW' := hW
  obtain ⟨p, q, hA0, hV, rfl, hfz, hnd⟩ := hW
  have hA : DataW.TrodAll enc Tryz.prog W 0 (fun _ => true) true Tryz.f5.params.toList args.toList ds p := hA0
  rw [Tryz.params5] at hA hval
  obtain ⟨v0, vs0, d0, ds0, p0, q0, hargs, rfl, rfl, h0, r0⟩ := trodAll_cons hA
  obtain ⟨v1, vs1, d1, ds1, p1, q1, rfl, rfl, rfl, h1, r1⟩ := trodAll_cons r0
  obtain ⟨v2, vs2, d2, ds2, p2, q2, rfl, rfl, rfl, h2, r2⟩ := trodAll_cons r1
  obtain ⟨rfl, rfl, rfl⟩ := trodAll_nil r2
  obtain rfl : args = #[v0, v1, v2] := by cases args; simp_all
  obtain ⟨rfl, rfl⟩ := trodVars_none hV
  have hkb := bulk_bound hk
  obtain ⟨a0, len0, cap0, rfl⟩ := okWide_slice Tryz.underlying22 (hval 0 22 v0 rfl rfl)
  obtain ⟨fuel0, hy0⟩ := h0
  have hy0 : DataW.trod enc Tryz.prog W 0 (fun _ => true) true fuel0 22 [.slice a0 len0 cap0] = some (d0, p0) := hy0
  obtain ⟨ls0, hr0, hn0, hb0⟩ := rows_of_trod hy0 (Nat.le_trans (bulk_part (by simp)) hkb)
  obtain rfl : len0 = ls0.length := by obtain ⟨_, _, e, -⟩ := hr0.rc; simp only [Value.slice.injEq] at e; exact e.2.1
  obtain ⟨a1, len1, cap1, rfl⟩ := okWide_slice Tryz.underlying23 (hval 1 23 v1 rfl rfl)
  obtain ⟨fuel1, hy1⟩ := h1
  have hy1 : DataW.trod enc Tryz.prog W 0 (fun _ => true) true fuel1 23 [.slice a1 len1 cap1] = some (d1, p1) := hy1
  obtain ⟨bs1, hr1, hb1⟩ := rb_of_trod hy1
  have hk1 : YtaiaghfckhgnnaaGreatDoor.Rows.uptoBulk d1 ≤ 1048576 := Nat.le_trans (bulk_part (by simp)) hkb
  obtain rfl : len1 = bs1.length := by obtain ⟨_, _, e, -⟩ := id hr1; simp only [Value.slice.injEq] at e; exact e.2.1
  obtain ⟨a2, len2, cap2, rfl⟩ := okWide_slice Tryz.underlying22 (hval 2 22 v2 rfl rfl)
  obtain ⟨fuel2, hy2⟩ := h2
  have hy2 : DataW.trod enc Tryz.prog W 0 (fun _ => true) true fuel2 22 [.slice a2 len2 cap2] = some (d2, p2) := hy2
  obtain ⟨ls2, hr2, hn2, hb2⟩ := rows_of_trod hy2 (Nat.le_trans (bulk_part (by simp)) hkb)
  obtain rfl : len2 = ls2.length := by obtain ⟨_, _, e, -⟩ := hr2.rc; simp only [Value.slice.injEq] at e; exact e.2.1
  have hwalk : Calls Tryz.prog 5 #[.slice a0 ls0.length cap0, .slice a1 bs1.length cap1, .slice a2 ls2.length cap2] W fun e w' => e = .returned (.bool true) ∧ Chg (fun _ => False) W w' := hands_walk (gl_of_laid hL) hr0 hn0 hb0 hr1 (Nat.le_trans (Nat.le_of_succ_le hb1) hk1) hr2 hn2 hb2
  refine hwalk.mono fun e W' ⟨he, hc⟩ => ⟨_, he, law_post hW' rfl ⟨rfl, rfl, rfl⟩ (by kernel_rfl) Tryz.underlying4 laid_Tryz (fun t ht => ?_) hc⟩
  rw [Tryz.params5] at ht
  have ht : t = 22 ∨ t = 23 := by
    have h : t = 22 ∨ t = 23 ∨ t = 22 := by simpa using ht
    rcases h with h | h | h
    · exact .inl h
    · exact .inr h
    · exact .inl h
  rcases ht with rfl | rfl
  · exact rd_rows
  · exact rd_bytes

set_option maxRecDepth 100000 in
theorem lifted (os : Os) (started : os.Started) (H : Type) (enc : TypeId × Value → H) (F : Stop.Interp) :
    ReturnsInHanded {} Tryz.checked os 5 .any (fun w args => ((Rows.OpenSpec.upto Rows.journalHandsSpec).pre enc Tryz.prog Tryz.f5 Rows.journalHandsUptoRow.domain false w args ∧ laidMetH Tryz.prog laidL w) ∧ sizedMet enc Tryz.prog Tryz.f5 (Rows.OpenSpec.upto Rows.journalHandsSpec) false w args)
      (((Rows.OpenSpec.upto Rows.journalHandsSpec).at F).post enc Tryz.prog Tryz.f5 false true false false) := by
  refine returnsInHanded_of_cond_and (C := Tryz.checked) (s := Rows.OpenSpec.upto Rows.journalHandsSpec) (k := Rows.uptoSmall) rfl (X := fun w _ => laidMetH Tryz.prog laidL w) (fun _ _ _ hh h => h.of_heap hh) own_Tryz started (by kernel_rfl) Tryz.func5
    (witness_cond_at (enc := enc) (C := Tryz.checked) (s := Rows.OpenSpec.upto Rows.journalHandsSpec) (k := Rows.uptoSmall) rfl (X := fun w _ => laidMetH Tryz.prog laidL w) false (laidWorld os) #[.slice none 0 0, .slice none 0 0, .slice none 0 0] 8 rfl (by kernel_rfl) (by kernel_rfl) (by kernel_rfl)
      (x := ([.nil, .nil, .nil], [], [])) (by kernel_rfl) rfl (by kernel_rfl) (by kernel_rfl) (laidWorld_met os _)) ?_
  intro W base args ds gs before hval hW hk hL
  refine contract H enc W args ds gs before (fun j t v h1 h2 => ?_) hW hk hL
  exact hval j t v h1 h2

theorem said : Rows.JournalHandsUptoSaid :=
  OpenClaim.holds_of_cond 5 Tryz.f5 rfl rfl rfl rfl rfl rfl rfl ⟨rfl, rfl, rfl, rfl, rfl⟩ rfl rfl rfl rfl rfl (by kernel_rfl) Tryz.func5 (by kernel_rfl)
    (of_decide_eq_true (by kernel_rfl)) (by unfold Func.isWrapper; first | (rw [if_pos (by decide +kernel)]; kernel_rfl) | (rw [if_neg (by decide +kernel)]; exact ⟨rfl, rfl⟩))
    (fun os started H enc _ F => lifted os started H enc F)
/-- the tied card -/
theorem proved : Rows.JournalHandsUptoCardSaid :=
  Claim7.holds_tied_plain_at .later [] [.handle, .data] true (true, "4e44327b26737b9a8168a64666d5789bee368c5eb82f51374182549a7f9e89d2") true
    said (fun _ h => by cases h) (by kernel_rfl) (fun _ h => by cases h) journalHandsUpto_row_tie rfl ⟨rfl, rfl⟩ (by kernel_rfl) rfl
    (fun f fn hf hfn => by
      obtain rfl : f = 5 := Option.some.inj ((show Tryz.prog.funcNamed "redraft/redraftlaw12.JournalHands" = some 5 by kernel_rfl).symm.trans hf) |>.symm
      obtain rfl : fn = Tryz.f5 := (Option.some.inj (Tryz.func5.symm.trans hfn)).symm
      exact ⟨by kernel_rfl, fun j t ht => by
        rw [Tryz.params5] at ht
        have h3 : t = 22 ∨ t = 23 := by
          rcases j with _ | _ | _ | j
          · exact .inl (by simpa using ht.symm)
          · exact .inr (by simpa using ht.symm)
          · exact .inl (by simpa using ht.symm)
          · simp at ht
        rcases h3 with rfl | rfl
        · exact (show Tryz.prog.wantsStandIn 22 = false by kernel_rfl)
        · exact (show Tryz.prog.wantsStandIn 23 = false by kernel_rfl)⟩)
    (by kernel_rfl)
end Go.Proofs.YtaiaghfckhgnnaaGreatDoor.journalHands
