/- JournalFinds, proved: for all arguments whose values and letters are together at most 1048576 it answers true, and its arguments read as they did. Conditions: those of the statement. -/
import Derived.Test.YtaiaghfckhgnnaaGreatDoorF7
import Derived.Test.YtaiaghfckhgnnaaGreatDoorJ0
import Derived.Test.YtaiaghfckhgnnaaGreatDoorTie
import Derived.Test.YtaiaghfckhgnnaaGreatDoorCards
import Derived.SevenTiedAt
namespace Go.Proofs.YtaiaghfckhgnnaaGreatDoor.journalFinds
open Go.ChangeShapes Go.WideShapes Go.ChangeAt Go.RowKit Go.Hp
set_option linter.unusedVariables false
set_option maxRecDepth 10000

theorem rd_steps : Tryz.prog.readableRec 62 = true ∧ 62 < Tryz.prog.types.size := ⟨by kernel_rfl, of_decide_eq_true (by kernel_rfl)⟩
theorem contract (H : Type) (enc : TypeId × Value → H) (W : World) (args : Array Value) (ds gs : List (DataW H)) (before : List MemPlace)
    (hval : ∀ (j : Nat) t v, Tryz.f6.params[j]? = some t → args[j]? = some v → Value.okWide Tryz.prog W .any 0 t v)
    (hW : DataW.Whole enc Tryz.prog Tryz.f6.params.toList Rows.journalFindsSpec.vars false W args.toList ds gs before) (hk : Rows.uptoSmall H (ds ++ gs) = true) (hL : laidMetH Tryz.prog laidL W) :
    Calls Tryz.prog 6 args W fun e W' => ∃ v, e = .returned v ∧ Rows.journalFindsSpec.post enc Tryz.prog Tryz.f6 false true false false W args v W' := by
  have hW' := hW
  obtain ⟨p, q, hA0, hV, rfl, hfz, hnd⟩ := hW
  have hA : DataW.TrodAll enc Tryz.prog W 0 (fun _ => true) true Tryz.f6.params.toList args.toList ds p := hA0
  rw [Tryz.params6] at hA hval
  obtain ⟨v0, vs0, d0, ds0, p0, q0, hargs, rfl, rfl, h0, r0⟩ := trodAll_cons hA
  obtain ⟨rfl, rfl, rfl⟩ := trodAll_nil r0
  obtain rfl : args = #[v0] := by cases args; simp_all
  obtain ⟨rfl, rfl⟩ := trodVars_none hV
  have hkb := bulk_bound hk
  obtain ⟨a0, len0, cap0, rfl⟩ := okWide_slice Tryz.underlying62 (hval 0 62 v0 rfl rfl)
  obtain ⟨fuel0, hy0⟩ := h0
  have hy0 : DataW.trod enc Tryz.prog W 0 (fun _ => true) true fuel0 62 [.slice a0 len0 cap0] = some (d0, p0) := hy0
  obtain ⟨ls0, hr0⟩ := steps_of_trod hy0 (Nat.le_trans (bulk_part (by simp)) hkb)
  obtain rfl : len0 = ls0.length := by obtain ⟨_, _, e, -⟩ := hr0.row; simp only [Value.slice.injEq] at e; exact e.2.1
  have hwalk : Calls Tryz.prog 6 #[.slice a0 ls0.length cap0] W fun e w' => e = .returned (.bool true) ∧ Chg (fun _ => False) W w' := finds_walk (gl_of_laid hL) hr0
  refine hwalk.mono fun e W' ⟨he, hc⟩ => ⟨_, he, law_post hW' rfl ⟨rfl, rfl, rfl⟩ (by kernel_rfl) Tryz.underlying4 laid_Tryz (fun t ht => ?_) hc⟩
  rw [Tryz.params6] at ht
  have ht : t = 62 := by simpa using ht
  subst ht
  exact rd_steps

set_option maxRecDepth 100000 in
theorem lifted (os : Os) (started : os.Started) (H : Type) (enc : TypeId × Value → H) (F : Stop.Interp) :
    ReturnsInHanded {} Tryz.checked os 6 .any (fun w args => ((Rows.OpenSpec.upto Rows.journalFindsSpec).pre enc Tryz.prog Tryz.f6 Rows.journalFindsUptoRow.domain false w args ∧ laidMetH Tryz.prog laidL w) ∧ sizedMet enc Tryz.prog Tryz.f6 (Rows.OpenSpec.upto Rows.journalFindsSpec) false w args)
      (((Rows.OpenSpec.upto Rows.journalFindsSpec).at F).post enc Tryz.prog Tryz.f6 false true false false) := by
  refine returnsInHanded_of_cond_and (C := Tryz.checked) (s := Rows.OpenSpec.upto Rows.journalFindsSpec) (k := Rows.uptoSmall) rfl (X := fun w _ => laidMetH Tryz.prog laidL w) (fun _ _ _ hh h => h.of_heap hh) own_Tryz started (by kernel_rfl) Tryz.func6
    (witness_cond_at (enc := enc) (C := Tryz.checked) (s := Rows.OpenSpec.upto Rows.journalFindsSpec) (k := Rows.uptoSmall) rfl (X := fun w _ => laidMetH Tryz.prog laidL w) false (laidWorld os) #[.slice none 0 0] 8 rfl (by kernel_rfl) (by kernel_rfl) (by kernel_rfl)
      (x := ([.nil], [], [])) (by kernel_rfl) rfl (by kernel_rfl) (by kernel_rfl) (laidWorld_met os _)) ?_
  intro W base args ds gs before hval hW hk hL
  refine contract H enc W args ds gs before (fun j t v h1 h2 => ?_) hW hk hL
  exact hval j t v h1 h2

theorem said : Rows.JournalFindsUptoSaid :=
  OpenClaim.holds_of_cond 6 Tryz.f6 rfl rfl rfl rfl rfl rfl rfl ⟨rfl, rfl, rfl, rfl, rfl⟩ rfl rfl rfl rfl rfl (by kernel_rfl) Tryz.func6 (by kernel_rfl)
    (of_decide_eq_true (by kernel_rfl)) (by unfold Func.isWrapper; first | (rw [if_pos (by decide +kernel)]; kernel_rfl) | (rw [if_neg (by decide +kernel)]; exact ⟨rfl, rfl⟩))
    (fun os started H enc _ F => lifted os started H enc F)
/-- the tied card -/
theorem proved : Rows.JournalFindsUptoCardSaid :=
  Claim7.holds_tied_plain_at .later [] [.handle, .data] true (true, "4e44327b26737b9a8168a64666d5789bee368c5eb82f51374182549a7f9e89d2") true
    said (fun _ h => by cases h) (by kernel_rfl) (fun _ h => by cases h) journalFindsUpto_row_tie rfl ⟨rfl, rfl⟩ (by kernel_rfl) rfl
    (fun f fn hf hfn => by
      obtain rfl : f = 6 := Option.some.inj ((show Tryz.prog.funcNamed "redraft/redraftlaw12.JournalFinds" = some 6 by kernel_rfl).symm.trans hf) |>.symm
      obtain rfl : fn = Tryz.f6 := (Option.some.inj (Tryz.func6.symm.trans hfn)).symm
      exact ⟨by kernel_rfl, fun j t ht => by
        rw [Tryz.params6] at ht
        have h3 : t = 62 := by
          rcases j with _ | j
          · exact (by simpa using ht.symm)
          · simp at ht
        subst h3
        exact (show Tryz.prog.wantsStandIn 62 = false by kernel_rfl)⟩)
    (by kernel_rfl)
end Go.Proofs.YtaiaghfckhgnnaaGreatDoor.journalFinds
