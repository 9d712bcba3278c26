/- JournalLong, proved: it answers true. Conditions: those of the statement. -/
import Derived.Test.YtaiaghfckhgnnaaDoorGb
import Derived.Test.YtaiaghfckhgnnaaDoorJ0
import Derived.Test.YtaiaghfckhgnnaaDoorTie
import Derived.Test.YtaiaghfckhgnnaaDoorCards
import Derived.SevenTiedAt
namespace Go.Proofs.YtaiaghfckhgnnaaDoor.journalLong
open Go.ChangeShapes Go.WideShapes Go.ChangeAt Go.RowKit Go.Hp
set_option linter.unusedVariables false
set_option maxRecDepth 10000

theorem contract (H : Type) (enc : TypeId × Value → H) (W : World) (args : Array Value) (ds gs : List (DataW H)) (before : List MemPlace)
    (hval : ∀ (j : Nat) t v, Tryd.f4.params[j]? = some t → args[j]? = some v → Value.okWide Tryd.prog W .any 0 t v)
    (hW : DataW.Whole enc Tryd.prog Tryd.f4.params.toList Rows.journalLongSpec.vars false W args.toList ds gs before) (hk : Rows.uptoSmall H (ds ++ gs) = true) (hL : laidMetH Tryd.prog laidL W) :
    Calls Tryd.prog 4 args W fun e W' => ∃ v, e = .returned v ∧ Rows.journalLongSpec.post enc Tryd.prog Tryd.f4 false true false false W args v W' := by
  have hW' := hW
  obtain ⟨p, q, hA0, hV, rfl, hfz, hnd⟩ := hW
  have hA : DataW.TrodAll enc Tryd.prog W 0 (fun _ => true) true Tryd.f4.params.toList args.toList ds p := hA0
  rw [Tryd.params4] at hA hval
  obtain ⟨hargs, rfl, rfl⟩ := trodAll_nil hA
  obtain rfl : args = #[] := by cases args; simp_all
  obtain ⟨rfl, rfl⟩ := trodVars_none hV
  have hwalk : Calls Tryd.prog 4 #[] W fun e w' => e = .returned (.bool true) ∧ Chg (fun _ => False) W w' := long_walk (gl_of_laid hL)
  refine hwalk.mono fun e W' ⟨he, hc⟩ => ⟨_, he, law_post hW' rfl ⟨rfl, rfl, rfl⟩ (by kernel_rfl) Tryd.underlying4 laid_Tryd (fun t ht => ?_) hc⟩
  rw [Tryd.params4] at ht
  simp at ht

set_option maxRecDepth 100000 in
theorem lifted (os : Os) (started : os.Started) (H : Type) (enc : TypeId × Value → H) (F : Stop.Interp) :
    ReturnsInHanded {} Tryd.checked os 4 .any (fun w args => ((Rows.OpenSpec.upto Rows.journalLongSpec).pre enc Tryd.prog Tryd.f4 Rows.journalLongUptoRow.domain false w args ∧ laidMetH Tryd.prog laidL w) ∧ sizedMet enc Tryd.prog Tryd.f4 (Rows.OpenSpec.upto Rows.journalLongSpec) false w args)
      (((Rows.OpenSpec.upto Rows.journalLongSpec).at F).post enc Tryd.prog Tryd.f4 false true false false) := by
  refine returnsInHanded_of_cond_and (C := Tryd.checked) (s := Rows.OpenSpec.upto Rows.journalLongSpec) (k := Rows.uptoSmall) rfl (X := fun w _ => laidMetH Tryd.prog laidL w) (fun _ _ _ hh h => h.of_heap hh) own_Tryd started (by kernel_rfl) Tryd.func4
    (witness_cond_at (enc := enc) (C := Tryd.checked) (s := Rows.OpenSpec.upto Rows.journalLongSpec) (k := Rows.uptoSmall) rfl (X := fun w _ => laidMetH Tryd.prog laidL w) false (laidWorld os) #[] 8 rfl (by kernel_rfl) (by kernel_rfl) (by kernel_rfl)
      (x := ([], [], [])) (by kernel_rfl) rfl (by kernel_rfl) (by kernel_rfl) (laidWorld_met os _)) ?_
  intro W base args ds gs before hval hW hk hL
  refine contract H enc W args ds gs before (fun j t v h1 h2 => ?_) hW hk hL
  exact hval j t v h1 h2

theorem said : Rows.JournalLongUptoSaid :=
  OpenClaim.holds_of_cond 4 Tryd.f4 rfl rfl rfl rfl rfl rfl rfl ⟨rfl, rfl, rfl, rfl, rfl⟩ rfl rfl rfl rfl rfl (by kernel_rfl) Tryd.func4 (by kernel_rfl)
    (of_decide_eq_true (by kernel_rfl)) (by unfold Func.isWrapper; first | (rw [if_pos (by decide +kernel)]; kernel_rfl) | (rw [if_neg (by decide +kernel)]; exact ⟨rfl, rfl⟩))
    (fun os started H enc _ F => lifted os started H enc F)
/-- the tied card -/
theorem proved : Rows.JournalLongUptoCardSaid :=
  Claim7.holds_tied_plain_at .later [] [.handle, .data] true (true, "082fa937cd65839c1d586d7a5e6da8098801f278e6ad1ef5969548bd3813b5f8") true
    said (fun _ h => by cases h) (by kernel_rfl) (fun _ h => by cases h) journalLongUpto_row_tie rfl ⟨rfl, rfl⟩ (by kernel_rfl) rfl
    (fun f fn hf hfn => by
      obtain rfl : f = 4 := Option.some.inj ((show Tryd.prog.funcNamed "redraft/redraftlaw12.JournalLong" = some 4 by kernel_rfl).symm.trans hf) |>.symm
      obtain rfl : fn = Tryd.f4 := (Option.some.inj (Tryd.func4.symm.trans hfn)).symm
      exact ⟨by kernel_rfl, fun j t ht => by
        rw [Tryd.params4] at ht
        simp at ht⟩)
    (by kernel_rfl)
end Go.Proofs.YtaiaghfckhgnnaaDoor.journalLong
