/- JournalFull, proved: for every number and every list of records whose values and letters are together at most 1048576 it answers true, and its arguments read as they did. Conditions: those of the statement. -/
import Derived.Test.YtaiaghfckhgnnaaDoorJa
import Derived.Test.YtaiaghfckhgnnaaDoorJ0
import Derived.Test.YtaiaghfckhgnnaaDoorTie
import Derived.Test.YtaiaghfckhgnnaaDoorCards
import Derived.SevenTiedAt
namespace Go.Proofs.YtaiaghfckhgnnaaDoor.journalFull
open Go.ChangeShapes Go.WideShapes Go.ChangeAt Go.RowKit Go.Hp
set_option linter.unusedVariables false
set_option maxRecDepth 10000

theorem contract (H : Type) (enc : TypeId × Value → H) (W : World) (args : Array Value) (ds gs : List (DataW H)) (before : List MemPlace)
    (hval : ∀ (j : Nat) t v, Tryd.f3.params[j]? = some t → args[j]? = some v → Value.okWide Tryd.prog W .any 0 t v)
    (hW : DataW.Whole enc Tryd.prog Tryd.f3.params.toList Rows.journalFullSpec.vars false W args.toList ds gs before) (hk : Rows.uptoSmall H (ds ++ gs) = true) (hL : laidMetH Tryd.prog laidL W) :
    Calls Tryd.prog 3 args W fun e W' => ∃ v, e = .returned v ∧ Rows.journalFullSpec.post enc Tryd.prog Tryd.f3 false true false false W args v W' := by
  have hW' := hW
  obtain ⟨p, q, hA0, hV, rfl, hfz, hnd⟩ := hW
  have hA : DataW.TrodAll enc Tryd.prog W 0 (fun _ => true) true Tryd.f3.params.toList args.toList ds p := hA0
  rw [Tryd.params3] at hA hval
  obtain ⟨v0, vs0, d0, ds0, p0, q0, hargs, rfl, rfl, h0, r0⟩ := trodAll_cons hA
  obtain ⟨v1, vs1, d1, ds1, p1, q1, rfl, rfl, rfl, h1, r1⟩ := trodAll_cons r0
  obtain ⟨rfl, rfl, rfl⟩ := trodAll_nil r1
  obtain rfl : args = #[v0, v1] := by cases args; simp_all
  obtain ⟨rfl, rfl⟩ := trodVars_none hV
  have hkb := bulk_bound hk
  obtain ⟨n0, rfl, rfl, rfl, wf0⟩ := open_int Tryd.underlying3 (hval 0 3 v0 rfl rfl) h0
  obtain ⟨a1, len1, cap1, rfl⟩ := okWide_slice Tryd.underlying22 (hval 1 22 v1 rfl rfl)
  obtain ⟨fuel1, hy1⟩ := h1
  have hy1 : DataW.trod enc Tryd.prog W 0 (fun _ => true) true fuel1 22 [.slice a1 len1 cap1] = some (d1, p1) := hy1
  obtain ⟨ls, hr, hn, hb⟩ := rows_of_trod hy1 (Nat.le_trans (bulk_part (by simp)) hkb)
  obtain rfl : len1 = ls.length := by obtain ⟨_, _, e, -⟩ := hr.rc; simp only [Value.slice.injEq] at e; exact e.2.1
  have hwalk : Calls Tryd.prog 3 #[.int .i64 n0, .slice a1 ls.length cap1] W fun e w' => e = .returned (.bool true) ∧ Chg (fun _ => False) W w' := full_walk n0 (gl_of_laid hL) hr hn hb
  refine hwalk.mono fun e W' ⟨he, hc⟩ => ⟨_, he, law_post hW' rfl ⟨rfl, rfl, rfl⟩ (by kernel_rfl) Tryd.underlying4 laid_Tryd (fun t ht => ?_) hc⟩
  rw [Tryd.params3] at ht
  have ht : t = 3 ∨ t = 22 := by simpa using ht
  rcases ht with rfl | rfl
  · exact rd_int
  · exact rd_rows

set_option maxRecDepth 100000 in
theorem lifted (os : Os) (started : os.Started) (H : Type) (enc : TypeId × Value → H) (F : Stop.Interp) :
    ReturnsInHanded {} Tryd.checked os 3 .any (fun w args => ((Rows.OpenSpec.upto Rows.journalFullSpec).pre enc Tryd.prog Tryd.f3 Rows.journalFullUptoRow.domain false w args ∧ laidMetH Tryd.prog laidL w) ∧ sizedMet enc Tryd.prog Tryd.f3 (Rows.OpenSpec.upto Rows.journalFullSpec) false w args)
      (((Rows.OpenSpec.upto Rows.journalFullSpec).at F).post enc Tryd.prog Tryd.f3 false true false false) := by
  refine returnsInHanded_of_cond_and (C := Tryd.checked) (s := Rows.OpenSpec.upto Rows.journalFullSpec) (k := Rows.uptoSmall) rfl (X := fun w _ => laidMetH Tryd.prog laidL w) (fun _ _ _ hh h => h.of_heap hh) own_Tryd started (by kernel_rfl) Tryd.func3
    (witness_cond_at (enc := enc) (C := Tryd.checked) (s := Rows.OpenSpec.upto Rows.journalFullSpec) (k := Rows.uptoSmall) rfl (X := fun w _ => laidMetH Tryd.prog laidL w) false (laidWorld os) #[.int .i64 0, .slice none 0 0] 8 rfl (by kernel_rfl) (by kernel_rfl) (by kernel_rfl)
      (x := ([.lit (.int .i64 0), .nil], [], [])) (by kernel_rfl) rfl (by kernel_rfl) (by kernel_rfl) (laidWorld_met os _)) ?_
  intro W base args ds gs before hval hW hk hL
  refine contract H enc W args ds gs before (fun j t v h1 h2 => ?_) hW hk hL
  exact hval j t v h1 h2

theorem said : Rows.JournalFullUptoSaid :=
  OpenClaim.holds_of_cond 3 Tryd.f3 rfl rfl rfl rfl rfl rfl rfl ⟨rfl, rfl, rfl, rfl, rfl⟩ rfl rfl rfl rfl rfl (by kernel_rfl) Tryd.func3 (by kernel_rfl)
    (of_decide_eq_true (by kernel_rfl)) (by unfold Func.isWrapper; first | (rw [if_pos (by decide +kernel)]; kernel_rfl) | (rw [if_neg (by decide +kernel)]; exact ⟨rfl, rfl⟩))
    (fun os started H enc _ F => lifted os started H enc F)
/-- the tied card -/
theorem proved : Rows.JournalFullUptoCardSaid :=
  Claim7.holds_tied_plain_at .later [] [.handle, .data] true (true, "082fa937cd65839c1d586d7a5e6da8098801f278e6ad1ef5969548bd3813b5f8") true
    said (fun _ h => by cases h) (by kernel_rfl) (fun _ h => by cases h) journalFullUpto_row_tie rfl ⟨rfl, rfl⟩ (by kernel_rfl) rfl
    (fun f fn hf hfn => by
      obtain rfl : f = 3 := Option.some.inj ((show Tryd.prog.funcNamed "redraft/redraftlaw12.JournalFull" = some 3 by kernel_rfl).symm.trans hf) |>.symm
      obtain rfl : fn = Tryd.f3 := (Option.some.inj (Tryd.func3.symm.trans hfn)).symm
      exact ⟨by kernel_rfl, fun j t ht => by
        rw [Tryd.params3] at ht
        have h3 : t = 3 ∨ t = 22 := by
          rcases j with _ | _ | j
          · exact .inl (by simpa using ht.symm)
          · exact .inr (by simpa using ht.symm)
          · simp at ht
        rcases h3 with rfl | rfl
        · exact (show Tryd.prog.wantsStandIn 3 = false by kernel_rfl)
        · exact (show Tryd.prog.wantsStandIn 22 = false by kernel_rfl)⟩)
    (by kernel_rfl)
end Go.Proofs.YtaiaghfckhgnnaaDoor.journalFull
