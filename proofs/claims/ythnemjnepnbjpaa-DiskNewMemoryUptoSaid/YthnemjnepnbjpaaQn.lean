/- DiskNewMemory, proved: for every cut whose values and letters are together at most 1048576 it answers true, and its argument reads as it did. Conditions: those of the statement. -/
import Derived.Test.YthnemjnepnbjpaaNr
import Derived.Test.YthnemjnepnbjpaaCu
namespace Go.Proofs.Ythnemjnepnbjpaa.diskNewMemory
open Go.ChangeShapes Go.WideShapes Go.ChangeAt Go.RowKit Go.Hp
set_option linter.unusedVariables false
set_option maxRecDepth 10000

theorem contract (H : Type) (enc : TypeId × Value → H) (W : World) (args : Array Value) (ds gs : List (DataW H)) (before : List MemPlace)
    (hval : ∀ (j : Nat) t v, Try.f4.params[j]? = some t → args[j]? = some v → Value.okWide Try.prog W .any 0 t v)
    (hW : DataW.Whole enc Try.prog Try.f4.params.toList Rows.diskNewMemorySpec.vars false W args.toList ds gs before) (hk : Rows.uptoSmall H (ds ++ gs) = true) :
    Calls Try.prog 4 args W fun e W' => ∃ v, e = .returned v ∧ Rows.diskNewMemorySpec.post enc Try.prog Try.f4 false true false false W args v W' := by
  have hW' := hW
  obtain ⟨p, q, hA0, hV, rfl, hfz, hnd⟩ := hW
  have hA : DataW.TrodAll enc Try.prog W 0 (fun _ => true) true Try.f4.params.toList args.toList ds p := hA0
  rw [Try.params4] at hA hval
  obtain ⟨v0, vs0, d0, ds0, p0, q0, hargs, rfl, rfl, h0, r0⟩ := trodAll_cons hA
  obtain ⟨rfl, rfl, rfl⟩ := trodAll_nil r0
  obtain rfl : args = #[v0] := by cases args; simp_all
  obtain ⟨rfl, rfl⟩ := trodVars_none hV
  have hkb := bulk_bound hk
  obtain ⟨X0, Y0, Z0, px0, py0, pz0, cx0, cy0, cz0, kk0, ar0, rfl, hX0, hY0, hZ0, lX0, lY0, lZ0, ka0, kb0⟩ := open_cut (hval 0 24 v0 rfl rfl) h0 (Nat.le_trans (bulk_part (by simp)) hkb)
  have hwalk : Calls Try.prog 4 #[.agg #[.slice px0 X0.length cx0, .slice py0 Y0.length cy0, .slice pz0 Z0.length cz0, .int .i64 kk0, .bool ar0]] W fun e w' => e = .returned (.bool true) ∧ Chg (fun _ => False) W w' := by
    exact newmem_walk kk0 ar0 hX0 hY0 hZ0 lX0 lY0 lZ0
  refine hwalk.mono fun e W' ⟨he, hc⟩ => ⟨_, he, law_post hW' rfl ⟨rfl, rfl, rfl⟩ (by kernel_rfl) Try.underlying4 laid_Try (fun t ht => ?_) hc⟩
  rw [Try.params4] at ht
  obtain rfl : t = 24 := by simpa using ht
  exact rd_cut

set_option maxRecDepth 100000 in
theorem lifted (os : Os) (started : os.Started) (H : Type) (enc : TypeId × Value → H) (F : Stop.Interp) :
    ReturnsInHanded {} Try.checked os 4 .any ((Rows.OpenSpec.upto Rows.diskNewMemorySpec).pre6 enc Try.prog Try.f4 Rows.diskNewMemoryUptoRow.domain false) (((Rows.OpenSpec.upto Rows.diskNewMemorySpec).at F).post enc Try.prog Try.f4 false true false false) := by
  refine returnsInHanded_of_cond (C := Try.checked) (s := Rows.OpenSpec.upto Rows.diskNewMemorySpec) (k := Rows.uptoSmall) rfl own_Try started (by kernel_rfl) Try.func4
    (OpenSpec.witness (enc := enc) (C := Try.checked) (s := Rows.OpenSpec.upto Rows.diskNewMemorySpec) (k := Rows.uptoSmall) rfl false ⟨#[], #[.agg #[.slice none 0 0, .slice none 0 0, .slice none 0 0, .int .i64 0, .bool false]], []⟩ 8 (by kernel_rfl) (by kernel_rfl) (by kernel_rfl)
      (x := ([.agg [.nil, .nil, .nil, .lit (.int .i64 0), .lit (.bool false)]], [], [])) (by kernel_rfl) rfl (by kernel_rfl)) ?_
  intro W base args ds gs before hval hW _ hk _
  refine contract H enc W args ds gs before (fun j t v h1 h2 => ?_) hW hk
  exact hval j t v h1 h2

theorem proved : Rows.DiskNewMemoryUptoSaid :=
  OpenClaim.holds_of_cond 4 Try.f4 rfl rfl rfl rfl rfl rfl rfl ⟨rfl, rfl, rfl, rfl, rfl⟩ rfl rfl rfl rfl rfl (by kernel_rfl) Try.func4 (by kernel_rfl)
    (of_decide_eq_true (by kernel_rfl)) (by unfold Func.isWrapper; first | (rw [if_pos (by decide +kernel)]; kernel_rfl) | (rw [if_neg (by decide +kernel)]; exact ⟨rfl, rfl⟩))
    (fun os started H enc _ F => lifted os started H enc F)
end Go.Proofs.Ythnemjnepnbjpaa.diskNewMemory
