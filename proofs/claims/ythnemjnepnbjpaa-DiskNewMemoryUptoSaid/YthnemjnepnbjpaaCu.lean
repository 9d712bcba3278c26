/- A cut that is handed in, opened. Conditions: the reading reads it and is of bulk at most 1048576. -/
import Derived.Test.YthnemjnepnbjpaaQ0
namespace Go.Proofs
open Go.RowKit Go.Hp Go.ChangeShapes Go.WideShapes Go.Deep Go.Joins
set_option linter.unusedVariables false
set_option maxRecDepth 10000
section
variable {H : Type} {enc : TypeId × Value → H} {w : World}
theorem rd_cut : Try.prog.readableRec 24 = true ∧ 24 < Try.prog.types.size := ⟨by kernel_rfl, of_decide_eq_true (by kernel_rfl)⟩
theorem one4 : Try.prog.cellsOf 4 = 1 := by kernel_rfl
theorem five24 : Try.prog.cellsOf 24 = 5 := by kernel_rfl
theorem open_cut {v : Value} {d : DataW H} {p : List MemPlace} (hv : Value.okWide Try.prog w .any 0 24 v) (h : DataW.Trod enc Try.prog w 0 (fun _ => true) true 24 v d p) (hk : Ythnemjnepnbjpaa.Rows.uptoBulk d ≤ 1048576) :
    ∃ (X Y Z : List UInt8) (px py pz : Option Addr) (cx cy cz : Nat) (kk : Int) (ar : Bool), v = .agg #[.slice px X.length cx, .slice py Y.length cy, .slice pz Z.length cz, .int .i64 kk, .bool ar] ∧
      RB w (.slice px X.length cx) X ∧ RB w (.slice py Y.length cy) Y ∧ RB w (.slice pz Z.length cz) Z ∧ X.length ≤ 1048576 ∧ Y.length ≤ 1048576 ∧ Z.length ≤ 1048576 ∧ -9223372036854775808 ≤ kk ∧ kk ≤ 9223372036854775807 := by
  obtain ⟨cs, rfl, hsz⟩ := okWide_struct Try.underlying24 hv
  obtain ⟨fuel, hf0⟩ := h
  have hf1 : DataW.trod enc Try.prog w 0 (fun _ => true) true fuel 24 cs.toList = some (d, p) := hf0
  obtain ⟨xs, n, -, hx, hcl, hxl, hf⟩ := DataW.trod_struct Try.underlying24 hf1
  rw [five24] at hcl
  obtain ⟨c0, c1, c2, c3, c4, hcs⟩ := list5 hcl
  obtain ⟨x0, x1, x2, x3, x4, rfl⟩ := list5 (l := xs) hxl
  rw [hcs] at hf
  have h0 : DataW.trod enc Try.prog w 0 (fun _ => true) true n 22 [c0] = some x0 := by have := hf 0 _ rfl; simpa [one22] using this
  have h1 : DataW.trod enc Try.prog w 0 (fun _ => true) true n 22 [c1] = some x1 := by have := hf 1 _ rfl; simpa [one22] using this
  have h2 : DataW.trod enc Try.prog w 0 (fun _ => true) true n 22 [c2] = some x2 := by have := hf 2 _ rfl; simpa [one22] using this
  have h3 : DataW.trod enc Try.prog w 0 (fun _ => true) true n 3 [c3] = some x3 := by have := hf 3 _ rfl; simpa [one22, one3] using this
  have h4 : DataW.trod enc Try.prog w 0 (fun _ => true) true n 4 [c4] = some x4 := by have := hf 4 _ rfl; simpa [one22, one3, one4] using this
  obtain ⟨X, hX, hXb⟩ := rb_of_trod h0
  obtain ⟨Y, hY, hYb⟩ := rb_of_trod h1
  obtain ⟨Z, hZ, hZb⟩ := rb_of_trod h2
  obtain ⟨a, e3, rfl, w3⟩ := DataW.trod_int Try.underlying3 h3
  obtain ⟨ar, e4, rfl⟩ := DataW.trod_bool Try.underlying4 h4
  obtain rfl : c3 = .int .i64 a := by simpa using e3
  obtain rfl : c4 = .bool ar := by simpa using e4
  have b3 : -9223372036854775808 ≤ a ∧ a ≤ 9223372036854775807 := by simpa [Lit.wf, IntKind.min, IntKind.max, IntKind.signed, IntKind.bits] using w3
  have hd : d = .agg ([x0, x1, x2, (.lit (.int .i64 a), []), (.lit (.bool ar), [])].map fun x => x.1) := by have := congrArg Prod.fst hx; simpa using this
  subst hd
  simp only [List.map_cons, List.map_nil, Ythnemjnepnbjpaa.Rows.uptoBulk, Ythnemjnepnbjpaa.Rows.uptoBulkAll] at hk
  obtain ⟨px, cx, rfl, -⟩ := id hX
  obtain ⟨py, cy, rfl, -⟩ := id hY
  obtain ⟨pz, cz, rfl, -⟩ := id hZ
  refine ⟨X, Y, Z, px, py, pz, cx, cy, cz, a, ar, ?_, hX, hY, hZ, by omega, by omega, by omega, b3.1, b3.2⟩
  congr 1
  exact Array.toList_inj.1 hcs
end
end Go.Proofs
