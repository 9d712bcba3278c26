/- Files that are handed in: what their reading gives. Conditions: the reading reads them and is of bulk at most 1048576. -/
import Derived.Test.YthnemjnepnbjpaaLo
namespace Go.Proofs
open Go.RowKit Go.Hp Go.Dm Go.Dr Go.ChangeShapes Go.WideShapes Go.Deep
set_option linter.unusedVariables false
set_option maxRecDepth 10000
theorem list3 {α : Type} {l : List α} (h : l.length = 3) : ∃ a b c, l = [a, b, c] := by
  match l, h with
  | [a, b, c], _ => exact ⟨a, b, c, rfl⟩

section
variable {H : Type} {enc : TypeId × Value → H} {w : World} {base : Nat} {held : Bool}
theorem three41 : Try.prog.cellsOf 41 = 3 := by kernel_rfl
theorem file_of_trod {cs : List Value} {fuel : Nat} {x : DataW H × List MemPlace} (h : DataW.trod enc Try.prog w base (fun _ => true) held fuel 41 cs = some x) (hk : Ythnemjnepnbjpaa.Rows.uptoBulk x.1 ≤ 1048576) :
    ∃ x : LI, cs = x.enc ∧ x.Ok ∧ RB w x.sv x.bytes ∧ x.bytes.length ≤ 1048576 := by
  obtain ⟨xs, n, rfl, rfl, hcl, hxl, hf⟩ := DataW.trod_struct Try.underlying41 h
  rw [three41] at hcl
  obtain ⟨c0, c1, c2, rfl⟩ := list3 hcl
  obtain ⟨x0, x1, x2, rfl⟩ := list3 (l := xs) hxl
  have h1 : DataW.trod enc Try.prog w base (fun _ => true) held n 9 [c0] = some x0 := by have := hf 0 _ rfl; simpa [one9] using this
  have h2 : DataW.trod enc Try.prog w base (fun _ => true) held n 22 [c1] = some x1 := by have := hf 1 _ rfl; simpa [one22] using this
  have h3 : DataW.trod enc Try.prog w base (fun _ => true) held n 3 [c2] = some x2 := by have := hf 2 _ rfl; simpa [one3] using this
  obtain ⟨s, e1, rfl, hs⟩ := DataW.trod_string Try.underlying9 h1
  obtain ⟨l, hl, hlb⟩ := rb_of_trod h2
  obtain ⟨a, e3, rfl, w3⟩ := DataW.trod_int Try.underlying3 h3
  obtain rfl : c0 = .string s := by simpa using e1
  obtain rfl : c2 = .int .i64 a := by simpa using e3
  have b3 : -9223372036854775808 ≤ a ∧ a ≤ 9223372036854775807 := by simpa [Lit.wf, IntKind.min, IntKind.max, IntKind.signed, IntKind.bits] using w3
  have hb : l.length ≤ 1048576 := by
    simp only [List.map_cons, List.map_nil, Ythnemjnepnbjpaa.Rows.uptoBulk, Ythnemjnepnbjpaa.Rows.uptoBulkAll] at hk
    omega
  obtain ⟨p, c, rfl, hc, -⟩ := id hl
  exact ⟨⟨s, p, c, l, a⟩, rfl, ⟨hs, Nat.le_trans hb (by decide), hc, b3.1, b3.2⟩, hl, hb⟩
theorem total_map_le : ∀ (l : List LI), (∀ x ∈ l, x.bytes.length ≤ 1048576) → total (l.map fun x => x.fi.fl) ≤ l.length * 1048576
  | [], _ => by simp [total]
  | x :: l, h => by
    have h1 := total_map_le l fun y hy => h y (by simp [hy])
    have h2 := h x (by simp)
    have e : total ((x :: l).map fun x => x.fi.fl) = x.bytes.length + total (l.map fun x => x.fi.fl) := by simp [total, FI.fl, LI.fi]
    rw [e, List.length_cons]; omega
theorem len_encLI : ∀ l : List LI, (l.flatMap LI.enc).length = l.length * 3
  | [] => rfl
  | y :: l => by rw [List.flatMap_cons, List.length_append, len_encLI l, List.length_cons, len_li]; omega
theorem files_of_trod {v : Value} {fuel : Nat} {x : DataW H × List MemPlace} (h : DataW.trod enc Try.prog w base (fun _ => true) held fuel 38 [v] = some x) (hk : Ythnemjnepnbjpaa.Rows.uptoBulk x.1 ≤ 1048576) :
    ∃ l : List LI, IFiles w v l := by
  have hge : ∀ l : List (DataW H), l.length ≤ Ythnemjnepnbjpaa.Rows.uptoBulkAll l := by
    intro l
    induction l with
    | nil => simp [Ythnemjnepnbjpaa.Rows.uptoBulkAll]
    | cons x r ih =>
      have h1 : 1 ≤ Ythnemjnepnbjpaa.Rows.uptoBulk x := by cases x with
        | lit l => cases l <;> simp [Ythnemjnepnbjpaa.Rows.uptoBulk]
        | _ => simp [Ythnemjnepnbjpaa.Rows.uptoBulk]
      simp only [Ythnemjnepnbjpaa.Rows.uptoBulkAll, List.length_cons]; omega
  have hpart : ∀ (l : List (DataW H)) d, d ∈ l → Ythnemjnepnbjpaa.Rows.uptoBulk d ≤ Ythnemjnepnbjpaa.Rows.uptoBulkAll l := by
    intro l
    induction l with
    | nil => intro d hd; cases hd
    | cons x r ih =>
      intro d hd
      simp only [Ythnemjnepnbjpaa.Rows.uptoBulkAll]
      rcases List.mem_cons.1 hd with rfl | hd
      · omega
      · have := ih d hd; omega
  rcases open_slice Try.underlying38 h with ⟨hv, rfl⟩ | ⟨a, len, cap, m, n, D, Pl, hv, hb, hl, hm, hmm, rfl, hi⟩
  · obtain rfl : v = .slice none 0 0 := by simpa using hv
    exact ⟨[], rc_nil w 3, fun y hy => (by cases hy), by simp, by simp [total]⟩
  · obtain rfl : v = .slice (some a) len cap := by simpa using hv
    simp only [if_true] at hmm
    subst hmm
    simp only [Ythnemjnepnbjpaa.Rows.uptoBulk] at hk
    have hlen : len ≤ 1048576 := by have := hge ((List.range len).map D); simp at this; omega
    obtain ⟨l, hll, hq⟩ := exists_list (Q := fun i (y : LI) => (∀ r u, (LI.enc y)[r]? = some u → w.cell? ((a.add (i * 3)).add r) = some u) ∧ y.Ok ∧ RB w y.sv y.bytes ∧ y.bytes.length ≤ 1048576) len (fun i hil => by
      obtain ⟨cs', hc, ht⟩ := hi i (by omega)
      rw [three41] at hc
      obtain ⟨-, hcl, hat⟩ := World.cells?_some hc
      have hbk : Ythnemjnepnbjpaa.Rows.uptoBulk (D i) ≤ 1048576 := by
        have := hpart ((List.range len).map D) (D i) (List.mem_map_of_mem (List.mem_range.2 hil))
        omega
      obtain ⟨o, rfl, ok, hrb, hb1⟩ := file_of_trod ht hbk
      refine ⟨o, fun r u hu => ?_, ok, hrb, hb1⟩
      have hr : r < 3 := (List.getElem?_eq_some_iff.1 hu).1
      rw [hat r hr]; exact hu)
    refine ⟨l, ?_, fun y hy => ?_, by omega, Nat.le_trans (total_map_le l fun y hy => ?_) (by omega)⟩
    · rw [hll]
      refine ⟨some a, _, rfl, hl, ?_, fun hcap => ?_⟩
      · rw [len_encLI, hll]
      · obtain ⟨cs0, hc0, -⟩ := hi 0 (Nat.pos_of_ne_zero hcap)
        rw [three41] at hc0
        obtain ⟨-, hcl0, hat0⟩ := World.cells?_some hc0
        have h00 : w.cell? (a.add 0) = some (cs0[0]'(by omega)) := by
          have := hat0 0 (by omega)
          rw [List.getElem?_eq_getElem (by omega)] at this
          have e0 : (a.add (0 * 3)).add 0 = a.add 0 := by simp [Addr.add]
          rw [e0] at this; exact this
        obtain ⟨hs, arr, t, fz, hh⟩ := block_of_cell h00
        refine ⟨a.block, a.off, arr, t, fz, by cases a; simp only at hs; subst hs; rfl, hh, fun j u hu => ?_⟩
        obtain ⟨i, y, r, g1, g2, rfl, g4⟩ := flat_get (f := LI.enc) (k := 3) (fun _ => rfl) l j u hu
        have := (hq i y g1).1 r u g2
        rw [add_none hs, add_none rfl, hcell_of hh] at this
        rw [← this, Nat.add_assoc]
    · obtain ⟨i, hi', rfl⟩ := List.getElem_of_mem hy
      exact ⟨(hq i _ (List.getElem?_eq_getElem hi')).2.1, (hq i _ (List.getElem?_eq_getElem hi')).2.2.1⟩
    · obtain ⟨i, hi', rfl⟩ := List.getElem_of_mem hy
      exact (hq i _ (List.getElem?_eq_getElem hi')).2.2.2
end
end Go.Proofs
