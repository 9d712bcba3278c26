/- An argument's script of calls: what the reading of an Op gives. Conditions: the reading reads it and is of bulk at most 1048576. -/
import Derived.Test.YthnemjnepnbjpaaAr
import Derived.Test.YthnemjnepnbjpaaDd
namespace Go.Proofs
open Go.RowKit Go.Hp Go.Dm Go.Dr Go.ChangeShapes Go.WideShapes Go.Deep
set_option linter.unusedVariables false
set_option maxRecDepth 10000

theorem list5 {α : Type} {l : List α} (h : l.length = 5) : ∃ a b c d e, l = [a, b, c, d, e] := by
  match l, h with
  | [a, b, c, d, e], _ => exact ⟨a, b, c, d, e, rfl⟩

section
variable {H : Type} {enc : TypeId × Value → H} {w : World} {base : Nat} {held : Bool}

theorem one3 : Try.prog.cellsOf 3 = 1 := by kernel_rfl
theorem one9 : Try.prog.cellsOf 9 = 1 := by kernel_rfl
theorem one22 : Try.prog.cellsOf 22 = 1 := by kernel_rfl
theorem five56 : Try.prog.cellsOf 56 = 5 := by kernel_rfl

theorem op_of_trod {cs : List Value} {fuel : Nat} {x : DataW H × List MemPlace} (h : DataW.trod enc Try.prog w base (fun _ => true) held fuel 56 cs = some x) (hk : Ythnemjnepnbjpaa.Rows.uptoBulk x.1 ≤ 1048576) :
    ∃ (o : OpP) (bv : Value), cs = [.int .i64 o.kind, .string o.name, bv, .int .i64 o.n, .int .i64 o.m] ∧ o.Ok ∧ RB w bv o.b := by
  obtain ⟨xs, n, rfl, rfl, hcl, hxl, hf⟩ := DataW.trod_struct Try.underlying56 h
  rw [five56] at hcl
  obtain ⟨c0, c1, c2, c3, c4, rfl⟩ := list5 hcl
  obtain ⟨x0, x1, x2, x3, x4, rfl⟩ := list5 (l := xs) hxl
  have h0 : DataW.trod enc Try.prog w base (fun _ => true) held n 3 [c0] = some x0 := by have := hf 0 _ rfl; simpa [one3] using this
  have h1 : DataW.trod enc Try.prog w base (fun _ => true) held n 9 [c1] = some x1 := by have := hf 1 _ rfl; simpa [one9] using this
  have h2 : DataW.trod enc Try.prog w base (fun _ => true) held n 22 [c2] = some x2 := by have := hf 2 _ rfl; simpa [one22] using this
  have h3 : DataW.trod enc Try.prog w base (fun _ => true) held n 3 [c3] = some x3 := by have := hf 3 _ rfl; simpa [one3] using this
  have h4 : DataW.trod enc Try.prog w base (fun _ => true) held n 3 [c4] = some x4 := by have := hf 4 _ rfl; simpa [one3] using this
  obtain ⟨k, e0, rfl, w0⟩ := DataW.trod_int Try.underlying3 h0
  obtain ⟨s, e1, rfl, hs⟩ := DataW.trod_string Try.underlying9 h1
  obtain ⟨l, hl, hlb⟩ := rb_of_trod h2
  obtain ⟨a, e3, rfl, w3⟩ := DataW.trod_int Try.underlying3 h3
  obtain ⟨b, e4, rfl, w4⟩ := DataW.trod_int Try.underlying3 h4
  obtain rfl : c0 = .int .i64 k := by simpa using e0
  obtain rfl : c1 = .string s := by simpa using e1
  obtain rfl : c3 = .int .i64 a := by simpa using e3
  obtain rfl : c4 = .int .i64 b := by simpa using e4
  have b3 : -9223372036854775808 ≤ a ∧ a ≤ 9223372036854775807 := by simpa [Lit.wf, IntKind.min, IntKind.max, IntKind.signed, IntKind.bits] using w3
  have b4 : -9223372036854775808 ≤ b ∧ b ≤ 9223372036854775807 := by simpa [Lit.wf, IntKind.min, IntKind.max, IntKind.signed, IntKind.bits] using w4
  have hb : l.length ≤ 1048576 := by
    simp only [List.map_cons, List.map_nil, Ythnemjnepnbjpaa.Rows.uptoBulk, Ythnemjnepnbjpaa.Rows.uptoBulkAll] at hk
    omega
  exact ⟨⟨k, s, l, a, b⟩, c2, rfl, ⟨hs, by simp only; omega, b3.1, b3.2, b4.1, b4.2⟩, hl⟩

theorem exists_list {α : Type} {Q : Nat → α → Prop} : ∀ n, (∀ i, i < n → ∃ y, Q i y) → ∃ l : List α, l.length = n ∧ ∀ i y, l[i]? = some y → Q i y
  | 0, _ => ⟨[], rfl, fun i y h => by simp at h⟩
  | n + 1, h => by
    obtain ⟨l, hl, hq⟩ := exists_list n fun i hi => h i (by omega)
    obtain ⟨y, hy⟩ := h n (by omega)
    refine ⟨l ++ [y], by simp [hl], fun i z hz => ?_⟩
    by_cases hi : i < l.length
    · rw [List.getElem?_append_left hi] at hz; exact hq i z hz
    · rw [List.getElem?_append_right (by omega)] at hz
      have h0 : i - l.length = 0 := by
        have := (List.getElem?_eq_some_iff.1 hz).1
        simp at this; omega
      rw [h0] at hz
      have hi' : i = n := by omega
      subst hi'
      simp at hz; subst hz; exact hy

theorem flat_get {α β : Type} {f : α → List β} {k : Nat} (hk : ∀ x, (f x).length = k) : ∀ (l : List α) (j : Nat) (u : β), (l.flatMap f)[j]? = some u → ∃ i x r, l[i]? = some x ∧ (f x)[r]? = some u ∧ j = i * k + r ∧ r < k
  | [], j, u, h => by simp at h
  | x :: l, j, u, h => by
    rw [List.flatMap_cons] at h
    by_cases hj : j < k
    · rw [List.getElem?_append_left (by rw [hk]; exact hj)] at h
      exact ⟨0, x, j, rfl, h, by omega, hj⟩
    · rw [List.getElem?_append_right (by rw [hk]; omega), hk] at h
      obtain ⟨i, y, r, h1, h2, h3, h4⟩ := flat_get hk l (j - k) u h
      exact ⟨i + 1, y, r, by simpa using h1, h2, by rw [Nat.add_mul]; omega, h4⟩

def opC (y : OpP × Value) : List Value := [.int .i64 y.1.kind, .string y.1.name, y.2, .int .i64 y.1.n, .int .i64 y.1.m]
theorem len_opC : ∀ l : List (OpP × Value), (l.flatMap opC).length = l.length * 5
  | [] => rfl
  | y :: l => by rw [List.flatMap_cons, List.length_append, len_opC l, List.length_cons]; simp only [opC, List.length_cons, List.length_nil]; omega
/-- a script of calls lies at v -/
structure OpsAt (w : World) (v : Value) (l : List (OpP × Value)) : Prop where
  row : RC w 5 v l.length (l.flatMap opC)
  each : ∀ y ∈ l, y.1.Ok ∧ RB w y.2 y.1.b
  len : l.length ≤ 1048576

theorem ops_of_trod {v : Value} {fuel : Nat} {x : DataW H × List MemPlace} (h : DataW.trod enc Try.prog w base (fun _ => true) held fuel 48 [v] = some x) (hk : Ythnemjnepnbjpaa.Rows.uptoBulk x.1 ≤ 1048576) :
    ∃ l : List (OpP × Value), OpsAt w v l := by
  have hge : ∀ l : List (DataW H), l.length ≤ Ythnemjnepnbjpaa.Rows.uptoBulkAll l := by
    intro l
    induction l with
    | nil => simp [Ythnemjnepnbjpaa.Rows.uptoBulkAll]
    | cons x r ih =>
      have h1 : 1 ≤ Ythnemjnepnbjpaa.Rows.uptoBulk x := by cases x with
        | lit l => cases l <;> simp [Ythnemjnepnbjpaa.Rows.uptoBulk]
        | _ => simp [Ythnemjnepnbjpaa.Rows.uptoBulk]
      simp only [Ythnemjnepnbjpaa.Rows.uptoBulkAll, List.length_cons]; omega
  have hpart : ∀ (l : List (DataW H)) d, d ∈ l → Ythnemjnepnbjpaa.Rows.uptoBulk d ≤ Ythnemjnepnbjpaa.Rows.uptoBulkAll l := by
    intro l
    induction l with
    | nil => intro d hd; cases hd
    | cons x r ih =>
      intro d hd
      simp only [Ythnemjnepnbjpaa.Rows.uptoBulkAll]
      rcases List.mem_cons.1 hd with rfl | hd
      · omega
      · have := ih d hd; omega
  rcases open_slice Try.underlying48 h with ⟨hv, rfl⟩ | ⟨a, len, cap, m, n, D, Pl, hv, hb, hl, hm, hmm, rfl, hi⟩
  · obtain rfl : v = .slice none 0 0 := by simpa using hv
    exact ⟨[], rc_nil w 5, fun y hy => (by cases hy), by simp⟩
  · obtain rfl : v = .slice (some a) len cap := by simpa using hv
    simp only [if_true] at hmm
    subst hmm
    simp only [Ythnemjnepnbjpaa.Rows.uptoBulk] at hk
    have hlen : len ≤ 1048576 := by have := hge ((List.range len).map D); simp at this; omega
    obtain ⟨l, hll, hq⟩ := exists_list (Q := fun i (y : OpP × Value) => (∀ r u, (opC y)[r]? = some u → w.cell? ((a.add (i * 5)).add r) = some u) ∧ y.1.Ok ∧ RB w y.2 y.1.b) len (fun i hil => by
      obtain ⟨cs', hc, ht⟩ := hi i (by omega)
      rw [five56] at hc
      obtain ⟨-, hcl, hat⟩ := World.cells?_some hc
      have hbk : Ythnemjnepnbjpaa.Rows.uptoBulk (D i) ≤ 1048576 := by
        have := hpart ((List.range len).map D) (D i) (List.mem_map_of_mem (List.mem_range.2 hil))
        omega
      obtain ⟨o, bv, rfl, ok, hrb⟩ := op_of_trod ht hbk
      refine ⟨(o, bv), fun r u hu => ?_, ok, hrb⟩
      have hr : r < 5 := (List.getElem?_eq_some_iff.1 hu).1
      rw [hat r hr]; exact hu)
    refine ⟨l, ?_, fun y hy => ?_, by omega⟩
    · rw [hll]
      refine ⟨some a, _, rfl, hl, ?_, fun hcap => ?_⟩
      · rw [len_opC, hll]
      · obtain ⟨cs0, hc0, -⟩ := hi 0 (Nat.pos_of_ne_zero hcap)
        rw [five56] at hc0
        obtain ⟨-, hcl0, hat0⟩ := World.cells?_some hc0
        have h00 : w.cell? (a.add 0) = some (cs0[0]'(by omega)) := by
          have := hat0 0 (by omega)
          rw [List.getElem?_eq_getElem (by omega)] at this
          have e0 : (a.add (0 * 5)).add 0 = a.add 0 := by simp [Addr.add]
          rw [e0] at this; exact this
        obtain ⟨hs, arr, t, fz, hh⟩ := block_of_cell h00
        refine ⟨a.block, a.off, arr, t, fz, by cases a; simp only at hs; subst hs; rfl, hh, fun j u hu => ?_⟩
        obtain ⟨i, y, r, g1, g2, rfl, g4⟩ := flat_get (f := opC) (k := 5) (fun _ => rfl) l j u hu
        have := (hq i y g1).1 r u g2
        rw [add_none hs, add_none rfl, hcell_of hh] at this
        rw [← this, Nat.add_assoc]
    · obtain ⟨i, hi', rfl⟩ := List.getElem_of_mem hy
      exact (hq i _ (List.getElem?_eq_getElem hi')).2
end
end Go.Proofs
