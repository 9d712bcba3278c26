/- Records that are handed in: what the reading of a [][]byte gives. Conditions: the reading reads it and is of bulk at most 1048576. -/
import Derived.Test.YtaiaghfckhgnnaaDoorAr
import Derived.Test.YtaiaghfckhgnnaaDoorJd
namespace Go.Proofs
open Go.RowKit Go.Hp Go.Dm Go.Dr Go.ChangeShapes Go.WideShapes Go.Deep
set_option linter.unusedVariables false
set_option maxRecDepth 10000
section
variable {H : Type} {enc : TypeId × Value → H} {w : World} {base : Nat} {held : Bool}
theorem one33 : Tryd.prog.cellsOf 33 = 1 := by kernel_rfl
theorem exists_list {α : Type} {Q : Nat → α → Prop} : ∀ n, (∀ i, i < n → ∃ y, Q i y) → ∃ l : List α, l.length = n ∧ ∀ i y, l[i]? = some y → Q i y
  | 0, _ => ⟨[], rfl, fun i y h => by simp at h⟩
  | n + 1, h => by
    obtain ⟨l, hl, hq⟩ := exists_list n fun i hi => h i (by omega)
    obtain ⟨y, hy⟩ := h n (by omega)
    refine ⟨l ++ [y], by simp [hl], fun i z hz => ?_⟩
    by_cases hi : i < l.length
    · rw [List.getElem?_append_left hi] at hz; exact hq i z hz
    · rw [List.getElem?_append_right (by omega)] at hz
      have h0 : i - l.length = 0 := by
        have := (List.getElem?_eq_some_iff.1 hz).1
        simp at this; omega
      rw [h0] at hz
      have hi' : i = n := by omega
      subst hi'
      simp at hz; subst hz; exact hy

theorem rows_of_trod {v : Value} {fuel : Nat} {x : DataW H × List MemPlace} (h : DataW.trod enc Tryd.prog w base (fun _ => true) held fuel 22 [v] = some x) (hk : YtaiaghfckhgnnaaDoor.Rows.uptoBulk x.1 ≤ 1048576) :
    ∃ ls : List LF, RRows w v ls ∧ ls.length ≤ 1048576 ∧ ∀ y ∈ ls, y.bytes.length ≤ 1048576 := by
  have hge : ∀ l : List (DataW H), l.length ≤ YtaiaghfckhgnnaaDoor.Rows.uptoBulkAll l := by
    intro l
    induction l with
    | nil => simp [YtaiaghfckhgnnaaDoor.Rows.uptoBulkAll]
    | cons x r ih =>
      have h1 : 1 ≤ YtaiaghfckhgnnaaDoor.Rows.uptoBulk x := by cases x with
        | lit l => cases l <;> simp [YtaiaghfckhgnnaaDoor.Rows.uptoBulk]
        | _ => simp [YtaiaghfckhgnnaaDoor.Rows.uptoBulk]
      simp only [YtaiaghfckhgnnaaDoor.Rows.uptoBulkAll, List.length_cons]; omega
  have hpart : ∀ (l : List (DataW H)) d, d ∈ l → YtaiaghfckhgnnaaDoor.Rows.uptoBulk d ≤ YtaiaghfckhgnnaaDoor.Rows.uptoBulkAll l := by
    intro l
    induction l with
    | nil => intro d hd; cases hd
    | cons x r ih =>
      intro d hd
      simp only [YtaiaghfckhgnnaaDoor.Rows.uptoBulkAll]
      rcases List.mem_cons.1 hd with rfl | hd
      · omega
      · have := ih d hd; omega
  rcases open_slice Tryd.underlying22 h with ⟨hv, rfl⟩ | ⟨a, len, cap, m, n, D, Pl, hv, hb, hl, hm, hmm, rfl, hi⟩
  · obtain rfl : v = .slice none 0 0 := by simpa using hv
    exact ⟨[], RRows.nil w, by simp, by simp⟩
  · obtain rfl : v = .slice (some a) len cap := by simpa using hv
    simp only [if_true] at hmm
    subst hmm
    simp only [YtaiaghfckhgnnaaDoor.Rows.uptoBulk] at hk
    have hlen : len ≤ 1048576 := by have := hge ((List.range len).map D); simp at this; omega
    obtain ⟨l, hll, hq⟩ := exists_list (Q := fun i (y : LF) => w.cell? ((a.add (i * 1)).add 0) = some y.sv ∧ RB w y.sv y.bytes ∧ y.bytes.length ≤ 1048576) len (fun i hil => by
      obtain ⟨cs', hc, ht⟩ := hi i (by omega)
      rw [one33] at hc
      obtain ⟨-, hcl, hat⟩ := World.cells?_some hc
      have hbk : YtaiaghfckhgnnaaDoor.Rows.uptoBulk (D i) ≤ 1048576 := by
        have := hpart ((List.range len).map D) (D i) (List.mem_map_of_mem (List.mem_range.2 hil))
        omega
      obtain ⟨u, hu⟩ : ∃ u, cs' = [u] := by
        match cs', hcl with
        | [u], _ => exact ⟨u, rfl⟩
      subst hu
      obtain ⟨bs, hrb, hbl⟩ := rb_of_trod ht
      obtain ⟨pu, cu, rfl, -⟩ := id hrb
      refine ⟨⟨⟨#[]⟩, pu, cu, bs, 0⟩, ?_, hrb, ?_⟩
      · have := hat 0 (by omega)
        simpa [LF.sv] using this
      · have : bs.length + 1 ≤ 1048576 := Nat.le_trans hbl hbk
        show bs.length ≤ _
        omega)
    refine ⟨l, ⟨?_, fun y hy => ?_⟩, by omega, fun y hy => ?_⟩
    · rw [hll]
      refine ⟨some a, _, rfl, hl, by simp [hll], fun hcap => ?_⟩
      obtain ⟨cs0, hc0, -⟩ := hi 0 (Nat.pos_of_ne_zero hcap)
      rw [one33] at hc0
      obtain ⟨-, hcl0, hat0⟩ := World.cells?_some hc0
      have h00 : w.cell? (a.add 0) = some (cs0[0]'(by omega)) := by
        have := hat0 0 (by omega)
        rw [List.getElem?_eq_getElem (by omega)] at this
        have e0 : (a.add (0 * 1)).add 0 = a.add 0 := by simp [Addr.add]
        rw [e0] at this; exact this
      obtain ⟨hs, arr, t, fz, hh⟩ := block_of_cell h00
      refine ⟨a.block, a.off, arr, t, fz, by cases a; simp only at hs; subst hs; rfl, hh, fun j u hu => ?_⟩
      rw [List.getElem?_map, Option.map_eq_some_iff] at hu
      obtain ⟨y, g1, rfl⟩ := hu
      have := (hq j y g1).1
      rw [add_none hs, add_none rfl, hcell_of hh] at this
      simpa using this
    · obtain ⟨i, hi', rfl⟩ := List.getElem_of_mem hy
      exact (hq i _ (List.getElem?_eq_getElem hi')).2.1
    · obtain ⟨i, hi', rfl⟩ := List.getElem_of_mem hy
      exact (hq i _ (List.getElem?_eq_getElem hi')).2.2
end
end Go.Proofs
