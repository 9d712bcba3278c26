/- A book as it lies: enters, in one contract. Conditions: the book lies as BkRep says; the call's bytes are read and lie apart; at most 2^40 pages and bytes. -/
import Derived.Test.YthnemjnepnbjpaaEo
namespace Go.Proofs
open Go.RowKit Go.Hp Go.Dm Go.Dr
set_option linter.unusedVariables false
set_option maxRecDepth 10000

section
variable {w w' : World} {b : Nat} {B : List Fl} {F : List Nat} {am : Int} {dn : Bool} {p1v p2v : Value}

/-- enters, in one contract -/
theorem enters_any {o : OpP} {a : Ans} {bv : Value} (ok : EntersOk B o a) (hN : B.length + 1 ≤ 1099511627776) (hn : (B.map (·.name)).Nodup) (hT : total B ≤ 1099511627776) (hbl : o.kind = 1 → a.n ≤ 70368744177664) (h : BkRep w b B F)
    (hrb : RB w bv o.b) (hap : ∀ k, sblk bv = some k → k ∉ F) (hbv : ∃ p n c, p1v = Value.slice p n c) (hfv : ∃ p n c, p2v = Value.slice p n c) :
    Calls Try.prog 33 #[.pointer (some ⟨b, 0, none⟩), o.val bv, ansV (a.e : Int) (a.n : Int) am p1v p2v dn] w fun e w' => e = .returned (.bool true) ∧ BkLeft w b F (entered B o a) w' := by
  obtain ⟨v, l, h, rfl, rfl⟩ := h
  obtain ⟨p, c, rfl, -⟩ := id hrb
  obtain ⟨p1, n1, c1', rfl⟩ := hbv
  obtain ⟨p2, n2, c2', rfl⟩ := hfv
  obtain ⟨k, nm, bs, q, m⟩ := o
  have hn' : (l.map (·.name)).Nodup := by simpa [List.map_map, Function.comp_def, LF.fl] using hn
  rw [List.length_map] at hN
  have hN' : l.length ≤ 1099511627776 := by omega
  have find : ∀ {f : Fl}, Dm.get (l.map LF.fl) nm = some f → ∃ (i : Nat) (x : LF), l[i]? = some x ∧ x.name = nm ∧ x.fl = f ∧ x.bytes.length ≤ 1099511627776 := fun {f} hg => by
    obtain ⟨h1, h2⟩ := get_some hg
    obtain ⟨x, hx, rfl⟩ := List.mem_map.1 h1
    obtain ⟨i, hi⟩ := List.getElem?_of_mem hx
    exact ⟨i, x, hi, h2, rfl, Nat.le_trans (get_le hg) hT⟩
  unfold entered OpP.val opV ansV
  have okp := ok.put
  have okt := ok.there
  simp only at okp okt hrb hbl ⊢
  by_cases h1 : k = 1
  · subst h1
    rw [if_pos rfl]
    exact enters_put hN h hn' hT (hbl rfl) hrb hap (okp rfl).1 (okp rfl).2
  rw [if_neg h1]
  by_cases h2 : k = 2
  · subst h2
    rw [if_pos rfl]
    obtain ⟨f, hf, -, -⟩ := okt (.inl rfl)
    obtain ⟨i, x, hx, hxn, rfl, hL⟩ := find hf
    exact enters_sync hN' h hn' hx hxn hL
  rw [if_neg h2]
  by_cases h3 : k = 3
  · subst h3
    rw [if_pos rfl]
    obtain ⟨f, hf, hb, -⟩ := okt (.inr (.inl rfl))
    obtain ⟨i, x, hx, hxn, rfl, hL⟩ := find hf
    obtain ⟨hb1, hb2⟩ := hb rfl
    obtain ⟨q, rfl⟩ := Int.eq_ofNat_of_zero_le hb1
    have hb2 : (q : Int) ≤ (x.bytes.length : Int) := hb2
    exact enters_cut hN' h hn' hx hxn hL (by omega)
  rw [if_neg h3]
  by_cases h4 : k = 4
  · subst h4
    rw [if_pos rfl]
    obtain ⟨f, hf, -, -⟩ := okt (.inr (.inr (.inl rfl)))
    obtain ⟨i, x, hx, hxn, rfl, hL⟩ := find hf
    exact enters_gone hN' h hn' hx hxn
  rw [if_neg h4]
  by_cases h11 : k = 11
  · subst h11
    rw [if_pos rfl]
    obtain ⟨f, hf, -, hb⟩ := okt (.inr (.inr (.inr rfl)))
    obtain ⟨i, x, hx, hxn, rfl, hL⟩ := find hf
    obtain ⟨hb1, hb2⟩ := hb rfl
    obtain ⟨q, rfl⟩ := Int.eq_ofNat_of_zero_le hb1
    have hb2 : (q : Int) < (x.bytes.length : Int) := hb2
    exact enters_turn hN' h hn' hx hxn hL (by omega)
  rw [if_neg h11]
  exact enters_none ⟨h1, h2, h3, h4, h11⟩ hN' h
end
end Go.Proofs
