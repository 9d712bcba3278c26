/- A book as it lies: page, total, gone, wrote. Conditions: the book lies as BkRep says; at most 2^40 pages and bytes. -/
import Derived.Test.YthnemjnepnbjpaaKb
import Derived.Test.YthnemjnepnbjpaaMy
import Derived.Test.YthnemjnepnbjpaaPl
namespace Go.Proofs
open Go.RowKit Go.Hp Go.Dm Go.Dr
set_option linter.unusedVariables false
set_option maxRecDepth 10000

/-! ### lists set at one place -/
theorem set_split {α : Type} {l : List α} {i : Nat} {x : α} (h : l[i]? = some x) (y : α) : ∃ A B, l = A ++ x :: B ∧ l.set i y = A ++ y :: B ∧ A.length = i := by
  obtain ⟨hi, rfl⟩ := List.getElem?_eq_some_iff.1 h
  refine ⟨l.take i, l.drop (i + 1), by rw [List.getElem_cons_drop, List.take_append_drop], ?_, by simp; omega⟩
  rw [List.set_eq_take_append_cons_drop, if_pos hi]
theorem flat_len {α β : Type} {f : α → List β} {k : Nat} (hk : ∀ x, (f x).length = k) (l : List α) : (l.flatMap f).length = l.length * k := by
  induction l with
  | nil => simp
  | cons x l ih => rw [List.flatMap_cons, List.length_append, ih, hk, List.length_cons, Nat.succ_mul]; omega
theorem flat_set {α β : Type} {f : α → List β} {k : Nat} (hk : ∀ x, (f x).length = k) {l : List α} {i r : Nat} {x y : α} {u : β} (hx : l[i]? = some x) (hr : r < k) (hy : f y = (f x).set r u) :
    (l.set i y).flatMap f = (l.flatMap f).set (i * k + r) u := by
  obtain ⟨A, B, rfl, h2, rfl⟩ := set_split hx y
  rw [h2, List.flatMap_append, List.flatMap_append, List.flatMap_cons, List.flatMap_cons, hy]
  rw [List.set_append_right _ _ (by rw [flat_len hk]; omega), flat_len hk, List.set_append_left _ _ (by rw [hk]; omega), Nat.add_sub_cancel_left]
theorem OC_set {w : World} {k n m c j : Nat} {E : TypeId} {bb : Nat} {cs : List Value} (h : OC w k E (.slice (some ⟨bb, 0, none⟩) m c) n cs) (hj : j < cs.length) (u : Value) :
    OC (w.setCell ⟨bb, j, none⟩ u) k E (.slice (some ⟨bb, 0, none⟩) m c) n (cs.set j u) := by
  obtain ⟨p, c', he, h1, h2, h3, h4⟩ := h
  cases he
  have hc : c ≠ 0 := fun e => by
    have : n = 0 := by omega
    subst this
    rw [h3] at hj; omega
  obtain ⟨b, arr, hp, hh, hs, ht⟩ := h4 hc
  cases hp
  refine ⟨_, c, rfl, h1, h2, by simpa using h3, fun hc => ⟨bb, arr.setIfInBounds j u, rfl, hset_same hh j u, by simpa using hs, ?_⟩⟩
  have e : (arr.setIfInBounds j u).toList = arr.toList.set j u := by simp
  rw [e, List.take_set, ht]
theorem map_set_upd {l : List LF} {i : Nat} {x y : LF} {nm : ByteArray} {g : Fl → Fl} (hn : (l.map (·.name)).Nodup) (hx : l[i]? = some x) (hxn : x.name = nm) (hy : y.fl = g x.fl) :
    (l.set i y).map LF.fl = upd nm g (l.map LF.fl) := by
  obtain ⟨A, B, rfl, h2, -⟩ := set_split hx y
  rw [h2]
  simp only [List.map_append, List.map_cons, List.nodup_append, List.nodup_cons, List.mem_cons, List.mem_map] at hn
  obtain ⟨-, ⟨hxB, -⟩, hd⟩ := hn
  have e : ∀ L : List LF, (∀ z ∈ L, z.name ≠ nm) → upd nm g (L.map LF.fl) = L.map LF.fl := fun L hL => by
    unfold upd
    rw [List.map_map]
    exact List.map_congr_left fun z hz => if_neg (hL z hz)
  have eu : ∀ P Q : List Fl, upd nm g (P ++ Q) = upd nm g P ++ upd nm g Q := fun P Q => by simp [upd]
  have ec : ∀ (f : Fl) (Q : List Fl), upd nm g (f :: Q) = (if f.name = nm then g f else f) :: upd nm g Q := fun f Q => rfl
  simp only [List.map_append, List.map_cons]
  rw [eu, ec, e A (fun z hz ez => hd z.name ⟨z, hz, rfl⟩ x.name (.inl rfl) (ez.trans hxn.symm)), e B (fun z hz ez => hxB ⟨z, hz, ez.trans hxn.symm⟩), if_pos (show x.fl.name = nm from hxn), hy]

theorem toList_ne {a b : ByteArray} (h : a ≠ b) : (a.toList == b.toList) = false := by
  rw [ByteArray.toList_eq, ByteArray.toList_eq]
  cases hb : a.data.toList == b.data.toList with
  | false => rfl
  | true => exact absurd (bytes_ext (eq_of_beq hb)) h

/-! ### how a book lies -/
structure BkRaw (w : World) (b : Nat) (v : Value) (l : List LF) : Prop where
  head : w.heap[b]? = some (.cells #[v] 54 (0, 0))
  sl : OC w 3 92 v l.length (l.flatMap LF.enc)
  each : ∀ x ∈ l, OB w 5 x.sv x.bytes
  nodup : (b :: lblks v l).Nodup
def BkRep (w : World) (b : Nat) (B : List Fl) (F : List Nat) : Prop := ∃ v l, BkRaw w b v l ∧ l.map LF.fl = B ∧ F = b :: lblks v l

section
variable {w w' : World} {b : Nat} {v : Value} {l : List LF} {B : List Fl} {F : List Nat} {nm : ByteArray}

theorem BkRaw.lt (h : BkRaw w b v l) : ∀ k ∈ b :: lblks v l, k < w.heap.size := fun k hk => by
  rcases List.mem_cons.1 hk with rfl | hk
  · exact hlt_of h.head
  · rcases List.mem_append.1 hk with hk | hk
    · exact OC.lt h.sl (by simpa using hk)
    · obtain ⟨x, hx, hk⟩ := List.mem_flatMap.1 hk
      exact OC.lt (h.each x hx) (by simpa [LF.blk] using hk)
theorem mem_lblks2 {x : LF} (hx : x ∈ l) {k : Nat} (h : sblk x.sv = some k) : k ∈ lblks v l := List.mem_append.2 (.inr (List.mem_flatMap.2 ⟨x, hx, by simp [LF.blk, h]⟩))
theorem BkRaw.keep (h : BkRaw w b v l) (hk : ∀ k ∈ b :: lblks v l, w'.heap[k]? = w.heap[k]?) : BkRaw w' b v l :=
  ⟨(hk b (by simp)).trans h.head, OC.keep h.sl fun k hb => hk k (by simp [mem_lblks hb]), fun x hx => OC.keep (h.each x hx) fun k hb => hk k (List.mem_cons.2 (.inr (mem_lblks2 hx hb))), h.nodup⟩
theorem BkRaw.chg {G : Nat → Prop} (h : BkRaw w b v l) (hc : Chg G w w') (hG : ∀ k ∈ b :: lblks v l, ¬ G k) : BkRaw w' b v l := h.keep fun k hk => hc.block k (h.lt k hk) (hG k hk)
theorem BkRaw.quiet (h : BkRaw w b v l) (hc : Chg (fun _ => False) w w') : BkRaw w' b v l := h.chg hc fun _ _ h => h
theorem BkRep.lt (h : BkRep w b B F) : ∀ k ∈ F, k < w.heap.size := by obtain ⟨v, l, h, -, rfl⟩ := h; exact h.lt
theorem BkRep.keep (h : BkRep w b B F) (hk : ∀ k ∈ F, w'.heap[k]? = w.heap[k]?) : BkRep w' b B F := by obtain ⟨v, l, h, h2, rfl⟩ := h; exact ⟨v, l, h.keep hk, h2, rfl⟩
def BkLeft (w : World) (b : Nat) (F : List Nat) (B' : List Fl) (w' : World) : Prop := ∃ F', BkRep w' b B' F' ∧ Ev F F' w w'

/-- one page, as it lies -/
theorem BkRaw.pg {p : Option Addr} {n c : Nat} (h : BkRaw w b (.slice p n c) l) {k : Nat} (hk : k < l.length) :
    ∃ pb x, p = some ⟨pb, 0, none⟩ ∧ n = l.length ∧ l.length ≤ c ∧ l[k]? = some x ∧ x.bytes.length ≤ x.cap ∧ OB w 5 x.sv x.bytes ∧
      w.cell? ⟨pb, k * 3, none⟩ = some (.string x.name) ∧ w.cell? ⟨pb, k * 3 + 1, none⟩ = some x.sv ∧ w.cell? ⟨pb, k * 3 + 2, none⟩ = some (.int .i64 (x.sure : Int)) ∧
      (∀ i, w.frozen? ⟨pb, i, none⟩ = false) ∧ pb < w.heap.size ∧ pb ≠ b := by
  obtain ⟨p', c', he, hnc, hcm, -, hblk⟩ := id h.sl
  obtain ⟨rfl, rfl, rfl⟩ : p = p' ∧ n = l.length ∧ c = c' := by simpa only [Value.slice.injEq] using he
  obtain ⟨pb, arr, rfl, hh, hs, hx⟩ := hblk (by omega)
  obtain ⟨x, hxk⟩ : ∃ x, l[k]? = some x := ⟨_, List.getElem?_eq_getElem hk⟩
  have hcell : ∀ r u, x.enc[r]? = some u → w.cell? ⟨pb, k * 3 + r, none⟩ = some u := fun r u hu => by
    rw [hcell_of hh]
    have h1 := flat_at (f := LF.enc) (k := 3) len_lf hxk hu
    rw [← hx, List.getElem?_take] at h1
    split at h1
    · simpa using h1
    · cases h1
  have hob := h.each x (List.mem_of_getElem? hxk)
  obtain ⟨p2, c2, e2, hle, -⟩ := id hob
  have e3 : x.p = p2 ∧ x.cap = c2 := by simpa [LF.sv] using e2
  have hnd := h.nodup
  refine ⟨pb, x, rfl, rfl, hnc, hxk, by rw [e3.2]; exact hle, hob, hcell 0 _ rfl, hcell 1 _ rfl, hcell 2 _ rfl, fun i => hfree_of hh i, hlt_of hh, fun e => ?_⟩
  subst e
  refine (List.nodup_cons.1 hnd).1 (List.mem_append.2 (.inl ?_))
  have hc0 : c ≠ 0 := by omega
  rw [sblk_some hc0]; simp

set_option maxHeartbeats 2000000 in
theorem page_walk (hN : l.length ≤ 1099511627776) (h : BkRaw w b v l) :
    Calls Try.prog 52 #[.pointer (some ⟨b, 0, none⟩), .string nm] w fun e w' => w = w' ∧
      ((e = .returned (.int .i64 (-1)) ∧ ∀ x ∈ l, x.name ≠ nm) ∨ ∃ (i : Nat) (x : LF), e = .returned (.int .i64 (i : Int)) ∧ l[i]? = some x ∧ x.name = nm) := by
  obtain ⟨p, c, rfl, hnc, -, -⟩ := id h.sl
  have hlli : (l.length : Int) ≤ 1099511627776 := by omega
  have hnci : (l.length : Int) ≤ c := by omega
  have c0 := hcell_of h.head 0
  simp only [List.getElem?_toArray, List.getElem?_cons_zero] at c0
  have H := Lib.hid h
  clear h hN hnc
  go_enter Try.func52, Try.ntmps52
  go_wp2
  go_loopw [5] (fun i wr => w = wr ∧ ∃ j : Nat, j ≤ l.length ∧ i = .int .i64 (j : Int) ∧ ∀ x ∈ l.take j, x.name ≠ nm) (fun i _ => l.length - (Lib.intOf i).toNat)
  case atStart => exact ⟨rfl, 0, Nat.zero_le _, rfl, fun x hx => (by simp at hx)⟩
  case round =>
    obtain ⟨hww, j, hj, rfl, hno⟩ := hrel
    subst hww
    have HNO := Lib.hid hno
    clear hno
    by_cases hjl : (j : Int) < l.length
    · obtain ⟨pb, x, rfl, -, -, hx, -, -, z0, z1, z2, -, -, -⟩ := H.out.pg (k := j) (by omega)
      have hj0 : (0 : Int) ≤ (j : Int) := by omega
      have HX := Lib.hid hx
      clear hx
      by_cases hn : x.name = nm
      · rw [hn] at z0
        have HN := Lib.hid hn
        clear hn
        go_wp2
        go_ret
        exact ⟨rfl, .inr ⟨j, x, rfl, HX.out, HN.out⟩⟩
      · have g0 := toList_ne hn
        have hno2 : ∀ y ∈ l.take (j + 1), y.name ≠ nm := fun y hy => by
          rw [List.take_add_one, HX.out] at hy
          rcases List.mem_append.1 hy with hy | hy
          · exact HNO.out y hy
          · obtain rfl : y = x := by simpa using hy
            exact hn
        have HNO2 := Lib.hid hno2
        clear hno2
        go_wp2
        go_roundw
        case rel => exact ⟨trivial, j + 1, by omega, by go_num, HNO2.out⟩
        case measure => simp [Lib.intOf]; omega
    · have hno : ∀ x ∈ l, x.name ≠ nm := fun x hx => HNO.out x (by rw [List.take_of_length_le (by omega)]; exact hx)
      have HNO2 := Lib.hid hno
      clear hno
      go_wp2
      go_ret
      exact ⟨rfl, .inl ⟨rfl, HNO2.out⟩⟩
theorem page_none (hN : l.length ≤ 1099511627776) (h : BkRaw w b v l) (hno : ∀ x ∈ l, x.name ≠ nm) :
    Calls Try.prog 52 #[.pointer (some ⟨b, 0, none⟩), .string nm] w fun e w' => e = .returned (.int .i64 (-1)) ∧ w = w' :=
  (page_walk hN h).mono fun e w' ⟨h1, h2⟩ => by
    rcases h2 with ⟨h2, -⟩ | ⟨i, x, -, hx, hn⟩
    · exact ⟨h2, h1⟩
    · exact absurd hn (hno x (List.mem_of_getElem? hx))
theorem name_inj {i j : Nat} {x y : LF} (hn : (l.map (·.name)).Nodup) (hx : l[i]? = some x) (hy : l[j]? = some y) (e : x.name = y.name) : i = j := by
  obtain ⟨hi, rfl⟩ := List.getElem?_eq_some_iff.1 hx
  obtain ⟨hj, rfl⟩ := List.getElem?_eq_some_iff.1 hy
  exact (List.getElem_inj (xs := l.map (·.name)) (h₀ := by simpa using hi) (h₁ := by simpa using hj) hn).1 (by simpa using e)
theorem page_some (hN : l.length ≤ 1099511627776) (h : BkRaw w b v l) (hn : (l.map (·.name)).Nodup) {i : Nat} {x : LF} (hx : l[i]? = some x) (hxn : x.name = nm) :
    Calls Try.prog 52 #[.pointer (some ⟨b, 0, none⟩), .string nm] w fun e w' => e = .returned (.int .i64 (i : Int)) ∧ w = w' :=
  (page_walk hN h).mono fun e w' ⟨h1, h2⟩ => by
    rcases h2 with ⟨-, h2⟩ | ⟨j, y, he, hy, hyn⟩
    · exact absurd hxn (h2 x (List.mem_of_getElem? hx))
    · rw [name_inj hn hx hy (hxn.trans hyn.symm)]
      exact ⟨he, h1⟩

theorem total_take_le2 {l : List LF} (j : Nat) : total ((l.take j).map LF.fl) ≤ total (l.map LF.fl) := by
  rw [List.map_take]; exact total_take_le _ _
set_option maxHeartbeats 2000000 in
theorem total_walk (hN : l.length ≤ 1099511627776) (hT : total (l.map LF.fl) ≤ 1099511627776) (h : BkRaw w b v l) :
    Calls Try.prog 30 #[.pointer (some ⟨b, 0, none⟩)] w fun e w' => e = .returned (.int .i64 (total (l.map LF.fl) : Int)) ∧ w = w' := by
  obtain ⟨p, c, rfl, hnc, -, -⟩ := id h.sl
  have hlli : (l.length : Int) ≤ 1099511627776 := by omega
  have hnci : (l.length : Int) ≤ c := by omega
  have c0 := hcell_of h.head 0
  simp only [List.getElem?_toArray, List.getElem?_cons_zero] at c0
  have H := Lib.hid h
  have HT := Lib.hid hT
  clear h hN hnc hT
  go_enter Try.func30, Try.ntmps30
  go_wp2
  go_loopw [3, 4] (fun n i wr => w = wr ∧ ∃ j : Nat, j ≤ l.length ∧ i = .int .i64 (j : Int) ∧ n = .int .i64 (total ((l.take j).map LF.fl) : Int)) (fun _ i _ => l.length - (Lib.intOf i).toNat)
  case atStart => exact ⟨rfl, 0, Nat.zero_le _, rfl, rfl⟩
  case round =>
    obtain ⟨hww, j, hj, rfl, rfl⟩ := hrel
    subst hww
    by_cases hjl : (j : Int) < l.length
    · obtain ⟨pb, x, rfl, -, -, hx, hxc, -, z0, z1, z2, -, -, -⟩ := H.out.pg (k := j) (by omega)
      have hj0 : (0 : Int) ≤ (j : Int) := by omega
      have e2 : x.sv = .slice x.p x.bytes.length x.cap := rfl
      rw [e2] at z1
      have hts : total ((l.take (j + 1)).map LF.fl) = total ((l.take j).map LF.fl) + x.bytes.length := by
        rw [List.map_take, List.map_take]
        exact total_take_succ (x := x.fl) (by rw [List.getElem?_map, hx]; rfl)
      have hle := total_take_le2 (l := l) (j + 1)
      have ht0 : (0 : Int) ≤ (total ((l.take j).map LF.fl) : Int) := by omega
      have ht1 : (total ((l.take j).map LF.fl) : Int) + (x.bytes.length : Int) ≤ 1099511627776 := by have := HT.out; omega
      have HTS := Lib.hid hts
      generalize total ((l.take j).map LF.fl) = t at *
      clear hx hle hts e2
      go_wp2
      go_roundw
      case rel => exact ⟨trivial, j + 1, by omega, by go_num, by rw [HTS.out]; go_num⟩
      case measure => simp [Lib.intOf]; omega
    · have hje : l.take j = l := List.take_of_length_le (by omega)
      rw [hje]
      go_wp2
      go_ret
      exact ⟨rfl, rfl⟩
end
end Go.Proofs
