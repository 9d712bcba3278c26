/- Words and laws on the heap for the proofs of this seat: what a call may change, slices that are read, slices that are owned, append, conversions between bytes and strings. Conditions: each law's own. Laws on a map with string keys whose entries are known one by one: look-up, store, delete, range. Conditions: each law's own. Laws at an operation, for the walk: append onto an owned slice, the operations of a map with string keys; a stop. Conditions: each law's own. How package disk's value lies in memory, and that it lies so still behind each change. Conditions: each law's own. What a crash does to package disk's value in memory, file by file: the state between two rounds of the loop, and one round. Conditions: each law's own. -/
import Derived.WalkKit
import Derived.Deep.Draws
import Derived.MapKept
import Derived.Test.YtaiaghfckhgnnaaDoorWt
import Derived.Maps.RangeWalk
import Derived.Maps.OwnSet
import Derived.Test.YtaiaghfckhgnnaaDoorDm
namespace Go.Hp
open Go Go.RowKit
set_option linter.unusedVariables false

/-- a byte as a cell -/
abbrev u8 (b : UInt8) : Value := .int .u8 (b.toNat : Int)

/-! ### what a call may change -/
structure Chg (F : Nat → Prop) (w w' : World) : Prop where
  os : w'.os = w.os
  tape : w'.tape = w.tape
  output : w'.output = w.output
  size : w.heap.size ≤ w'.heap.size
  block : ∀ k, k < w.heap.size → ¬ F k → w'.heap[k]? = w.heap[k]?

section
variable {F G : Nat → Prop} {a b c w w' : World}
theorem Chg.refl (F : Nat → Prop) (w : World) : Chg F w w := ⟨rfl, rfl, rfl, Nat.le_refl _, fun _ _ _ => rfl⟩
theorem Chg.trans (h : Chg F a b) (k : Chg G b c) (hG : ∀ k, G k → F k ∨ a.heap.size ≤ k) : Chg F a c :=
  ⟨k.os.trans h.os, k.tape.trans h.tape, k.output.trans h.output, Nat.le_trans h.size k.size, fun i hi hn =>
    (k.block i (Nat.lt_of_lt_of_le hi h.size) (fun hg => (hG i hg).elim hn (fun h' => by omega))).trans (h.block i hi hn)⟩
theorem Chg.mono (h : Chg F a b) (hG : ∀ k, F k → G k ∨ a.heap.size ≤ k) : Chg G a b := (Chg.refl G a).trans h hG
theorem Chg.alloc (h : Chg F a b) (o : Obj) : Chg F a (b.alloc o) :=
  ⟨h.os, h.tape, h.output, by have := h.size; simp; omega, fun k hk hn => (Below.heap_alloc b o k (Nat.lt_of_lt_of_le hk h.size)).trans (h.block k hk hn)⟩
theorem Chg.drew (h : Chg F a b) : Chg F a b.drew := ⟨h.os, h.tape, h.output, h.size, h.block⟩
theorem Chg.drewN (h : Chg F a b) (n : Nat) : Chg F a (b.drewN n) := ⟨h.os, h.tape, h.output, h.size, h.block⟩
theorem Chg.setCell (h : Chg F a b) {p : Addr} (hp : F p.block ∨ a.heap.size ≤ p.block) (u : Value) : Chg F a (b.setCell p u) :=
  ⟨h.os, h.tape, h.output, by have := h.size; simpa using this, fun k hk hn => (Below.heap_setCell b p u k (fun e => by subst e; exact hp.elim hn (fun h' => by omega))).trans (h.block k hk hn)⟩
theorem Chg.of_below {B : Nat} (h : Below B w w') : Chg (fun k => B ≤ k) w w' :=
  ⟨h.os, h.tape, h.output, h.size, fun k _ hn => h.block k (by omega)⟩
theorem Chg.below {B : Nat} (h : Chg F w w') (hB : B ≤ w.heap.size) (hF : ∀ k, F k → B ≤ k) : Below B w w' :=
  ⟨h.os, h.tape, h.output, h.size, fun k hk => h.block k (by omega) (fun hf => by have := hF k hf; omega)⟩
theorem Chg.of_grown {row : Option Nat} (h : w.grownBy w' row) : Chg (fun k => some k = row) w w' :=
  ⟨h.os, h.tape, h.output, h.size, fun k hk hn => h.block k hk hn⟩
theorem Chg.cell (h : Chg F w w') {k o : Nat} (hk : k < w.heap.size) (hn : ¬ F k) : w'.cell? ⟨k, o, none⟩ = w.cell? ⟨k, o, none⟩ :=
  World.cell?_of_block (a := ⟨k, o, none⟩) (h.block k hk hn)
theorem Chg.frozen (h : Chg F w w') {k o : Nat} (hk : k < w.heap.size) (hn : ¬ F k) : w'.frozen? ⟨k, o, none⟩ = w.frozen? ⟨k, o, none⟩ :=
  World.frozen?_of_block (a := ⟨k, o, none⟩) (h.block k hk hn)
end

/-- the footprint F has become F', and nothing else that was there has changed -/
structure Ev (F F' : List Nat) (w w' : World) : Prop where
  chg : Chg (· ∈ F) w w'
  new : ∀ k, k ∈ F' → k ∈ F ∨ w.heap.size ≤ k

section
variable {F F' F'' : List Nat} {w w' w'' : World}
theorem Ev.refl (F : List Nat) (w : World) : Ev F F w w := ⟨Chg.refl _ _, fun k h => .inl h⟩
theorem Ev.trans (h : Ev F F' w w') (k : Ev F' F'' w' w'') : Ev F F'' w w'' :=
  ⟨h.chg.trans k.chg h.new, fun i hi => (k.new i hi).elim (h.new i) (fun h' => .inr (Nat.le_trans h.chg.size h'))⟩
theorem Ev.drewN (h : Ev F F' w w') (n : Nat) : Ev F F' w (w'.drewN n) := ⟨h.chg.drewN n, h.new⟩
theorem Ev.alloc (h : Ev F F' w w') (o : Obj) : Ev F F' w (w'.alloc o) := ⟨h.chg.alloc o, h.new⟩
/-- a block that is none of F's is none of F''s -/
theorem Ev.out (h : Ev F F' w w') {k : Nat} (hk : k < w.heap.size) (hn : k ∉ F) : k ∉ F' := fun h' => (h.new k h').elim hn (fun h'' => by omega)
theorem Ev.block (h : Ev F F' w w') {k : Nat} (hk : k < w.heap.size) (hn : k ∉ F) : w'.heap[k]? = w.heap[k]? := h.chg.block k hk hn
end

/-! ### blocks -/
theorem hlt_of {w : World} {k : Nat} {o : Obj} (h : w.heap[k]? = some o) : k < w.heap.size := (Array.getElem?_eq_some_iff.1 h).1

theorem hcell_of {w : World} {b : Nat} {cs : Array Value} {t : TypeId} {fz : Nat × Nat} (h : w.heap[b]? = some (.cells cs t fz)) (i : Nat) : w.cell? ⟨b, i, none⟩ = cs[i]? := by
  simp [World.cell?, h]
theorem hfree_of {w : World} {b : Nat} {cs : Array Value} {t : TypeId} (h : w.heap[b]? = some (.cells cs t (0, 0))) (i : Nat) : w.frozen? ⟨b, i, none⟩ = false := by
  simp [World.frozen?, h]
theorem hset_same {w : World} {b : Nat} {cs : Array Value} {t : TypeId} {fz : Nat × Nat} (h : w.heap[b]? = some (.cells cs t fz)) (i : Nat) (v : Value) :
    (w.setCell ⟨b, i, none⟩ v).heap[b]? = some (.cells (cs.setIfInBounds i v) t fz) := by
  simp [World.setCell, Array.getElem?_modify, h]
theorem hset_other {w : World} {p : Addr} {v : Value} {k : Nat} (h : k ≠ p.block) : (w.setCell p v).heap[k]? = w.heap[k]? := Below.heap_setCell w p v k h
theorem halloc_lt {w : World} {o : Obj} {k : Nat} (h : k < w.heap.size) : (w.alloc o).heap[k]? = w.heap[k]? := Below.heap_alloc w o k h
theorem halloc_at (w : World) (o : Obj) : (w.alloc o).heap[w.heap.size]? = some o := by
  show (w.heap.push o)[w.heap.size]? = some o
  simp

/-! ### slices -/
/-- the block that a slice with room leads to -/
def sblk : Value → Option Nat
  | .slice (some a) _ (_ + 1) => some a.block
  | _ => none

@[simp] theorem sblk_nil : sblk (.slice none 0 0) = none := rfl
theorem sblk_some {a : Addr} {n c : Nat} (h : c ≠ 0) : sblk (.slice (some a) n c) = some a.block := by
  cases c with
  | zero => exact absurd rfl h
  | succ c => rfl
theorem sblk_zero {p : Option Addr} {n : Nat} : sblk (.slice p n 0) = none := by cases p <;> rfl
theorem sblk_cap {p : Option Addr} {n c k : Nat} (h : sblk (.slice p n c) = some k) : c ≠ 0 ∧ ∃ a, p = some a ∧ a.block = k := by
  cases p with
  | none => simp [sblk] at h
  | some a =>
    cases c with
    | zero => simp [sblk] at h
    | succ c => simp [sblk] at h; exact ⟨by omega, a, rfl, h⟩

/-- slice v has n elements of k cells each, which read as cs -/
def RC (w : World) (k : Nat) (v : Value) (n : Nat) (cs : List Value) : Prop :=
  ∃ p c, v = .slice p n c ∧ n ≤ c ∧ cs.length = n * k ∧
    (c ≠ 0 → ∃ b off arr t fz, p = some ⟨b, off, none⟩ ∧ w.heap[b]? = some (.cells arr t fz) ∧ ∀ i u, cs[i]? = some u → arr[off + i]? = some u)

/-- slice v of element type E (k cells each) lies at the head of a block of its own; its n elements read as cs -/
def OC (w : World) (k : Nat) (E : TypeId) (v : Value) (n : Nat) (cs : List Value) : Prop :=
  ∃ p c, v = .slice p n c ∧ n ≤ c ∧ c ≤ maxLen ∧ cs.length = n * k ∧
    (c ≠ 0 → ∃ b arr, p = some ⟨b, 0, none⟩ ∧ w.heap[b]? = some (.cells arr E (0, 0)) ∧ arr.size = c * k ∧ arr.toList.take (n * k) = cs)

section
variable {w w' : World} {k : Nat} {E : TypeId} {v : Value} {n : Nat} {cs : List Value}
theorem RC.len (h : RC w k v n cs) : cs.length = n * k := by obtain ⟨_, _, _, _, h, _⟩ := h; exact h
theorem OC.len (h : OC w k E v n cs) : cs.length = n * k := by obtain ⟨_, _, _, _, _, h, _⟩ := h; exact h
theorem OC.rc (h : OC w k E v n cs) : RC w k v n cs := by
  obtain ⟨p, c, rfl, h1, _, h3, h4⟩ := h
  refine ⟨p, c, rfl, h1, h3, fun hc => ?_⟩
  obtain ⟨b, arr, rfl, hb, hs, ht⟩ := h4 hc
  refine ⟨b, 0, arr, E, (0, 0), rfl, hb, fun i u hu => ?_⟩
  rw [← ht, List.getElem?_take] at hu
  split at hu
  · simpa using hu
  · cases hu
theorem RC.lt (h : RC w k v n cs) {b : Nat} (hb : sblk v = some b) : b < w.heap.size := by
  obtain ⟨p, c, rfl, _, _, h4⟩ := h
  obtain ⟨hc, a, rfl, rfl⟩ := sblk_cap hb
  obtain ⟨b, off, arr, t, fz, hp, hh, _⟩ := h4 hc
  cases hp; exact hlt_of hh
theorem OC.lt (h : OC w k E v n cs) {b : Nat} (hb : sblk v = some b) : b < w.heap.size := h.rc.lt hb
theorem RC.keep (h : RC w k v n cs) (hb : ∀ b, sblk v = some b → w'.heap[b]? = w.heap[b]?) : RC w' k v n cs := by
  obtain ⟨p, c, rfl, h1, h3, h4⟩ := h
  refine ⟨p, c, rfl, h1, h3, fun hc => ?_⟩
  obtain ⟨b, off, arr, t, fz, rfl, hh, hx⟩ := h4 hc
  exact ⟨b, off, arr, t, fz, rfl, (hb b (sblk_some hc)).trans hh, hx⟩
theorem OC.keep (h : OC w k E v n cs) (hb : ∀ b, sblk v = some b → w'.heap[b]? = w.heap[b]?) : OC w' k E v n cs := by
  obtain ⟨p, c, rfl, h1, h2, h3, h4⟩ := h
  refine ⟨p, c, rfl, h1, h2, h3, fun hc => ?_⟩
  obtain ⟨b, arr, rfl, hh, hx⟩ := h4 hc
  exact ⟨b, arr, rfl, (hb b (sblk_some hc)).trans hh, hx⟩
theorem RC.chg {F : Nat → Prop} (h : RC w k v n cs) (hc : Chg F w w') (hF : ∀ b, sblk v = some b → ¬ F b) : RC w' k v n cs :=
  h.keep fun b hb => hc.block b (h.lt hb) (hF b hb)
theorem OC.chg {F : Nat → Prop} (h : OC w k E v n cs) (hc : Chg F w w') (hF : ∀ b, sblk v = some b → ¬ F b) : OC w' k E v n cs :=
  h.keep fun b hb => hc.block b (h.lt hb) (hF b hb)
theorem RC.cell (h : RC w k v n cs) {a : Addr} {m c : Nat} (hv : v = .slice (some a) m c) (hc : c ≠ 0) (i : Nat) (u : Value) (hu : cs[i]? = some u) : w.cell? (a.add i) = some u := by
  obtain ⟨p, c', rfl, h1, h3, h4⟩ := h
  cases hv
  obtain ⟨b, off, arr, t, fz, hp, hh, hx⟩ := h4 hc
  cases hp
  have e : (⟨b, off, none⟩ : Addr).add i = ⟨b, off + i, none⟩ := by unfold Addr.add; split <;> simp_all
  rw [e, hcell_of hh]
  exact hx i u hu
theorem OC_nil (w : World) (k : Nat) (E : TypeId) : OC w k E (.slice none 0 0) 0 [] := ⟨none, 0, rfl, Nat.le_refl _, Nat.zero_le _, by simp, fun h => absurd rfl h⟩
theorem OC_zero (w : World) (k : Nat) (E : TypeId) (p : Option Addr) : OC w k E (.slice p 0 0) 0 [] := ⟨p, 0, rfl, Nat.le_refl _, Nat.zero_le _, by simp, fun h => absurd rfl h⟩
theorem OC_new (w : World) (k : Nat) (E : TypeId) (arr : Array Value) (n c : Nat) (hn : n ≤ c) (hc : c ≤ maxLen) (hs : arr.size = c * k) :
    OC (w.alloc (.cells arr E)) k E (.slice (some ⟨w.heap.size, 0, none⟩) n c) n (arr.toList.take (n * k)) :=
  ⟨_, c, rfl, hn, hc, by simp; rw [hs]; exact Nat.min_eq_left (Nat.mul_le_mul_right k hn), fun _ => ⟨_, arr, rfl, halloc_at w _, hs, rfl⟩⟩
end

/-- append onto an owned slice, from whatever is read -/
theorem run_append_any {P : Program} (w : World) (t ty E : TypeId) (i : TypeInfo) (z : Value) (k bytes : Nat) (ht : P.underlying t = some (.slice E)) (hi : P.info? E = some i) (hz : i.zero = some z)
    (hsize : i.size = k) (hby : i.bytes = bytes) (hzs : z.cells.size = k) (hk : 0 < k)
    {v x : Value} {n m : Nat} {cs ns : List Value} (hv : OC w k E v n cs) (hx : RC w k x m ns) (h1 : ∀ u ∈ ns, u.oneCell' = true)
    (hb1 : 0 < bytes) (hbytes : (n + m) * bytes ≤ 140737488355328) :
    ∃ v' w', (Builtin.append_ #[t, t] ty #[v, x]).run P w = .ok v' w' ∧ OC w' k E v' (n + m) (cs ++ ns) ∧ Chg (fun b => sblk v = some b) w w' ∧
      (∀ b, sblk v' = some b → sblk v = some b ∨ w.heap.size ≤ b) ∧ (v' = .slice none 0 0 ↔ v = .slice none 0 0 ∧ m = 0) := by
  subst hsize hby
  have hv0 := hv
  obtain ⟨p, c, rfl, hnc, hcm, hcl, hv4⟩ := hv
  have hx0 := hx
  obtain ⟨q, d, rfl, hmd, hnl, hx4⟩ := hx
  have hnm : n + m ≤ 140737488355328 := Nat.le_trans (Nat.le_mul_of_pos_right _ hb1) hbytes
  by_cases hm : m = 0
  · subst hm
    have hns : ns = [] := List.eq_nil_of_length_eq_zero (by simpa using hnl)
    subst hns
    refine ⟨.slice p n c, w, ?_, by simpa using hv0, Chg.refl _ _, fun b h => .inl h, by simp⟩
    cases q with
    | none => cases p <;> simp [Builtin.append_, run_underlying ht, sizeOf, typeInfo, hi, Builtin.lenOf, Builtin.firstCells, hnc, storeCells]
    | some a => cases p <;> simp [Builtin.append_, run_underlying ht, sizeOf, typeInfo, hi, Builtin.lenOf, Builtin.firstCells, loadCells, loadCellsFrom, hnc, storeCells]
  · have hd : d ≠ 0 := by omega
    obtain ⟨b, off, arr, t', fz, rfl, hh, hcell⟩ := hx4 hd
    have hnews : ∀ j u, ns[j]? = some u → w.cell? ((⟨b, off, none⟩ : Addr).add j) = some u := fun j u hu => hx0.cell rfl hd j u hu
    have hlen : (cs ++ ns).length = (n + m) * i.size := by rw [List.length_append, hcl, hnl, Nat.add_mul]
    have grown : ∀ old, old < n + m → OC (w.drew.alloc (.cells (cs.toArray ++ ns.toArray ++ Builtin.zeroCells z.cells (grownCap w (n + m) old E - (n + m))) E)) i.size E
        (.slice (some ⟨w.heap.size, 0, none⟩) (n + m) (grownCap w (n + m) old E)) (n + m) (cs ++ ns) := by
      intro old ho
      have hge := grownCap_ge w (n + m) old E
      have h := OC_new w.drew i.size E (cs.toArray ++ ns.toArray ++ Builtin.zeroCells z.cells (grownCap w (n + m) old E - (n + m))) (n + m) (grownCap w (n + m) old E) hge
        (grownCap_le_maxLen w (n + m) old E (by unfold maxLen; omega)) (by
          simp only [Array.size_append, List.size_toArray, size_zeroCells, hzs, hcl, hnl, ← Nat.add_mul]
          congr 1; omega)
      simp only [Array.toList_append, List.append_assoc] at h
      rw [← List.append_assoc, ← hlen, List.take_left] at h
      exact h
    have chg : ∀ o, Chg (fun b => sblk (Value.slice p n c) = some b) w (w.drew.alloc o) := fun o => (Chg.refl _ w).drew.alloc o
    by_cases hroom : n + m ≤ c
    · have hc : c ≠ 0 := by omega
      obtain ⟨g, cur, rfl, hg, hcs, htake⟩ := hv4 hc
      have hfit : n * i.size + ns.length ≤ cur.size := by rw [hnl, hcs, ← Nat.add_mul]; exact Nat.mul_le_mul_right _ hroom
      have hr := run_append_room (P := P) w t ty E i ht hi g n c cur hg ⟨b, off, none⟩ m d ns hnl hnews h1 hroom hfit
      refine ⟨_, _, hr, ⟨_, c, rfl, hroom, hcm, hlen, fun _ => ⟨g, _, rfl, setRow_heap w g cur _ E _ hg, ?_, ?_⟩⟩, ?_, fun b' hb' => .inl (by simpa [sblk_some hc] using hb'), ?_⟩
      · have h1 : n * i.size ≤ c * i.size := Nat.mul_le_mul_right _ hnc
        have h2 : n * i.size + m * i.size ≤ c * i.size := by rw [← Nat.add_mul]; exact Nat.mul_le_mul_right _ hroom
        have h3 : cur.toList.length = c * i.size := by simpa using hcs
        simp only [List.size_toArray, List.length_append, List.length_take, List.length_drop, hnl, h3]
        omega
      · have e : (cur.toList.take (n * i.size) ++ ns ++ cur.toList.drop (n * i.size + ns.length)).take ((n + m) * i.size) = cs ++ ns := by
          rw [htake, ← hlen, List.take_left]
        simpa using e
      · exact ⟨rfl, rfl, rfl, by simp, fun k hk hn => setRow_other w g k _ (fun e => hn (by rw [sblk_some hc, e]))⟩
      · simp
    · cases p with
      | none =>
        have hc : c = 0 := by
          by_cases h : c = 0
          · exact h
          · obtain ⟨g, cur, hp, _⟩ := hv4 h; cases hp
        subst hc
        have hn : n = 0 := by omega
        subst hn
        have hcs : cs = [] := List.eq_nil_of_length_eq_zero (by simpa using hcl)
        subst hcs
        have hr := run_append_nil (P := P) w t ty E i z ht hi hz ⟨b, off, none⟩ m d ns hnl hnews (by omega) (by omega) (by have := hbytes; simp only [Nat.zero_add] at this; omega)
        refine ⟨_, _, hr, ?_, chg _, ?_, ?_⟩
        · have := grown 0 (by omega)
          simpa using this
        · intro b' hb'
          obtain ⟨_, a, ha, rfl⟩ := sblk_cap hb'
          cases ha; exact .inr (Nat.le_refl _)
        · simp; omega
      | some a =>
        have hr := run_append_grow (P := P) w t ty E i z ht hi hz a n c cs hcl (fun j u hu => by
            by_cases hc : c = 0
            · have : n = 0 := by omega
              subst this
              have hcs : cs = [] := List.eq_nil_of_length_eq_zero (by simpa using hcl)
              subst hcs; cases hu
            · exact hv0.rc.cell rfl hc j u hu)
          ⟨b, off, none⟩ m d ns hnl hnews (by omega) (by omega) (growslice_fits (by omega) hbytes)
        refine ⟨_, _, hr, grown c (by omega), chg _, ?_, by simp⟩
        intro b' hb'
        obtain ⟨_, a, ha, rfl⟩ := sblk_cap hb'
        cases ha; exact .inr (Nat.le_refl _)

/-! ### bytes -/
/-- v reads as the bytes l -/
def RB (w : World) (v : Value) (l : List UInt8) : Prop := RC w 1 v l.length (l.map u8)
/-- v (element type E) lies in a block of its own and reads as the bytes l -/
def OB (w : World) (E : TypeId) (v : Value) (l : List UInt8) : Prop := OC w 1 E v l.length (l.map u8)

theorem u8_one : ∀ (l : List UInt8), ∀ u ∈ l.map u8, u.oneCell' = true := fun l u hu => by
  obtain ⟨b, _, rfl⟩ := List.mem_map.1 hu; rfl

theorem OB.rb {w : World} {E : TypeId} {v : Value} {l : List UInt8} (h : OB w E v l) : RB w v l := OC.rc h

/-- '[]byte' to 'string' -/
theorem run_toString {P : Program} (w : World) (src dst e : TypeId) (hs : P.underlying src = some (.slice e)) (he : P.underlying e = some (.int .u8)) (hd : P.underlying dst = some .string)
    {v : Value} {l : List UInt8} (h : RB w v l) : (convert src dst v).run P w = .ok (.string ⟨l.toArray⟩) w := by
  have h0 := h
  obtain ⟨p, c, rfl, h1, h2, h3⟩ := h
  rw [run_convert_bytes_string w src dst e p l.length c hs he hd]
  have hfold : ∀ (l : List UInt8) (s : ByteArray), (l.map fun b => (b.toNat : Int)).foldl (fun r n => r.push (UInt8.ofNat n.toNat)) s = ⟨s.data ++ l.toArray⟩ := by
    intro l
    induction l with
    | nil => intro s; simp
    | cons b l ih =>
      intro s
      simp only [List.map_cons, List.foldl_cons, ih]
      simp [ByteArray.push]
  cases p with
  | none =>
    have hl : l = [] := by
      by_cases hc : c = 0
      · exact List.eq_nil_of_length_eq_zero (by omega)
      · obtain ⟨_, _, _, _, _, hp, _⟩ := h3 hc; cases hp
    subst hl
    simp [Conv.bytesToString]
    rfl
  | some a =>
    have e : l.map u8 = (l.map fun b => (b.toNat : Int)).map (Value.int .u8) := by simp [u8]
    have hload : (loadCells a l.length).run P w = .ok ((l.map fun b => (b.toNat : Int)).map (Value.int .u8)).toArray w := by
      by_cases hc : c = 0
      · have hl : l = [] := List.eq_nil_of_length_eq_zero (by omega)
        subst hl; simp [loadCells, loadCellsFrom]
      · rw [← e]
        have := run_loadCells_list (P := P) w a (l.map u8) (fun j u hu => h0.cell rfl hc j u hu)
        simpa using this
    rw [run_bytesToString w a l.length c _ hload, hfold]
    simp
end Go.Hp
namespace Go.Hp
open Go Go.RowKit
set_option linter.unusedVariables false

instance : LawfulBEq ByteArray where
  eq_of_beq h := (MapKept.bytes_beq _ _).1 h
  rfl := (MapKept.bytes_beq _ _).2 rfl

/-- an entry: key, value, stamp -/
structure En where
  key : ByteArray
  val : Value
  born : Nat

def En.m (e : En) : MapEntry := ⟨.string e.key, e.val, e.born⟩
def ents (L : List En) : Array MapEntry := (L.map En.m).toArray

theorem findNow_str (k : ByteArray) : ∀ (L : List En) (i : Nat), Instr.findNow .string (.string k) (L.map En.m) i = some ((L.findIdx? (·.key == k)).map fun j => (i + j, ((L[j]?).map En.val).getD undef))
  | [], i => by simp [Instr.findNow]
  | e :: L, i => by
    simp only [List.map_cons, Instr.findNow, Instr.sameNow, En.m]
    have ih := findNow_str k L (i + 1)
    by_cases h : k = e.key
    · subst h
      simp [List.findIdx?_cons]
    · have h1 : (k == e.key) = false := by simpa using h
      have h2 : (e.key == k) = false := by simpa using fun x : e.key = k => h x.symm
      rw [h1]
      simp only [ih, List.findIdx?_cons, h2]
      cases hf : L.findIdx? (·.key == k) with
      | none => simp
      | some j => simp [Nat.add_assoc, Nat.add_comm 1 j]

section
variable {P : Program} (w : World) {t kt et : TypeId}

theorem run_checkKey_str (hk : P.underlying kt = some .string) (e : Bool) (n : Nat) (v : Value) : (Instr.checkKey e (n + 1) kt v).run P w = .ok () w := by
  simp [Instr.checkKey, run_underlying hk]

theorem run_findKey_str (hk : P.underlying kt = some .string) (k : ByteArray) (L : List En) :
    (Instr.findKey kt (.string k) (ents L).toList).run P w = .ok ((L.findIdx? (·.key == k)).map fun j => (j, ((L[j]?).map En.val).getD undef)) w := by
  simp [Instr.findKey, run_underlying hk, ents, findNow_str]

theorem find_of_idx {L : List En} {k : ByteArray} {j : Nat} (hf : L.findIdx? (·.key == k) = some j) : ∃ h : j < L.length, L[j].key = k ∧ L.find? (·.key == k) = some L[j] := by
  obtain ⟨hlt, hp, hmin⟩ := List.findIdx?_eq_some_iff_getElem.1 hf
  refine ⟨hlt, by simpa using hp, ?_⟩
  rw [List.find?_eq_some_iff_getElem]
  exact ⟨hp, j, hlt, rfl, fun i hi => by simpa using hmin i hi⟩

theorem run_lookup_str (ht : P.underlying t = some (.map kt et)) (hk : P.underlying kt = some .string)
    {m : Nat} {clock : Nat} {L : List En} (hm : w.heap[m]? = some (.map (ents L) clock)) {z : Value} (hz : (zeroValue et).run P w = .ok z w) (k : ByteArray) :
    (Instr.lookup t (.map (some m)) (.string k) false).run P w = .ok (match L.find? (·.key == k) with | some e => e.val | none => z) w := by
  have h1 := run_checkKey_str (P := P) w hk (ents L).isEmpty 9999 (.string k)
  have h2 := run_findKey_str (P := P) w hk k L
  unfold Instr.lookup
  simp only [Sem.run_bind, run_underlying ht, Result.andThen_ok, getObj, Sem.run, hm, Sem.run_pure]
  rw [show (10000 : Nat) = 9999 + 1 from rfl, h1]
  simp only [Result.andThen_ok, h2]
  cases hf : L.findIdx? (·.key == k) with
  | none =>
    have : L.find? (·.key == k) = none := by simpa [List.findIdx?_eq_none_iff] using hf
    simp [this, hz]
  | some j =>
    obtain ⟨hlt, _, h3⟩ := find_of_idx hf
    simp [h3, hlt]

/-- the world with another object in block m -/
def putObj (w : World) (m : Nat) (o : Obj) : World := { w with heap := w.heap.setIfInBounds m o }

theorem putObj_same {m : Nat} {o : Obj} (h : m < w.heap.size) : (putObj w m o).heap[m]? = some o := by simp [putObj, h]
theorem putObj_other {m k : Nat} {o : Obj} (h : k ≠ m) : (putObj w m o).heap[k]? = w.heap[k]? := by simp [putObj, Ne.symm h]
theorem putObj_size {m : Nat} {o : Obj} : (putObj w m o).heap.size = w.heap.size := by simp [putObj]
theorem putObj_chg {m : Nat} {o : Obj} : Chg (· = m) w (putObj w m o) := ⟨rfl, rfl, rfl, by simp [putObj], fun k _ hn => putObj_other w hn⟩

theorem run_store_str (ht : P.underlying t = some (.map kt et)) (hk : P.underlying kt = some .string)
    {m : Nat} {clock : Nat} {L : List En} (hm : w.heap[m]? = some (.map (ents L) clock)) (k : ByteArray) (v : Value) (hnew : ∀ e ∈ L, e.key ≠ k) :
    (Instr.mapUpdate t (.map (some m)) (.string k) v).run P w = .ok () (putObj w m (.map (ents (L ++ [⟨k, v, clock⟩])) (clock + 1))) := by
  have h1 := run_checkKey_str (P := P) w hk false 9999 (.string k)
  have h2 := run_findKey_str (P := P) w hk k L
  have h3 : L.findIdx? (·.key == k) = none := by simpa [List.findIdx?_eq_none_iff] using hnew
  unfold Instr.mapUpdate
  simp only [Sem.run_bind, run_underlying ht, Result.andThen_ok, getObj, Sem.run, hm]
  rw [show (10000 : Nat) = 9999 + 1 from rfl, h1]
  simp only [Result.andThen_ok, h2, h3, Option.map_none]
  simp [setObj, Sem.run, hm, putObj, ents, En.m]

theorem run_delete_str (ty : TypeId) (ht : P.underlying t = some (.map kt et)) (hk : P.underlying kt = some .string)
    {m : Nat} {clock : Nat} {L : List En} (hm : w.heap[m]? = some (.map (ents L) clock)) (k : ByteArray) (hnd : (L.map (·.key)).Nodup) :
    (Builtin.delete_ #[t, kt] ty #[.map (some m), .string k]).run P w = .ok (.tuple #[]) (putObj w m (.map (ents (L.filter (·.key != k))) clock)) := by
  have h1 := run_checkKey_str (P := P) w hk (ents L).isEmpty 9999 (.string k)
  have h2 := run_findKey_str (P := P) w hk k L
  unfold Builtin.delete_
  simp only [List.getElem?_toArray, List.getElem?_cons_zero, List.getElem?_cons_succ, Sem.run_bind, run_underlying ht, Result.andThen_ok, getObj, Sem.run, hm]
  rw [show (10000 : Nat) = 9999 + 1 from rfl, h1]
  simp only [Result.andThen_ok, h2]
  cases hf : L.findIdx? (·.key == k) with
  | none =>
    have h3 : ∀ e ∈ L, e.key ≠ k := by simpa [List.findIdx?_eq_none_iff] using hf
    have h4 : L.filter (·.key != k) = L := List.filter_eq_self.2 fun e he => by simpa using h3 e he
    simp [setObj, Sem.run, hm, putObj, h4]
  | some j =>
    obtain ⟨hlt, hkey, _⟩ := find_of_idx hf
    have h4 : L.filter (·.key != k) = L.eraseIdx j := by
      have e := List.take_append_drop j L
      have hd : L.drop j = L[j] :: L.drop (j + 1) := List.drop_eq_getElem_cons hlt
      rw [List.eraseIdx_eq_take_drop_succ]
      have hnd' : ((L.take j ++ L[j] :: L.drop (j + 1)).map (·.key)).Nodup := by rw [← hd, e]; exact hnd
      conv => lhs; rw [← e, hd]
      simp only [List.map_append, List.map_cons, List.nodup_append, List.nodup_cons] at hnd'
      obtain ⟨_, ⟨hn2, _⟩, hn3⟩ := hnd'
      rw [List.filter_append, List.filter_cons]
      have f1 : (L.take j).filter (·.key != k) = L.take j := List.filter_eq_self.2 fun x hx => by
        have := hn3 x.key (List.mem_map_of_mem hx) L[j].key (by simp)
        rw [hkey] at this; simpa using this
      have f2 : (L.drop (j + 1)).filter (·.key != k) = L.drop (j + 1) := List.filter_eq_self.2 fun x hx => by
        have h5 : x.key ≠ L[j].key := fun h => hn2 (h ▸ List.mem_map_of_mem hx)
        rw [hkey] at h5; simpa using h5
      rw [f1, f2]
      simp [hkey]
    have h5 : (ents L).eraseIdxIfInBounds j = ents (L.filter (·.key != k)) := by
      rw [h4]
      simp [ents, List.eraseIdx_eq_take_drop_succ, List.map_take, List.map_drop]
    simp [setObj, Sem.run, hm, putObj, h5]

theorem run_range_map (ht : P.underlying t = some (.map kt et)) {m : Nat} {clock : Nat} {es : Array MapEntry} (hm : w.heap[m]? = some (.map es clock)) :
    (Instr.range t (.map (some m))).run P w = .ok (.pointer (some ⟨w.heap.size, 0, none⟩)) (w.alloc (.mapIter (some m) clock #[] clock)) := by
  unfold Instr.range
  simp [run_underlying ht, getObj, Sem.run, hm, newObj, World.alloc_eq]

/-- the entries that an iterator has not yet shown -/
def left (L : List En) (seen : Array Nat) : List En := L.filter fun e => !seen.contains e.born

theorem ents_left (L : List En) (seen : Array Nat) : (ents L).filter (fun e => !seen.contains e.born) = ents (left L seen) := by
  simp only [ents, left, List.filter_toArray, List.filter_map]
  congr 2

theorem run_next_over (ty : TypeId) {m r : Nat} {clock : Nat} {L : List En} {seen : Array Nat} (hm : w.heap[m]? = some (.map (ents L) clock))
    (hr : w.heap[r]? = some (.mapIter (some m) clock seen clock)) (hb : ∀ e ∈ L, e.born < clock) (hl : left L seen = []) :
    (Instr.next (.pointer (some ⟨r, 0, none⟩)) false ty).run P w = .ok (.tuple #[.bool false]) w := by
  have h1 : ((ents L).filter fun e => !seen.contains e.born) = #[] := by rw [ents_left, hl]; rfl
  have h2 : (!seen.isEmpty && !(ents L).isEmpty && (ents L).all fun x => decide (x.born ≥ clock)) = false := by
    cases L with
    | nil => simp [ents]
    | cons e L =>
      have := hb e (by simp)
      simp [ents, En.m]; intro _ hle; omega
  unfold Instr.next
  simp only [Sem.run_bind, getObj, Sem.run, hr, Result.andThen_ok, hm, h2, h1]
  simp [choose, Sem.run, Question.forced]

theorem run_next_entry (ty : TypeId) {m r : Nat} {clock : Nat} {L : List En} {seen : Array Nat} (hm : w.heap[m]? = some (.map (ents L) clock))
    (hr : w.heap[r]? = some (.mapIter (some m) clock seen clock)) (hb : ∀ e ∈ L, e.born < clock) (hl : left L seen ≠ []) :
    ∃ e n, e ∈ left L seen ∧
      (Instr.next (.pointer (some ⟨r, 0, none⟩)) false ty).run P w = .ok (.tuple #[.bool true, .string e.key, e.val]) (putObj (w.drewN n) r (.mapIter (some m) clock (seen.push e.born) clock)) := by
  have h0 : ((ents L).filter fun e => !seen.contains e.born) = ents (left L seen) := ents_left L seen
  have h2 : (!seen.isEmpty && !(ents L).isEmpty && (ents L).all fun x => decide (x.born ≥ clock)) = false := by
    cases L with
    | nil => simp [ents]
    | cons e L =>
      have := hb e (by simp)
      simp [ents, En.m]; intro _ hle; omega
  have hold : (ents (left L seen)).filter (fun x => decide (x.born < clock)) = ents (left L seen) := by
    simp only [ents, List.filter_toArray]
    congr 1
    refine List.filter_eq_self.2 fun x hx => ?_
    obtain ⟨e, he, rfl⟩ := List.mem_map.1 hx
    exact decide_eq_true (hb e (List.mem_filter.1 he).1)
  have hnew : (ents (left L seen)).filter (fun x => decide (x.born ≥ clock)) = #[] := by
    simp only [ents, List.filter_toArray]
    congr 1
    refine List.filter_eq_nil_iff.2 fun x hx => ?_
    obtain ⟨e, he, rfl⟩ := List.mem_map.1 hx
    have := hb e (List.mem_filter.1 he).1
    simp [En.m]; exact this
  have hemp : (ents (left L seen)).isEmpty = false := by
    cases h : left L seen with
    | nil => exact absurd h hl
    | cons e l => simp [ents]
  have hcand : ((if (ents (left L seen)).isEmpty then #[none] else #[]) ++ (ents (left L seen) ++ #[]).map some) = ((left L seen).map fun e => some e.m).toArray := by
    rw [hemp]; simp [ents]
  have hsz : 0 < (left L seen).length := List.length_pos_iff.2 hl
  unfold Instr.next
  simp only [Sem.run_bind, getObj, Sem.run, hr, Result.andThen_ok, hm, h2, h0, hold, hnew, hcand]
  by_cases hone : (left L seen).length ≤ 1
  · refine ⟨(left L seen)[0], 0, List.getElem_mem _, ?_⟩
    simp [choose, Sem.run, Question.forced, hone, setObj, hr, putObj, hsz, En.m, World.drewN]
  · refine ⟨(left L seen)[(w.tape w.drawn (.mapNext (left L seen).length)) % (left L seen).length]'(Nat.mod_lt _ hsz), 1, List.getElem_mem _, ?_⟩
    have hr' : w.drew.heap[r]? = some (.mapIter (some m) clock seen clock) := hr
    simp [choose, Sem.run, Question.forced, hone, Question.cut, setObj, hr', putObj, Nat.mod_lt _ hsz, En.m, World.drewN]

theorem run_entry_map {m r : Nat} {clock : Nat} {L : List En} {seen : Array Nat} (hm : w.heap[m]? = some (.map (ents L) clock))
    {e : En} (hr : w.heap[r]? = some (.mapIter (some m) clock (seen.push e.born) clock)) (he : e ∈ L) (hnd : (L.map (·.born)).Nodup) :
    (Instr.entry (.pointer (some ⟨r, 0, none⟩))).run P w = .ok (.tuple #[.string e.key, e.val]) w := by
  have hf : (ents L).find? (fun x => x.born == e.born) = some e.m := by
    simp only [ents, List.find?_toArray]
    clear hm hr
    induction L with
    | nil => cases he
    | cons x L ih =>
      simp only [List.map_cons, List.find?_cons]
      by_cases h : x.born = e.born
      · have hx : x = e := by
          rcases List.mem_cons.1 he with h' | h'
          · exact h'.symm
          · exfalso
            simp only [List.map_cons, List.nodup_cons] at hnd
            exact hnd.1 (h ▸ List.mem_map_of_mem h')
        subst hx; simp [En.m]
      · have h' : (x.m.born == e.born) = false := by simpa [En.m] using h
        rw [h']
        rcases List.mem_cons.1 he with h'' | h''
        · exact absurd (by rw [h'']) h
        · exact ih h'' (by simp only [List.map_cons, List.nodup_cons] at hnd; exact hnd.2) 
  unfold Instr.entry
  simp [getObj, Sem.run, hr, hm, hf, En.m]
end
end Go.Hp
namespace Go.Hp
open Go Go.RowKit
set_option linter.unusedVariables false

/-- a stop for the walk -/
def Stop (p : Prop) : Prop := p
theorem stop {p : Prop} (h : Stop p) : p := h
theorem go {p : Prop} (h : p) : Stop p := h

section
variable {P : Program} {ops : Array Oper} {rest : List Oper} {o : Oper} {a : Act} {w : World} {Q : Exit → Act → World → Prop}

theorem wpList_value {v : Value} {w' : World} (hg : o.guard = none) (hrun : (execOp a.eval o).run P w = .ok (.value v) w') (h : wpList P ops Q rest (a.put o.dst v) w') : wpList P ops Q (o :: rest) a w := by
  refine wpList_plain hg fun K hK => ?_
  unfold Oper.wp
  rw [hrun]
  exact hK _ _ h
theorem wpList_unit {w' : World} (hg : o.guard = none) (hrun : (execOp a.eval o).run P w = .ok .skip w') (h : wpList P ops Q rest (a.put o.dst undef) w') : wpList P ops Q (o :: rest) a w := by
  refine wpList_plain hg fun K hK => ?_
  unfold Oper.wp
  rw [hrun]
  exact hK _ _ h

theorem wpList_range_map (hg : o.guard = none) (t : TypeId) (x : Operand) (hop : o.op = .range t x) {kt et : TypeId} (ht : P.underlying t = some (.map kt et)) {m clock : Nat} {es : Array MapEntry}
    (hx : a.eval x = .map (some m)) (hm : w.heap[m]? = some (.map es clock))
    (h : wpList P ops Q rest (a.put o.dst (.pointer (some ⟨w.heap.size, 0, none⟩))) (w.alloc (.mapIter (some m) clock #[] clock))) : wpList P ops Q (o :: rest) a w := by
  refine wpList_value hg ?_ h
  simp only [execOp, hop, hx, Sem.run_bind, run_range_map w ht hm]
  rfl

theorem wpList_next_map (hg : o.guard = none) (x : Operand) (hop : o.op = .next x false) {m r clock : Nat} {L : List En} {seen : Array Nat}
    (hx : a.eval x = .pointer (some ⟨r, 0, none⟩)) (hm : w.heap[m]? = some (.map (ents L) clock)) (hr : w.heap[r]? = some (.mapIter (some m) clock seen clock)) (hb : ∀ e ∈ L, e.born < clock)
    (h0 : left L seen = [] → wpList P ops Q rest (a.put o.dst (.tuple #[.bool false])) w)
    (h1 : ∀ e w1, e ∈ left L seen → Chg (· = r) w w1 → w1.heap[r]? = some (.mapIter (some m) clock (seen.push e.born) clock) → w1.heap.size = w.heap.size →
      wpList P ops Q rest (a.put o.dst (.tuple #[.bool true, .string e.key, e.val])) w1) : wpList P ops Q (o :: rest) a w := by
  by_cases hl : left L seen = []
  · refine wpList_value hg ?_ (h0 hl)
    simp only [execOp, hop, hx, Sem.run_bind, run_next_over w o.type hm hr hb hl]
    rfl
  · obtain ⟨e, n, he, hrun⟩ := run_next_entry (P := P) w o.type hm hr hb hl
    refine wpList_value (w' := putObj (w.drewN n) r (.mapIter (some m) clock (seen.push e.born) clock)) hg ?_ (h1 e _ he ?_ ?_ ?_)
    · simp only [execOp, hop, hx, Sem.run_bind, hrun]
      rfl
    · exact ((Chg.refl (· = r) w).drewN n).trans (putObj_chg (w.drewN n)) fun k hk => .inl hk
    · exact putObj_same _ (hlt_of hr)
    · simp [putObj]

theorem wpList_entry_map (hg : o.guard = none) (x : Operand) (hop : o.op = .entry x) {m r clock : Nat} {L : List En} {seen : Array Nat} {e : En}
    (hx : a.eval x = .pointer (some ⟨r, 0, none⟩)) (hm : w.heap[m]? = some (.map (ents L) clock)) (hr : w.heap[r]? = some (.mapIter (some m) clock (seen.push e.born) clock)) (he : e ∈ L) (hnd : (L.map (·.born)).Nodup)
    (h : wpList P ops Q rest (a.put o.dst (.tuple #[.string e.key, e.val])) w) : wpList P ops Q (o :: rest) a w := by
  refine wpList_value hg ?_ h
  simp only [execOp, hop, hx, Sem.run_bind, run_entry_map w hm hr he hnd]
  rfl

theorem wpList_store_map (hg : o.guard = none) (t : TypeId) (x k v : Operand) (hop : o.op = .mapUpdate t x k v) {kt et : TypeId} (ht : P.underlying t = some (.map kt et)) (hk : P.underlying kt = some .string)
    {m clock : Nat} {L : List En} {key : ByteArray} (hx : a.eval x = .map (some m)) (hkey : a.eval k = .string key) (hm : w.heap[m]? = some (.map (ents L) clock)) (hnew : ∀ e ∈ L, e.key ≠ key)
    (h : ∀ w1, Chg (· = m) w w1 → w1.heap[m]? = some (.map (ents (L ++ [⟨key, a.eval v, clock⟩])) (clock + 1)) → w1.heap.size = w.heap.size → wpList P ops Q rest (a.put o.dst undef) w1) : wpList P ops Q (o :: rest) a w := by
  refine wpList_unit hg ?_ (h (putObj w m (.map (ents (L ++ [⟨key, a.eval v, clock⟩])) (clock + 1))) (putObj_chg w) (putObj_same w (hlt_of hm)) (by simp [putObj]))
  simp only [execOp, hop, hx, hkey, Sem.run_bind, run_store_str w ht hk hm key (a.eval v) hnew]
  rfl

theorem wpList_delete_map (hg : o.guard = none) (t kt : TypeId) (x k : Operand) (hop : o.op = .call { callee := .builtin .delete, args := #[x, k], argTypes := #[t, kt] }) {et : TypeId} (ht : P.underlying t = some (.map kt et)) (hk : P.underlying kt = some .string)
    {m clock : Nat} {L : List En} {key : ByteArray} (hx : a.eval x = .map (some m)) (hkey : a.eval k = .string key) (hm : w.heap[m]? = some (.map (ents L) clock)) (hnd : (L.map (·.key)).Nodup)
    (h : ∀ w1, Chg (· = m) w w1 → w1.heap[m]? = some (.map (ents (L.filter (·.key != key))) clock) → w1.heap.size = w.heap.size → wpList P ops Q rest (a.put o.dst (.tuple #[])) w1) : wpList P ops Q (o :: rest) a w := by
  refine wpList_value hg ?_ (h (putObj w m (.map (ents (L.filter (·.key != key))) clock)) (putObj_chg w) (putObj_same w (hlt_of hm)) (by simp [putObj]))
  have hr := run_delete_str (P := P) w o.type ht hk hm key hnd
  simp [execOp, hop, resolve, invoke, builtin, hx, hkey, hr, Result.andThen]

theorem wpList_append_oc (hg : o.guard = none) (s x : Operand) (t : TypeId) (hop : o.op = .call { callee := .builtin .append, args := #[s, x], argTypes := #[t, t] })
    (E : TypeId) (i : TypeInfo) (z : Value) (k bytes : Nat) (ht : P.underlying t = some (.slice E)) (hi : P.info? E = some i) (hz : i.zero = some z)
    (hsize : i.size = k) (hby : i.bytes = bytes) (hzs : z.cells.size = k) (hk : 0 < k) {v y : Value} {n m : Nat} {cs ns : List Value} (hs : a.eval s = v) (hx : a.eval x = y)
    (hv : OC w k E v n cs) (hy : RC w k y m ns) (h1 : ∀ u ∈ ns, u.oneCell' = true) (hb1 : 0 < bytes) (hbytes : (n + m) * bytes ≤ 140737488355328)
    (h : ∀ v' w', OC w' k E v' (n + m) (cs ++ ns) → Chg (fun b => sblk v = some b) w w' → (∀ b, sblk v' = some b → sblk v = some b ∨ w.heap.size ≤ b) →
      (v' = .slice none 0 0 ↔ v = .slice none 0 0 ∧ m = 0) → wpList P ops Q rest (a.put o.dst v') w') : wpList P ops Q (o :: rest) a w := by
  obtain ⟨v', w', hrun, r1, r2, r3, r4⟩ := run_append_any (P := P) w t o.type E i z k bytes ht hi hz hsize hby hzs hk hv hy h1 hb1 hbytes
  refine wpList_value hg ?_ (h v' w' r1 r2 r3 r4)
  subst hs hx
  simp [execOp, hop, resolve, invoke, builtin, hrun, Result.andThen]
end
end Go.Hp
namespace Go.Dr
open Go Go.RowKit Go.Hp Go.Dm
set_option linter.unusedVariables false

/-- a file as it lies: its name, its block, its slice, the bytes, how many are durable, the entry's stamp -/
structure Raw where
  name : ByteArray
  f : Nat
  sv : Value
  bytes : List UInt8
  sure : Nat
  born : Nat

def Raw.fl (r : Raw) : Fl := ⟨r.name, r.bytes, r.sure⟩
def Raw.en (r : Raw) : En := ⟨r.name, .pointer (some ⟨r.f, 0, none⟩), r.born⟩
def Raw.blks (r : Raw) : List Nat := r.f :: (sblk r.sv).toList
def blks (L : List Raw) : List Nat := L.flatMap Raw.blks

structure RawOk (w : World) (r : Raw) : Prop where
  cells : w.heap[r.f]? = some (.cells #[r.sv, .int .i64 (r.sure : Int)] 85 (0, 0))
  own : OB w 5 r.sv r.bytes

def headCells (m : Nat) (D : Dk) : Array Value := #[.int .i64 (D.limit : Int), .int .i64 (D.used : Int), .map (some m), .bool D.down, .int .i64 (D.steps : Int), .int .i64 D.keep]

structure DRaw (w : World) (d m : Nat) (D : Dk) (L : List Raw) (clock : Nat) : Prop where
  head : w.heap[d]? = some (.cells (headCells m D) 56 (0, 0))
  map : w.heap[m]? = some (.map (ents (L.map Raw.en)) clock)
  raws : ∀ r ∈ L, RawOk w r
  nodup : (d :: m :: blks L).Nodup
  perm : (L.map Raw.fl).Perm D.files
  stamps : (L.map (·.born)).Nodup
  young : ∀ r ∈ L, r.born < clock
  ok : D.Ok

/-- the disk D lies at block d, its blocks are F -/
def DRep (w : World) (d : Nat) (D : Dk) (F : List Nat) : Prop := ∃ m L clock, DRaw w d m D L clock ∧ F = d :: m :: blks L

section
variable {w w' : World} {d m : Nat} {D : Dk} {L : List Raw} {clock : Nat} {r : Raw}

theorem RawOk.keep (h : RawOk w r) (hk : ∀ k ∈ r.blks, w'.heap[k]? = w.heap[k]?) : RawOk w' r :=
  ⟨(hk _ (by simp [Raw.blks])).trans h.cells, OC.keep h.own fun b hb => hk b (by simp [Raw.blks, hb])⟩

theorem DRaw.keep (h : DRaw w d m D L clock) (hk : ∀ k ∈ d :: m :: blks L, w'.heap[k]? = w.heap[k]?) : DRaw w' d m D L clock :=
  { h with
    head := (hk _ (by simp)).trans h.head
    map := (hk _ (by simp)).trans h.map
    raws := fun r hr => (h.raws r hr).keep fun k hk' => hk k (by simp only [List.mem_cons]; exact .inr (.inr (List.mem_flatMap.2 ⟨r, hr, hk'⟩))) }

theorem DRaw.drewN (h : DRaw w d m D L clock) (n : Nat) : DRaw (w.drewN n) d m D L clock := h.keep fun _ _ => rfl

theorem DRaw.lt (h : DRaw w d m D L clock) : ∀ k ∈ d :: m :: blks L, k < w.heap.size := by
  intro k hk
  rcases List.mem_cons.1 hk with rfl | hk
  · exact hlt_of h.head
  · rcases List.mem_cons.1 hk with rfl | hk
    · exact hlt_of h.map
    · obtain ⟨r, hr, hk⟩ := List.mem_flatMap.1 hk
      rcases List.mem_cons.1 hk with rfl | hk
      · exact hlt_of (h.raws r hr).cells
      · exact OC.lt (h.raws r hr).own (by simpa using hk)

theorem DRaw.chg {F : Nat → Prop} (h : DRaw w d m D L clock) (hc : Chg F w w') (hF : ∀ k ∈ d :: m :: blks L, ¬ F k) : DRaw w' d m D L clock :=
  h.keep fun k hk => hc.block k (h.lt k hk) (hF k hk)

theorem DRep.keep {F : List Nat} (h : DRep w d D F) (hk : ∀ k ∈ F, w'.heap[k]? = w.heap[k]?) : DRep w' d D F := by
  obtain ⟨m, L, clock, h, rfl⟩ := h
  exact ⟨m, L, clock, h.keep hk, rfl⟩
theorem DRep.lt {F : List Nat} (h : DRep w d D F) : ∀ k ∈ F, k < w.heap.size := by
  obtain ⟨m, L, clock, h, rfl⟩ := h
  exact h.lt
theorem DRep.ok {F : List Nat} (h : DRep w d D F) : D.Ok := by obtain ⟨m, L, clock, h, rfl⟩ := h; exact h.ok
theorem DRep.chg {F : List Nat} {G : Nat → Prop} (h : DRep w d D F) (hc : Chg G w w') (hF : ∀ k ∈ F, ¬ G k) : DRep w' d D F :=
  h.keep fun k hk => hc.block k (h.lt k hk) (hF k hk)

/-- the cells of the head -/
theorem DRaw.cells (h : DRaw w d m D L clock) :
    w.cell? ⟨d, 0, none⟩ = some (.int .i64 (D.limit : Int)) ∧ w.cell? ⟨d, 1, none⟩ = some (.int .i64 (D.used : Int)) ∧ w.cell? ⟨d, 2, none⟩ = some (.map (some m)) ∧
    w.cell? ⟨d, 3, none⟩ = some (.bool D.down) ∧ w.cell? ⟨d, 4, none⟩ = some (.int .i64 (D.steps : Int)) ∧ w.cell? ⟨d, 5, none⟩ = some (.int .i64 D.keep) ∧
    (∀ i, w.frozen? ⟨d, i, none⟩ = false) :=
  ⟨by rw [hcell_of h.head]; rfl, by rw [hcell_of h.head]; rfl, by rw [hcell_of h.head]; rfl, by rw [hcell_of h.head]; rfl, by rw [hcell_of h.head]; rfl, by rw [hcell_of h.head]; rfl, fun i => hfree_of h.head i⟩

theorem RawOk.cell0 (h : RawOk w r) : w.cell? ⟨r.f, 0, none⟩ = some r.sv := by rw [hcell_of h.cells]; rfl
theorem RawOk.cell1 (h : RawOk w r) : w.cell? ⟨r.f, 1, none⟩ = some (.int .i64 (r.sure : Int)) := by rw [hcell_of h.cells]; rfl
theorem RawOk.free (h : RawOk w r) (i : Nat) : w.frozen? ⟨r.f, i, none⟩ = false := hfree_of h.cells i

theorem DRaw.names (h : DRaw w d m D L clock) : (L.map (·.name)).Nodup := by
  have h1 := (h.perm.map (·.name)).nodup_iff.2 h.ok.sorted.nodup
  simpa [List.map_map, Function.comp_def, Raw.fl] using h1

/-- a file of that name: found among the raw ones -/
theorem DRaw.get_some (h : DRaw w d m D L clock) {nm : ByteArray} {f : Fl} (hg : get D.files nm = some f) : ∃ r ∈ L, r.name = nm ∧ r.fl = f := by
  obtain ⟨h1, h2⟩ := Dm.get_some hg
  obtain ⟨r, hr, rfl⟩ := List.mem_map.1 (h.perm.symm.subset h1)
  exact ⟨r, hr, h2, rfl⟩
theorem DRaw.get_of (h : DRaw w d m D L clock) (hr : r ∈ L) : get D.files r.name = some r.fl := by
  have h1 : r.fl ∈ D.files := h.perm.subset (List.mem_map_of_mem hr)
  exact get_of_mem h.ok.sorted.nodup h1
theorem DRaw.get_none (h : DRaw w d m D L clock) {nm : ByteArray} (hg : get D.files nm = none) : ∀ r ∈ L, r.name ≠ nm := fun r hr e => by
  have := h.get_of hr
  rw [e, hg] at this; cases this

theorem find_en {L : List Raw} (hn : (L.map (·.name)).Nodup) (hr : r ∈ L) : (L.map Raw.en).find? (·.key == r.name) = some r.en := by
  induction L with
  | nil => cases hr
  | cons x L ih =>
    simp only [List.map_cons, List.nodup_cons] at hn
    simp only [List.map_cons, List.find?_cons]
    rcases List.mem_cons.1 hr with rfl | hr
    · simp [Raw.en]
    · have : x.name ≠ r.name := fun e => hn.1 (e ▸ List.mem_map_of_mem hr)
      have h1 : (x.en.key == r.name) = false := by simpa [Raw.en] using this
      rw [h1]; exact ih hn.2 hr
theorem find_en_none {L : List Raw} {nm : ByteArray} (h : ∀ r ∈ L, r.name ≠ nm) : (L.map Raw.en).find? (·.key == nm) = none := by
  rw [List.find?_eq_none]
  intro e he
  obtain ⟨r, hr, rfl⟩ := List.mem_map.1 he
  simpa [Raw.en] using h r hr

/-- the blocks: none is another's -/
theorem DRaw.ne_dm (h : DRaw w d m D L clock) : d ≠ m := by
  have := h.nodup; simp only [List.nodup_cons, List.mem_cons, not_or] at this; exact this.1.1
theorem DRaw.ne_d (h : DRaw w d m D L clock) (hr : r ∈ L) {k : Nat} (hk : k ∈ r.blks) : k ≠ d := fun e => by
  have := h.nodup; simp only [List.nodup_cons, List.mem_cons, not_or] at this
  exact this.1.2 (List.mem_flatMap.2 ⟨r, hr, e ▸ hk⟩)
theorem DRaw.ne_m (h : DRaw w d m D L clock) (hr : r ∈ L) {k : Nat} (hk : k ∈ r.blks) : k ≠ m := fun e => by
  have := h.nodup; simp only [List.nodup_cons, List.mem_cons, not_or] at this
  exact this.2.1 (List.mem_flatMap.2 ⟨r, hr, e ▸ hk⟩)
theorem DRaw.sblk_ne (h : DRaw w d m D L clock) (hr : r ∈ L) : sblk r.sv ≠ some r.f := fun e => by
  have h1 : (blks L).Nodup := by have := h.nodup; simp only [List.nodup_cons] at this; exact this.2.2
  obtain ⟨A, B, rfl⟩ := List.append_of_mem hr
  have : (r.blks).Nodup := by
    unfold blks at h1
    rw [List.flatMap_append, List.flatMap_cons, List.nodup_append] at h1
    exact (List.nodup_append.1 h1.2.1).1
  simp [Raw.blks, e] at this
theorem DRaw.nodup_blks (h : DRaw w d m D L clock) : (blks L).Nodup := by
  have := h.nodup; simp only [List.nodup_cons] at this; exact this.2.2

/-- where a raw file stands: what is ahead of it, it, what is behind -/
theorem split_of {L : List Raw} (hr : r ∈ L) : ∃ A B, L = A ++ r :: B := List.append_of_mem hr

theorem blks_append (A B : List Raw) : blks (A ++ B) = blks A ++ blks B := by simp [blks]
theorem blks_cons (r : Raw) (B : List Raw) : blks (r :: B) = r.blks ++ blks B := by simp [blks]

/-- the head alone is written -/
theorem DRaw.setHead (h : DRaw w d m D L clock) (D' : Dk) (hw : Chg (· = d) w w') (hh : w'.heap[d]? = some (.cells (headCells m D') 56 (0, 0)))
    (hf : D'.files = D.files) (ok : D'.Ok) : DRaw w' d m D' L clock := by
  have hl := h.lt
  refine { head := hh, map := ?_, raws := fun r hr => (h.raws r hr).keep fun k hk => hw.block k (hl k ?_) (h.ne_d hr hk), nodup := h.nodup, perm := hf ▸ h.perm, stamps := h.stamps, young := h.young, ok := ok }
  · rw [hw.block m (hl m (by simp)) (fun e => h.ne_dm e.symm)]; exact h.map
  · simp only [List.mem_cons]; exact .inr (.inr (List.mem_flatMap.2 ⟨r, hr, hk⟩))

/-- one raw file turned into another -/
def rep (r' : Raw) (L : List Raw) : List Raw := L.map fun x => if x.name = r'.name then r' else x

theorem rep_split {L : List Raw} (hn : (L.map (·.name)).Nodup) (hr : r ∈ L) {r' : Raw} (he : r'.name = r.name) :
    ∃ A B, L = A ++ r :: B ∧ rep r' L = A ++ r' :: B ∧ (∀ x ∈ A, x.name ≠ r.name) ∧ (∀ x ∈ B, x.name ≠ r.name) := by
  obtain ⟨A, B, rfl⟩ := split_of hr
  simp only [List.map_append, List.map_cons, List.nodup_append, List.nodup_cons] at hn
  obtain ⟨_, ⟨h2, _⟩, h3⟩ := hn
  have hA : ∀ x ∈ A, x.name ≠ r.name := fun x hx => h3 x.name (List.mem_map_of_mem hx) r.name (by simp)
  have hB : ∀ x ∈ B, x.name ≠ r.name := fun x hx e => h2 (e ▸ List.mem_map_of_mem hx)
  refine ⟨A, B, rfl, ?_, hA, hB⟩
  have f : ∀ l : List Raw, (∀ x ∈ l, x.name ≠ r.name) → l.map (fun x => if x.name = r'.name then r' else x) = l := fun l hl => by
    conv => rhs; rw [← List.map_id l]
    exact List.map_congr_left fun x hx => by rw [if_neg (by rw [he]; exact hl x hx)]; rfl
  simp only [rep, List.map_append, List.map_cons, f A hA, f B hB]
  rw [if_pos he.symm]

theorem upd_perm {l l' : List Fl} (hp : l.Perm l') (nm : ByteArray) (g : Fl → Fl) : (upd nm g l).Perm (upd nm g l') := hp.map _

theorem upd_other {nm : ByteArray} {g : Fl → Fl} {l : List Fl} (h : ∀ f ∈ l, f.name ≠ nm) : upd nm g l = l := by
  conv => rhs; rw [← List.map_id l]
  exact List.map_congr_left fun x hx => by rw [if_neg (h x hx)]; rfl

/-- a file's bytes, or how many of them are durable, have changed; its block, its name, its entry have not -/
theorem DRaw.setFile (h : DRaw w d m D L clock) (hr : r ∈ L) {r' : Raw} {D' : Dk} {g : Fl → Fl} (hn : r'.name = r.name) (hfb : r'.f = r.f) (hb : r'.born = r.born)
    (hw : Chg (fun k => k ∈ r.blks ∨ k = d) w w') (hh : w'.heap[d]? = some (.cells (headCells m D') 56 (0, 0)))
    (hr' : RawOk w' r') (hs : ∀ b, sblk r'.sv = some b → sblk r.sv = some b ∨ w.heap.size ≤ b)
    (hf : D'.files = upd r.name g D.files) (hg : g r.fl = r'.fl) (ok : D'.Ok) :
    DRaw w' d m D' (rep r' L) clock ∧ ∀ k ∈ d :: m :: blks (rep r' L), k ∈ d :: m :: blks L ∨ w.heap.size ≤ k := by
  have hl := h.lt
  have hnd := h.nodup
  have hnb := h.nodup_blks
  obtain ⟨A, B, rfl, e, hA, hB⟩ := rep_split h.names hr hn
  rw [e]
  have hnew : ∀ k ∈ r'.blks, k ∈ r.blks ∨ w.heap.size ≤ k := fun k hk => by
    rcases List.mem_cons.1 hk with rfl | hk
    · exact .inl (by rw [hfb]; simp [Raw.blks])
    · rcases hs k (by simpa using hk) with h' | h'
      · exact .inl (by simp [Raw.blks, h'])
      · exact .inr h'
  have hsub : ∀ k ∈ d :: m :: blks (A ++ r' :: B), k ∈ d :: m :: blks (A ++ r :: B) ∨ w.heap.size ≤ k := fun k hk => by
    simp only [List.mem_cons, blks_append, blks_cons, List.mem_append] at hk ⊢
    rcases hk with hk | hk | hk | hk | hk
    · exact .inl (.inl hk)
    · exact .inl (.inr (.inl hk))
    · exact .inl (.inr (.inr (.inl hk)))
    · exact (hnew k hk).imp (fun h' => .inr (.inr (.inr (.inl h')))) id
    · exact .inl (.inr (.inr (.inr (.inr hk))))
  have hin : ∀ x ∈ A ++ r :: B, ∀ k ∈ x.blks, k < w.heap.size := fun x hx k hk => hl k (by simp only [List.mem_cons]; exact .inr (.inr (List.mem_flatMap.2 ⟨x, hx, hk⟩)))
  -- another file's blocks are none of r's
  have hoth : ∀ x, (x ∈ A ∨ x ∈ B) → ∀ k ∈ x.blks, k ∉ r.blks := fun x hx k hk hkr => by
    rw [blks_append, blks_cons, List.nodup_append] at hnb
    obtain ⟨_, h2, h3⟩ := hnb
    rw [List.nodup_append] at h2
    rcases hx with hx | hx
    · exact h3 k (List.mem_flatMap.2 ⟨x, hx, hk⟩) k (List.mem_append.2 (.inl hkr)) rfl
    · exact h2.2.2 k hkr k (List.mem_flatMap.2 ⟨x, hx, hk⟩) rfl
  have hr'nd : r'.blks.Nodup := by
    unfold Raw.blks
    rw [List.nodup_cons]
    refine ⟨fun hk => ?_, ?_⟩
    · have hk : sblk r'.sv = some r'.f := by simpa using hk
      rcases hs _ hk with h' | h'
      · rw [hfb] at h'
        have : r.blks.Nodup := by
          rw [blks_append, blks_cons, List.nodup_append] at hnb
          exact (List.nodup_append.1 hnb.2.1).1
        simp [Raw.blks, h'] at this
      · have := hin r (by simp) r.f (by simp [Raw.blks])
        rw [hfb] at h'; omega
    · cases sblk r'.sv <;> simp
  refine ⟨{ head := hh, map := ?_, raws := fun x hx => ?_, nodup := ?_, perm := ?_, stamps := ?_, young := ?_, ok := ok }, hsub⟩
  · have hm : w'.heap[m]? = w.heap[m]? := hw.block m (hl m (by simp)) (fun e => e.elim (fun e => h.ne_m hr e rfl) (fun e => h.ne_dm e.symm))
    have hen : (A ++ r' :: B).map Raw.en = (A ++ r :: B).map Raw.en := by simp [Raw.en, hn, hfb, hb]
    rw [hm, hen]; exact h.map
  · rcases List.mem_append.1 hx with hx' | hx'
    · refine (h.raws x (by simp [hx'])).keep fun k hk => hw.block k (hin x (by simp [hx']) k hk) ?_
      exact fun e => e.elim (hoth x (.inl hx') k hk) (h.ne_d (by simp [hx']) hk)
    · rcases List.mem_cons.1 hx' with rfl | hx'
      · exact hr'
      · refine (h.raws x (by simp [hx'])).keep fun k hk => hw.block k (hin x (by simp [hx']) k hk) ?_
        exact fun e => e.elim (hoth x (.inr hx') k hk) (h.ne_d (by simp [hx']) hk)
  · simp only [List.nodup_cons, List.mem_cons, not_or, blks_append, blks_cons, List.mem_append, List.nodup_append] at hnd ⊢
    obtain ⟨⟨h1, h2, h3, h4⟩, ⟨h5, h6, h7⟩, h8, ⟨h9, h10, h11⟩, h12⟩ := hnd
    have nl : ∀ k, k < w.heap.size → k ∉ r.blks → k ∉ r'.blks := fun k hk hn hk' => (hnew k hk').elim hn (fun h' => by omega)
    have hdlt : d < w.heap.size := hl d (by simp)
    have hmlt : m < w.heap.size := hl m (by simp)
    have hBlt : ∀ k ∈ blks B, k < w.heap.size := fun k hk => hl k (by simp [blks_append, blks_cons, hk])
    have hAlt : ∀ k ∈ blks A, k < w.heap.size := fun k hk => hl k (by simp [blks_append, blks_cons, hk])
    refine ⟨⟨h1, h2, nl d hdlt h3, h4⟩, ⟨h5, nl m hmlt h6, h7⟩, h8, ⟨hr'nd, h10, fun a ha b hb' e => ?_⟩, fun a ha b hb' e => ?_⟩
    · subst e
      exact nl a (hBlt a hb') (fun ha' => h11 a ha' a hb' rfl) ha
    · subst e
      rcases hb' with hb' | hb'
      · exact nl a (hAlt a ha) (fun h' => h12 a ha a (.inl h') rfl) hb'
      · exact h12 a ha a (.inr hb') rfl
  · rw [hf]
    have hp := upd_perm h.perm r.name g
    have e2 : upd r.name g ((A ++ r :: B).map Raw.fl) = (A ++ r' :: B).map Raw.fl := by
      have a1 : ∀ l : List Raw, (∀ x ∈ l, x.name ≠ r.name) → upd r.name g (l.map Raw.fl) = l.map Raw.fl := fun l hl => upd_other fun f hf => by
        obtain ⟨x, hx, rfl⟩ := List.mem_map.1 hf; exact hl x hx
      have e3 : ∀ l l' : List Fl, upd r.name g (l ++ l') = upd r.name g l ++ upd r.name g l' := fun l l' => by simp [upd]
      rw [List.map_append, e3, a1 A hA, List.map_cons]
      have e4 : upd r.name g (r.fl :: B.map Raw.fl) = g r.fl :: upd r.name g (B.map Raw.fl) := by simp [upd, Raw.fl]
      rw [e4, a1 B hB, hg]; simp
    rw [e2] at hp; exact hp
  · have : (A ++ r' :: B).map (·.born) = (A ++ r :: B).map (·.born) := by simp [hb]
    rw [this]; exact h.stamps
  · intro x hx
    rcases List.mem_append.1 hx with hx' | hx'
    · exact h.young x (by simp [hx'])
    · rcases List.mem_cons.1 hx' with rfl | hx'
      · rw [hb]; exact h.young r (by simp)
      · exact h.young x (by simp [hx'])

/-- a new file -/
theorem DRaw.newFile (h : DRaw w d m D L clock) {r' : Raw} {D' : Dk} (hnew : get D.files r'.name = none) (hb : r'.born = clock)
    (hw : Chg (· = m) w w') (hh : w'.heap[d]? = some (.cells (headCells m D') 56 (0, 0)))
    (hm : w'.heap[m]? = some (.map (ents ((L ++ [r']).map Raw.en)) (clock + 1)))
    (hr' : RawOk w' r') (hs : ∀ k ∈ r'.blks, w.heap.size ≤ k) (hnd : r'.blks.Nodup) (hf : D'.files.Perm (r'.fl :: D.files)) (ok : D'.Ok) :
    DRaw w' d m D' (L ++ [r']) (clock + 1) ∧ ∀ k ∈ d :: m :: blks (L ++ [r']), k ∈ d :: m :: blks L ∨ w.heap.size ≤ k := by
  have hl := h.lt
  refine ⟨{ head := hh, map := hm, raws := fun x hx => ?_, nodup := ?_, perm := ?_, stamps := ?_, young := ?_, ok := ok }, ?_⟩
  · rcases List.mem_append.1 hx with hx | hx
    · exact (h.raws x hx).keep fun k hk => hw.block k (hl k (by simp only [List.mem_cons]; exact .inr (.inr (List.mem_flatMap.2 ⟨x, hx, hk⟩)))) (h.ne_m hx hk)
    · obtain rfl : x = r' := by simpa using hx
      exact hr'
  · have hnd' := h.nodup
    simp only [List.nodup_cons, List.mem_cons, not_or] at hnd' ⊢
    have hlt : ∀ k, k < w.heap.size → k ∉ r'.blks := fun k hk hk' => by have := hs k hk'; omega
    have e : blks (L ++ [r']) = blks L ++ r'.blks := by simp [blks]
    rw [e]
    simp only [List.mem_append, not_or, List.nodup_append]
    exact ⟨⟨hnd'.1.1, hnd'.1.2, hlt d (hl d (by simp))⟩, ⟨hnd'.2.1, hlt m (hl m (by simp))⟩, hnd'.2.2, hnd, fun a ha b hb' e => hlt a (hl a (by simp [ha])) (e ▸ hb')⟩
  · have : (L ++ [r']).map Raw.fl = L.map Raw.fl ++ [r'.fl] := by simp
    rw [this]
    exact (List.perm_append_comm.trans ((h.perm.cons r'.fl))).trans hf.symm
  · simp only [List.map_append, List.map_cons, List.map_nil, List.nodup_append]
    refine ⟨h.stamps, by simp, fun a ha b hb' => ?_⟩
    obtain ⟨x, hx, rfl⟩ := List.mem_map.1 ha
    have := h.young x hx
    simp at hb'; subst hb'; omega
  · intro x hx
    rcases List.mem_append.1 hx with hx | hx
    · have := h.young x hx; omega
    · obtain rfl : x = r' := by simpa using hx
      omega
  · intro k hk
    simp only [List.mem_cons, blks, List.flatMap_append, List.mem_append, List.flatMap_cons, List.flatMap_nil, List.append_nil] at hk ⊢
    rcases hk with hk | hk | hk | hk
    · exact .inl (.inl hk)
    · exact .inl (.inr (.inl hk))
    · exact .inl (.inr (.inr hk))
    · exact .inr (hs k hk)

/-- a file goes -/
theorem DRaw.delFile (h : DRaw w d m D L clock) (nm : ByteArray) {D' : Dk} (hw : Chg (fun k => k = m ∨ k = d) w w')
    (hh : w'.heap[d]? = some (.cells (headCells m D') 56 (0, 0)))
    (hm : w'.heap[m]? = some (.map (ents ((L.map Raw.en).filter (·.key != nm))) clock)) (hf : D'.files = del nm D.files) (ok : D'.Ok) :
    DRaw w' d m D' (L.filter (·.name != nm)) clock ∧ ∀ k ∈ d :: m :: blks (L.filter (·.name != nm)), k ∈ d :: m :: blks L := by
  have hl := h.lt
  have hsub : ∀ k ∈ blks (L.filter (·.name != nm)), k ∈ blks L := fun k hk => by
    obtain ⟨x, hx, hk⟩ := List.mem_flatMap.1 hk
    exact List.mem_flatMap.2 ⟨x, (List.mem_filter.1 hx).1, hk⟩
  have hsl : (blks (L.filter (·.name != nm))).Sublist (blks L) := by
    unfold blks
    clear hsub hm hw hh hl
    induction L with
    | nil => exact List.Sublist.refl _
    | cons x L ih =>
      have ih' : (List.flatMap Raw.blks (L.filter (·.name != nm))).Sublist (List.flatMap Raw.blks L) := by
        clear h ih
        induction L with
        | nil => exact List.Sublist.refl _
        | cons y L ih =>
          rw [List.filter_cons]
          split
          · simpa using ih
          · exact ih.trans (by simp)
      rw [List.filter_cons]
      split
      · simpa using ih'
      · exact ih'.trans (by simp)
  refine ⟨{ head := hh, map := ?_, raws := fun x hx => ?_, nodup := ?_, perm := ?_, stamps := ?_, young := fun x hx => h.young x (List.mem_filter.1 hx).1, ok := ok }, ?_⟩
  · rw [hm]
    congr 3
    rw [List.filter_map]; rfl
  · have hx := (List.mem_filter.1 hx).1
    exact (h.raws x hx).keep fun k hk => hw.block k (hl k (by simp only [List.mem_cons]; exact .inr (.inr (List.mem_flatMap.2 ⟨x, hx, hk⟩)))) (fun e => e.elim (h.ne_m hx hk) (h.ne_d hx hk))
  · exact h.nodup.sublist ((hsl.cons_cons m).cons_cons d)
  · rw [hf]
    have := h.perm.filter (fun f => decide (f.name ≠ nm))
    rw [List.filter_map] at this
    refine List.Perm.trans (List.Perm.of_eq ?_) this
    congr 1
    exact List.filter_congr fun x _ => by by_cases e : x.name = nm <;> simp [Function.comp, Raw.fl, e]
  · exact h.stamps.sublist ((List.filter_sublist).map _)
  · intro k hk
    simp only [List.mem_cons] at hk ⊢
    exact hk.imp id (fun hk => hk.imp id (hsub k))
end
end Go.Dr
namespace Go.Dr
open Go Go.RowKit Go.Hp Go.Dm
set_option linter.unusedVariables false

/-- a block's object with one cell stored -/
def objSet (i : Nat) (v : Value) : Obj → Obj
  | .cells c e fz => .cells (c.setIfInBounds i v) e fz
  | o => o
theorem hset (w : World) (b i k : Nat) (v : Value) : (w.setCell ⟨b, i, none⟩ v).heap[k]? = if k = b then (w.heap[k]?).map (objSet i v) else w.heap[k]? := by
  by_cases h : k = b
  · subst h
    simp only [World.setCell, Array.getElem?_modify, if_true]
    cases w.heap[k]? with
    | none => rfl
    | some o => cases o <;> rfl
  · rw [if_neg h]; exact hset_other h
theorem hput (w : World) (m k : Nat) (o : Obj) (hm : m < w.heap.size) : (putObj w m o).heap[k]? = if k = m then some o else w.heap[k]? := by
  by_cases h : k = m
  · subst h; rw [if_pos rfl]; exact putObj_same w hm
  · rw [if_neg h]; exact putObj_other w h
theorem halloc (w : World) (k : Nat) (o : Obj) : (w.alloc o).heap[k]? = if k = w.heap.size then some o else w.heap[k]? := by
  by_cases h : k = w.heap.size
  · subst h; rw [if_pos rfl]; exact halloc_at w o
  · rw [if_neg h]
    show (w.heap.push o)[k]? = w.heap[k]?
    rw [Array.getElem?_push, if_neg h]
theorem hdrew (w : World) (n k : Nat) : (w.drewN n).heap[k]? = w.heap[k]? := rfl

/-- a slice cut to n -/
def reslice (v : Value) (n : Nat) : Value := match v with | .slice p _ c => .slice p n c | v => v
theorem sblk_reslice (v : Value) (n : Nat) : sblk (reslice v n) = sblk v := by
  cases v <;> try rfl
  rename_i p l c
  cases p <;> cases c <;> rfl
theorem OB_reslice {w : World} {E : TypeId} {v : Value} {l : List UInt8} (h : OB w E v l) (n : Nat) (hn : n ≤ l.length) : OB w E (reslice v n) (l.take n) := by
  obtain ⟨p, c, rfl, h1, h2, h3, h4⟩ := h
  have hl : (l.take n).length = n := by simp; omega
  refine ⟨p, c, by simp only [reslice, hl], by omega, h2, by simp, fun hc => ?_⟩
  obtain ⟨b, arr, hp, hh, hs, ht⟩ := h4 hc
  refine ⟨b, arr, hp, hh, hs, ?_⟩
  rw [hl, List.map_take, ← ht, List.take_take]
  congr 1; omega

theorem OB_set {w : World} {E : TypeId} {bb c n : Nat} {l : List UInt8} (h : OB w E (.slice (some ⟨bb, 0, none⟩) l.length c) l) (hn : n < l.length) (x : UInt8) :
    OB (w.setCell ⟨bb, n, none⟩ (u8 x)) E (.slice (some ⟨bb, 0, none⟩) l.length c) (l.set n x) := by
  obtain ⟨p, c', he, h1, h2, h3, h4⟩ := h
  cases he
  obtain ⟨b, arr, hp, hh, hs, ht⟩ := h4 (by omega)
  cases hp
  refine ⟨_, c, by simp, by simpa using h1, h2, by simp, fun hc => ⟨bb, arr.setIfInBounds n (u8 x), rfl, hset_same hh n (u8 x), by simpa using hs, ?_⟩⟩
  have e : (arr.setIfInBounds n (u8 x)).toList = arr.toList.set n (u8 x) := by simp
  rw [e, List.length_set, List.take_set, ht, List.map_set]
theorem modify_eq_set {l : List UInt8} {n : Nat} (hn : n < l.length) (f : UInt8 → UInt8) : l.modify n f = l.set n (f l[n]) := by
  apply List.ext_getElem?
  intro i
  rw [List.getElem?_modify, List.getElem?_set]
  by_cases h : n = i
  · subst h; simp [hn]
  · simp [h]

def kept (k : Nat) (r : Raw) : Nat := min r.bytes.length (r.sure + k)
def lost (k : Nat) (r : Raw) : Raw := { r with sv := reslice r.sv (kept k r), bytes := r.bytes.take (kept k r), sure := kept k r }
theorem lost_blks (k : Nat) (r : Raw) : (lost k r).blks = r.blks := by simp [lost, Raw.blks, sblk_reslice]
theorem lost_en (k : Nat) (r : Raw) : (lost k r).en = r.en := rfl

/-- what stands in the map, the entries of stamps in 'seen' done -/
def cur (k : Nat) (seen : Array Nat) (L : List Raw) : List Raw := L.filter fun r => !(seen.contains r.born && kept k r == 0)
def used (k : Nat) (seen : Array Nat) (L : List Raw) : Nat := ((L.filter fun r => seen.contains r.born).map (kept k)).sum

structure LInv (w : World) (d m it k : Nat) (D : Dk) (L : List Raw) (clock : Nat) (seen : Array Nat) : Prop where
  head : w.heap[d]? = some (.cells #[.int .i64 (D.limit : Int), .int .i64 (used k seen L : Int), .map (some m), .bool D.down, .int .i64 (D.steps : Int), .int .i64 D.keep] 56 (0, 0))
  map : w.heap[m]? = some (.map (ents ((cur k seen L).map Raw.en)) clock)
  iter : w.heap[it]? = some (.mapIter (some m) clock seen clock)
  todo : ∀ r ∈ L, seen.contains r.born = false → RawOk w r
  done : ∀ r ∈ L, seen.contains r.born = true → RawOk w (lost k r)

def unseen (w : World) (it : Nat) (L : List Raw) : Nat :=
  match w.heap[it]? with
  | some (.mapIter _ _ seen _) => (L.filter fun r => !seen.contains r.born).length
  | _ => 0

theorem filter_lt {α : Type} {p q : α → Bool} {x : α} : ∀ {l : List α}, (∀ y ∈ l, q y = true → p y = true) → x ∈ l → p x = true → q x = false → (l.filter q).length < (l.filter p).length
  | [], _, hx, _, _ => by cases hx
  | y :: l, h, hx, hp, hq => by
    have hle : ∀ l : List α, (∀ y ∈ l, q y = true → p y = true) → (l.filter q).length ≤ (l.filter p).length := by
      intro l
      induction l with
      | nil => intro _; simp
      | cons z l ih =>
        intro h
        have := ih fun y hy => h y (by simp [hy])
        rw [List.filter_cons, List.filter_cons]
        cases hz : q z with
        | true => rw [h z (by simp) hz]; simpa using this
        | false =>
          simp only [Bool.false_eq_true, if_false]
          split
          · simp only [List.length_cons]; omega
          · exact this
    rw [List.filter_cons, List.filter_cons]
    rcases List.mem_cons.1 hx with rfl | hx
    · rw [hp, hq]
      have := hle l fun y hy => h y (by simp [hy])
      simp; omega
    · have := filter_lt (fun y hy => h y (by simp [hy])) hx hp hq
      cases hy : q y with
      | true => rw [h y (by simp) hy]; simpa using this
      | false =>
        simp only [Bool.false_eq_true, if_false]
        split
        · simp only [List.length_cons]; omega
        · exact this

theorem inj_of_nodup {α β : Type} (f : α → β) : ∀ {l : List α}, (l.map f).Nodup → ∀ {x y : α}, x ∈ l → y ∈ l → f x = f y → x = y
  | [], _, _, _, hx, _, _ => by cases hx
  | z :: l, hn, x, y, hx, hy, e => by
    simp only [List.map_cons, List.nodup_cons] at hn
    rcases List.mem_cons.1 hx with hx' | hx' <;> rcases List.mem_cons.1 hy with hy' | hy'
    · rw [hx', hy']
    · rw [hx'] at e; exact absurd (e ▸ List.mem_map_of_mem hy') hn.1
    · rw [hy'] at e; exact absurd (e ▸ List.mem_map_of_mem hx') hn.1
    · exact inj_of_nodup f hn.2 hx' hy' e

section
variable {w w' : World} {d m it k : Nat} {D : Dk} {L : List Raw} {clock : Nat} {seen : Array Nat} {r : Raw}

theorem LInv.cells (h : LInv w d m it k D L clock seen) :
    w.cell? ⟨d, 1, none⟩ = some (.int .i64 (used k seen L : Int)) ∧ w.cell? ⟨d, 2, none⟩ = some (.map (some m)) ∧ (∀ i, w.frozen? ⟨d, i, none⟩ = false) ∧
    w.cell? ⟨d, 3, none⟩ = some (.bool D.down) ∧ w.cell? ⟨d, 4, none⟩ = some (.int .i64 (D.steps : Int)) :=
  ⟨by rw [hcell_of h.head]; rfl, by rw [hcell_of h.head]; rfl, fun i => hfree_of h.head i, by rw [hcell_of h.head]; rfl, by rw [hcell_of h.head]; rfl⟩

theorem contains_push (seen : Array Nat) (b x : Nat) : (seen.push b).contains x = (seen.contains x || x == b) := by
  rw [Array.contains_push]

/-- one entry done: its file cut, gone or kept, counted -/
theorem LInv.step (h : LInv w d m it k D L clock seen) (hst : (L.map (·.born)).Nodup) (hnd : (d :: m :: blks L).Nodup) (hit : ∀ x ∈ d :: m :: blks L, x ≠ it)
    (hr : r ∈ L) (hun : seen.contains r.born = false) (hlt : ∀ x ∈ d :: m :: blks L, x < w.heap.size)
    (hw : Chg (fun x => x = d ∨ x = m ∨ x = it ∨ x = r.f) w w')
    (hh : w'.heap[d]? = some (.cells #[.int .i64 (D.limit : Int), .int .i64 ((used k seen L + kept k r : Nat) : Int), .map (some m), .bool D.down, .int .i64 (D.steps : Int), .int .i64 D.keep] 56 (0, 0)))
    (hm : w'.heap[m]? = some (.map (if kept k r = 0 then ents (((cur k seen L).map Raw.en).filter (·.key != r.name)) else ents ((cur k seen L).map Raw.en)) clock))
    (hi : w'.heap[it]? = some (.mapIter (some m) clock (seen.push r.born) clock))
    (hf : w'.heap[r.f]? = some (.cells #[(lost k r).sv, .int .i64 (kept k r : Int)] 85 (0, 0)))
    (hnames : (L.map (·.name)).Nodup) (hsure : r.sure ≤ r.bytes.length) :
    LInv w' d m it k D L clock (seen.push r.born) ∧ unseen w' it L < unseen w it L := by
  have hrok := h.todo r hr hun
  have hborn : ∀ x ∈ L, x.born = r.born → x = r := fun x hx e => inj_of_nodup (·.born) hst hx hr e
  have hname : ∀ x ∈ L, x.name = r.name → x = r := fun x hx e => inj_of_nodup (·.name) hnames hx hr e
  have hcont : ∀ x ∈ L, x ≠ r → (seen.push r.born).contains x.born = seen.contains x.born := fun x hx hne => by
    rw [contains_push]
    have : (x.born == r.born) = false := by simpa using fun e : x.born = r.born => hne (hborn x hx e)
    rw [this, Bool.or_false]
  have hcr : (seen.push r.born).contains r.born = true := by rw [contains_push]; simp
  simp only [List.nodup_cons, List.mem_cons, not_or] at hnd
  obtain ⟨⟨hdm, hdL⟩, hmL, hL⟩ := hnd
  -- another file's blocks are as they were
  have hblk : ∀ x ∈ L, x ≠ r → ∀ b ∈ x.blks, w'.heap[b]? = w.heap[b]? := fun x hx hne b hb => by
    have hbL : b ∈ blks L := List.mem_flatMap.2 ⟨x, hx, hb⟩
    refine hw.block b (hlt b (by simp [hbL])) ?_
    rintro (rfl | rfl | rfl | rfl)
    · exact hdL hbL
    · exact hmL hbL
    · exact hit _ (by simp [hbL]) rfl
    · have key : ∀ l : List Raw, (blks l).Nodup → x ∈ l → r ∈ l → r.f ∈ x.blks → x = r := by
        intro l
        induction l with
        | nil => intro _ hx; cases hx
        | cons y l ih =>
          intro hnd hx hr hb
          rw [blks_cons, List.nodup_append] at hnd
          obtain ⟨_, h2, h3⟩ := hnd
          rcases List.mem_cons.1 hx with hx' | hx' <;> rcases List.mem_cons.1 hr with hr' | hr'
          · rw [hx', hr']
          · rw [← hx'] at h3; exact absurd rfl (h3 r.f hb r.f (List.mem_flatMap.2 ⟨r, hr', by simp [Raw.blks]⟩))
          · rw [← hr'] at h3; exact absurd rfl (h3 r.f (by simp [Raw.blks]) r.f (List.mem_flatMap.2 ⟨x, hx', hb⟩))
          · exact ih h2 hx' hr' hb
      exact hne (key L hL hx hr hb)
  have hown : ∀ b, sblk r.sv = some b → w'.heap[b]? = w.heap[b]? := fun b hb => by
    have hbL : b ∈ blks L := List.mem_flatMap.2 ⟨r, hr, by simp [Raw.blks, hb]⟩
    refine hw.block b (hlt b (by simp [hbL])) ?_
    rintro (rfl | rfl | rfl | rfl)
    · exact hdL hbL
    · exact hmL hbL
    · exact hit _ (by simp [hbL]) rfl
    · have key : ∀ l : List Raw, (blks l).Nodup → r ∈ l → False := by
        intro l
        induction l with
        | nil => intro _ hr; cases hr
        | cons y l ih =>
          intro hnd hr
          rw [blks_cons, List.nodup_append] at hnd
          rcases List.mem_cons.1 hr with rfl | hr
          · have := hnd.1; simp [Raw.blks, hb] at this
          · exact ih hnd.2.1 hr
      exact key L hL hr
  have hrok' : RawOk w' (lost k r) := by
    refine ⟨hf, ?_⟩
    have hob : OB w' 5 r.sv r.bytes := OC.keep hrok.own hown
    exact OB_reslice hob (kept k r) (by unfold kept; omega)
  refine ⟨{ head := ?_, map := ?_, iter := hi, todo := fun x hx hxu => ?_, done := fun x hx hxs => ?_ }, ?_⟩
  · rw [hh]
    have : used k (seen.push r.born) L = used k seen L + kept k r := by
      clear hh hm hi hf hw hit hdL hmL hL hlt hrok hblk hown hrok' hname hnames h
      unfold used
      induction L with
      | nil => cases hr
      | cons y L ih =>
        simp only [List.map_cons, List.nodup_cons] at hst
        rcases List.mem_cons.1 hr with rfl | hr'
        · have hrest : (L.filter fun x => (seen.push r.born).contains x.born) = L.filter fun x => seen.contains x.born :=
            List.filter_congr fun x hx => hcont x (by simp [hx]) fun e => hst.1 (e ▸ List.mem_map_of_mem hx)
          rw [List.filter_cons, List.filter_cons, hcr, hun, hrest]
          simp; omega
        · have hne : y ≠ r := fun e => hst.1 (e ▸ List.mem_map_of_mem hr')
          have ih' := ih hst.2 hr' (fun x hx => hborn x (by simp [hx])) (fun x hx => hcont x (by simp [hx]))
          rw [List.filter_cons, List.filter_cons, hcont y (by simp) hne]
          split
          · simp only [List.map_cons, List.sum_cons, ih']; omega
          · exact ih'
    rw [this]
  · rw [hm]
    have e : cur k (seen.push r.born) L = if kept k r = 0 then (cur k seen L).filter (·.name != r.name) else cur k seen L := by
      unfold cur
      by_cases hz : kept k r = 0
      · rw [if_pos hz, List.filter_filter]
        refine List.filter_congr fun x hx => ?_
        by_cases hxr : x = r
        · subst hxr; rw [hcr]; simp [hz]
        · rw [hcont x hx hxr]
          have : (x.name != r.name) = true := by simpa using fun e => hxr (hname x hx e)
          rw [this, Bool.true_and]
      · rw [if_neg hz]
        refine List.filter_congr fun x hx => ?_
        by_cases hxr : x = r
        · subst hxr; rw [hcr, hun]; simp [hz]
        · rw [hcont x hx hxr]
    rw [e]
    split
    · rw [List.filter_map]; rfl
    · rfl
  · by_cases hxr : x = r
    · subst hxr; rw [hcr] at hxu; cases hxu
    · rw [hcont x hx hxr] at hxu
      exact (h.todo x hx hxu).keep (hblk x hx hxr)
  · by_cases hxr : x = r
    · subst hxr; exact hrok'
    · rw [hcont x hx hxr] at hxs
      exact (h.done x hx hxs).keep fun b hb => hblk x hx hxr b (by rwa [lost_blks] at hb)
  · unfold unseen
    rw [hi, h.iter]
    refine filter_lt (x := r) (fun y hy hq => ?_) hr (by rw [hun]; rfl) (by rw [hcr]; rfl)
    by_cases hyr : y = r
    · subst hyr; rw [hcr] at hq; cases hq
    · rw [hcont y hy hyr] at hq; exact hq

theorem used_le (k : Nat) (seen : Array Nat) : ∀ L : List Raw, used k seen L ≤ (L.map fun r => r.bytes.length).sum
  | [] => Nat.le_refl _
  | x :: L => by
    have ih := used_le k seen L
    unfold used at *
    rw [List.filter_cons]
    have hx : kept k x ≤ x.bytes.length := by unfold kept; omega
    split
    · simp only [List.map_cons, List.sum_cons]; omega
    · simp only [List.map_cons, List.sum_cons]; omega
theorem used_add (k : Nat) (seen : Array Nat) {r : Raw} (hun : seen.contains r.born = false) : ∀ {L : List Raw}, r ∈ L → used k seen L + kept k r ≤ (L.map fun r => r.bytes.length).sum
  | x :: L, hr => by
    rcases List.mem_cons.1 hr with rfl | hr
    · have h := used_le k seen L
      unfold used at *
      rw [List.filter_cons, hun]
      have hx : kept k r ≤ r.bytes.length := by unfold kept; omega
      simp only [Bool.false_eq_true, if_false, List.map_cons, List.sum_cons]; omega
    · have ih := used_add k seen hun hr
      unfold used at *
      rw [List.filter_cons]
      have hx : kept k x ≤ x.bytes.length := by unfold kept; omega
      split
      · simp only [List.map_cons, List.sum_cons]; omega
      · simp only [List.map_cons, List.sum_cons]; omega
theorem DRaw.sum_le {w : World} {d m : Nat} {D : Dk} {L : List Raw} {clock : Nat} (h : DRaw w d m D L clock) : (L.map fun r => r.bytes.length).sum ≤ 1099511627776 := by
  have e : (L.map fun r => r.bytes.length).sum = D.used := by
    have := ((h.perm.map fun f => f.bytes.length)).sum_nat
    rw [List.map_map] at this
    exact this
  rw [e]; exact Nat.le_trans h.ok.used h.ok.limit

theorem left_mem {e : En} (he : e ∈ left ((cur k seen L).map Raw.en) seen) : ∃ r ∈ L, r.en = e ∧ seen.contains r.born = false := by
  obtain ⟨h1, h2⟩ := List.mem_filter.1 he
  obtain ⟨r, hr, rfl⟩ := List.mem_map.1 h1
  exact ⟨r, (List.mem_filter.1 hr).1, rfl, by simpa [Raw.en] using h2⟩
theorem left_none (h : left ((cur k seen L).map Raw.en) seen = []) : ∀ r ∈ L, seen.contains r.born = true := by
  intro r hr
  cases hs : seen.contains r.born with
  | true => rfl
  | false =>
    have : r.en ∈ left ((cur k seen L).map Raw.en) seen := by
      refine List.mem_filter.2 ⟨List.mem_map_of_mem (List.mem_filter.2 ⟨hr, by rw [hs]; rfl⟩), ?_⟩
      show (!seen.contains r.born) = true
      rw [hs]; rfl
    rw [h] at this; cases this
theorem mem_cur (hr : r ∈ L) (hs : seen.contains r.born = false) : r ∈ cur k seen L := List.mem_filter.2 ⟨hr, by rw [hs]; rfl⟩

theorem surv_lost (k : Nat) (r : Raw) : surv k r.fl = if kept k r = 0 then none else some (lost k r).fl := by
  unfold surv Raw.fl
  simp only [lost]
  have e : r.bytes.take (r.sure + k) = r.bytes.take (kept k r) := by
    unfold kept
    rw [List.take_eq_take_iff]; omega
  rw [e]
  have hlen : (r.bytes.take (kept k r)).length = kept k r := by unfold kept; simp
  by_cases hz : kept k r = 0
  · rw [if_pos hz, hz]; simp
  · have hne : r.bytes.take (kept k r) ≠ [] := fun h => by rw [h] at hlen; simp at hlen; exact hz hlen.symm
    rw [if_neg hne, if_neg hz, hlen]

/-- all entries done: the disk behind the crash -/
theorem LInv.finish (h : LInv w d m it k D L clock seen) (h0 : ∀ r ∈ L, seen.contains r.born = true) (hp : (L.map Raw.fl).Perm D.files) (hnd : (d :: m :: blks L).Nodup)
    (hst : (L.map (·.born)).Nodup) (hy : ∀ r ∈ L, r.born < clock) (hlt : ∀ x ∈ d :: m :: blks L, x < w.heap.size) (ok : D.Ok)
    (hw : Chg (· = d) w w')
    (hh : w'.heap[d]? = some (.cells #[.int .i64 (D.limit : Int), .int .i64 (used k seen L : Int), .map (some m), .bool true, .int .i64 0, .int .i64 D.keep] 56 (0, 0))) :
    ∃ L', DRaw w' d m (D.lose k) L' clock ∧ ∀ x ∈ d :: m :: blks L', x ∈ d :: m :: blks L := by
  have hfm : ∀ l : List Raw, (l.map Raw.fl).filterMap (surv k) = ((l.filter fun r => kept k r != 0).map (lost k)).map Raw.fl := by
    intro l
    induction l with
    | nil => rfl
    | cons r l ih =>
      rw [List.map_cons, List.filterMap_cons, surv_lost, List.filter_cons]
      by_cases hz : kept k r = 0
      · rw [if_pos hz]
        have : (kept k r != 0) = false := by simp [hz]
        rw [this]; simpa using ih
      · rw [if_neg hz]
        have : (kept k r != 0) = true := by simpa using hz
        rw [this]; simpa using ih
  have hb : ∀ l : List Raw, blks ((l.filter fun r => kept k r != 0).map (lost k)) = blks (l.filter fun r => kept k r != 0) := by
    intro l
    generalize l.filter (fun r => kept k r != 0) = l'
    induction l' with
    | nil => rfl
    | cons r l ih => rw [List.map_cons, blks_cons, blks_cons, lost_blks, ih]
  have hsl : ∀ l : List Raw, (blks (l.filter fun r => kept k r != 0)).Sublist (blks l) := by
    intro l
    induction l with
    | nil => exact List.Sublist.refl _
    | cons r l ih =>
      rw [List.filter_cons]
      split
      · rw [blks_cons, blks_cons]; exact ih.append_left _
      · rw [blks_cons]; exact ih.trans (List.sublist_append_right _ _)
  have hused : (D.lose k).used = used k seen L := by
    unfold Dk.used Dk.lose loseL total used
    have e1 : (L.filter fun r => seen.contains r.born) = L := List.filter_eq_self.2 fun r hr => h0 r hr
    rw [e1]
    have e2 : ((D.files.filterMap (surv k)).map fun f => f.bytes.length).sum = (((L.map Raw.fl).filterMap (surv k)).map fun f => f.bytes.length).sum :=
      ((hp.symm.filterMap (surv k)).map _).sum_nat
    rw [e2]
    clear e2 e1 hh hw hp hnd hlt hst hy h h0
    induction L with
    | nil => rfl
    | cons r L ih =>
      rw [List.map_cons, List.filterMap_cons, surv_lost]
      have hlen : (r.bytes.take (kept k r)).length = kept k r := by unfold kept; simp
      by_cases hz : kept k r = 0
      · rw [if_pos hz]; simp only [List.map_cons, List.sum_cons, hz, ih]; omega
      · rw [if_neg hz]
        simp only [List.map_cons, List.sum_cons, ih]
        simp only [lost, Raw.fl, hlen]
  have hle : (D.lose k).used ≤ D.used := total_lose k D.files
  refine ⟨(L.filter fun r => kept k r != 0).map (lost k), { head := ?_, map := ?_, raws := ?_, nodup := ?_, perm := ?_, stamps := ?_, young := ?_, ok := ?_ }, ?_⟩
  · rw [hh]
    simp only [headCells, hused]
    rfl
  · have hmd : m ≠ d := fun e => by subst e; simp at hnd
    rw [hw.block m (hlt m (by simp)) hmd, h.map]
    have e1 : cur k seen L = L.filter fun r => kept k r != 0 := List.filter_congr fun r hr => by rw [h0 r hr]; simp [bne]
    rw [e1, List.map_map]
    rfl
  · intro x hx
    obtain ⟨r, hr, rfl⟩ := List.mem_map.1 hx
    have hrL := (List.mem_filter.1 hr).1
    refine (h.done r hrL (h0 r hrL)).keep fun b hb' => ?_
    rw [lost_blks] at hb'
    have hbL : b ∈ blks L := List.mem_flatMap.2 ⟨r, hrL, hb'⟩
    refine hw.block b (hlt b (by simp [hbL])) fun e => ?_
    subst e; simp [hbL] at hnd
  · rw [hb]
    exact hnd.sublist (((hsl L).cons_cons m).cons_cons d)
  · rw [← hfm]
    exact hp.filterMap (surv k)
  · have : ((L.filter fun r => kept k r != 0).map (lost k)).map (·.born) = (L.filter fun r => kept k r != 0).map (·.born) := by simp [lost]
    rw [this]
    exact hst.sublist ((List.filter_sublist).map _)
  · intro x hx
    obtain ⟨r, hr, rfl⟩ := List.mem_map.1 hx
    exact hy r (List.mem_filter.1 hr).1
  · refine { sorted := lose_sorted ok.sorted, sure := ?_, used := Nat.le_trans hle ok.used, limit := ok.limit, steps := by show 0 ≤ _; omega, keepLo := ok.keepLo, keepHi := ok.keepHi, armed := fun hne => absurd rfl hne }
    intro f hf
    obtain ⟨g, hg, hs⟩ := List.mem_filterMap.1 hf
    exact (surv_len hs).2
  · intro x hx
    simp only [List.mem_cons] at hx ⊢
    refine hx.imp id (fun hx => hx.imp id fun hx => ?_)
    rw [hb] at hx
    exact (hsl L).subset hx
end
end Go.Dr
