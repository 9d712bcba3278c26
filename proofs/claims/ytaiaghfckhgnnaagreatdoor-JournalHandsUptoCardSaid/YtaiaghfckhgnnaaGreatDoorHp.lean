/- Words and laws on the heap for the proofs of this seat: what a call may change, slices that are read, slices that are owned, append, conversions between bytes and strings. Conditions: each law's own. -/
import Derived.WalkKit
import Derived.Deep.Draws
namespace Go.Hp
open Go Go.RowKit
set_option linter.unusedVariables false

/-- a byte as a cell -/
abbrev u8 (b : UInt8) : Value := .int .u8 (b.toNat : Int)

/-! ### what a call may change -/
structure Chg (F : Nat → Prop) (w w' : World) : Prop where
  os : w'.os = w.os
  tape : w'.tape = w.tape
  output : w'.output = w.output
  size : w.heap.size ≤ w'.heap.size
  block : ∀ k, k < w.heap.size → ¬ F k → w'.heap[k]? = w.heap[k]?

section
variable {F G : Nat → Prop} {a b c w w' : World}
theorem Chg.refl (F : Nat → Prop) (w : World) : Chg F w w := ⟨rfl, rfl, rfl, Nat.le_refl _, fun _ _ _ => rfl⟩
theorem Chg.trans (h : Chg F a b) (k : Chg G b c) (hG : ∀ k, G k → F k ∨ a.heap.size ≤ k) : Chg F a c :=
  ⟨k.os.trans h.os, k.tape.trans h.tape, k.output.trans h.output, Nat.le_trans h.size k.size, fun i hi hn =>
    (k.block i (Nat.lt_of_lt_of_le hi h.size) (fun hg => (hG i hg).elim hn (fun h' => by omega))).trans (h.block i hi hn)⟩
theorem Chg.mono (h : Chg F a b) (hG : ∀ k, F k → G k ∨ a.heap.size ≤ k) : Chg G a b := (Chg.refl G a).trans h hG
theorem Chg.alloc (h : Chg F a b) (o : Obj) : Chg F a (b.alloc o) :=
  ⟨h.os, h.tape, h.output, by have := h.size; simp; omega, fun k hk hn => (Below.heap_alloc b o k (Nat.lt_of_lt_of_le hk h.size)).trans (h.block k hk hn)⟩
theorem Chg.drew (h : Chg F a b) : Chg F a b.drew := ⟨h.os, h.tape, h.output, h.size, h.block⟩
theorem Chg.drewN (h : Chg F a b) (n : Nat) : Chg F a (b.drewN n) := ⟨h.os, h.tape, h.output, h.size, h.block⟩
theorem Chg.setCell (h : Chg F a b) {p : Addr} (hp : F p.block ∨ a.heap.size ≤ p.block) (u : Value) : Chg F a (b.setCell p u) :=
  ⟨h.os, h.tape, h.output, by have := h.size; simpa using this, fun k hk hn => (Below.heap_setCell b p u k (fun e => by subst e; exact hp.elim hn (fun h' => by omega))).trans (h.block k hk hn)⟩
theorem Chg.of_below {B : Nat} (h : Below B w w') : Chg (fun k => B ≤ k) w w' :=
  ⟨h.os, h.tape, h.output, h.size, fun k _ hn => h.block k (by omega)⟩
theorem Chg.below {B : Nat} (h : Chg F w w') (hB : B ≤ w.heap.size) (hF : ∀ k, F k → B ≤ k) : Below B w w' :=
  ⟨h.os, h.tape, h.output, h.size, fun k hk => h.block k (by omega) (fun hf => by have := hF k hf; omega)⟩
theorem Chg.of_grown {row : Option Nat} (h : w.grownBy w' row) : Chg (fun k => some k = row) w w' :=
  ⟨h.os, h.tape, h.output, h.size, fun k hk hn => h.block k hk hn⟩
theorem Chg.cell (h : Chg F w w') {k o : Nat} (hk : k < w.heap.size) (hn : ¬ F k) : w'.cell? ⟨k, o, none⟩ = w.cell? ⟨k, o, none⟩ :=
  World.cell?_of_block (a := ⟨k, o, none⟩) (h.block k hk hn)
theorem Chg.frozen (h : Chg F w w') {k o : Nat} (hk : k < w.heap.size) (hn : ¬ F k) : w'.frozen? ⟨k, o, none⟩ = w.frozen? ⟨k, o, none⟩ :=
  World.frozen?_of_block (a := ⟨k, o, none⟩) (h.block k hk hn)
end

/-- the footprint F has become F', and nothing else that was there has changed -/
structure Ev (F F' : List Nat) (w w' : World) : Prop where
  chg : Chg (· ∈ F) w w'
  new : ∀ k, k ∈ F' → k ∈ F ∨ w.heap.size ≤ k

section
variable {F F' F'' : List Nat} {w w' w'' : World}
theorem Ev.refl (F : List Nat) (w : World) : Ev F F w w := ⟨Chg.refl _ _, fun k h => .inl h⟩
theorem Ev.trans (h : Ev F F' w w') (k : Ev F' F'' w' w'') : Ev F F'' w w'' :=
  ⟨h.chg.trans k.chg h.new, fun i hi => (k.new i hi).elim (h.new i) (fun h' => .inr (Nat.le_trans h.chg.size h'))⟩
theorem Ev.drewN (h : Ev F F' w w') (n : Nat) : Ev F F' w (w'.drewN n) := ⟨h.chg.drewN n, h.new⟩
theorem Ev.alloc (h : Ev F F' w w') (o : Obj) : Ev F F' w (w'.alloc o) := ⟨h.chg.alloc o, h.new⟩
/-- a block that is none of F's is none of F''s -/
theorem Ev.out (h : Ev F F' w w') {k : Nat} (hk : k < w.heap.size) (hn : k ∉ F) : k ∉ F' := fun h' => (h.new k h').elim hn (fun h'' => by omega)
theorem Ev.block (h : Ev F F' w w') {k : Nat} (hk : k < w.heap.size) (hn : k ∉ F) : w'.heap[k]? = w.heap[k]? := h.chg.block k hk hn
end

/-! ### blocks -/
theorem hlt_of {w : World} {k : Nat} {o : Obj} (h : w.heap[k]? = some o) : k < w.heap.size := (Array.getElem?_eq_some_iff.1 h).1

theorem hcell_of {w : World} {b : Nat} {cs : Array Value} {t : TypeId} {fz : Nat × Nat} (h : w.heap[b]? = some (.cells cs t fz)) (i : Nat) : w.cell? ⟨b, i, none⟩ = cs[i]? := by
  simp [World.cell?, h]
theorem hfree_of {w : World} {b : Nat} {cs : Array Value} {t : TypeId} (h : w.heap[b]? = some (.cells cs t (0, 0))) (i : Nat) : w.frozen? ⟨b, i, none⟩ = false := by
  simp [World.frozen?, h]
theorem hset_same {w : World} {b : Nat} {cs : Array Value} {t : TypeId} {fz : Nat × Nat} (h : w.heap[b]? = some (.cells cs t fz)) (i : Nat) (v : Value) :
    (w.setCell ⟨b, i, none⟩ v).heap[b]? = some (.cells (cs.setIfInBounds i v) t fz) := by
  simp [World.setCell, Array.getElem?_modify, h]
theorem hset_other {w : World} {p : Addr} {v : Value} {k : Nat} (h : k ≠ p.block) : (w.setCell p v).heap[k]? = w.heap[k]? := Below.heap_setCell w p v k h
theorem halloc_lt {w : World} {o : Obj} {k : Nat} (h : k < w.heap.size) : (w.alloc o).heap[k]? = w.heap[k]? := Below.heap_alloc w o k h
theorem halloc_at (w : World) (o : Obj) : (w.alloc o).heap[w.heap.size]? = some o := by
  show (w.heap.push o)[w.heap.size]? = some o
  simp

/-! ### slices -/
/-- the block that a slice with room leads to -/
def sblk : Value → Option Nat
  | .slice (some a) _ (_ + 1) => some a.block
  | _ => none

@[simp] theorem sblk_nil : sblk (.slice none 0 0) = none := rfl
theorem sblk_some {a : Addr} {n c : Nat} (h : c ≠ 0) : sblk (.slice (some a) n c) = some a.block := by
  cases c with
  | zero => exact absurd rfl h
  | succ c => rfl
theorem sblk_zero {p : Option Addr} {n : Nat} : sblk (.slice p n 0) = none := by cases p <;> rfl
theorem sblk_cap {p : Option Addr} {n c k : Nat} (h : sblk (.slice p n c) = some k) : c ≠ 0 ∧ ∃ a, p = some a ∧ a.block = k := by
  cases p with
  | none => simp [sblk] at h
  | some a =>
    cases c with
    | zero => simp [sblk] at h
    | succ c => simp [sblk] at h; exact ⟨by omega, a, rfl, h⟩

/-- slice v has n elements of k cells each, which read as cs -/
def RC (w : World) (k : Nat) (v : Value) (n : Nat) (cs : List Value) : Prop :=
  ∃ p c, v = .slice p n c ∧ n ≤ c ∧ cs.length = n * k ∧
    (c ≠ 0 → ∃ b off arr t fz, p = some ⟨b, off, none⟩ ∧ w.heap[b]? = some (.cells arr t fz) ∧ ∀ i u, cs[i]? = some u → arr[off + i]? = some u)

/-- slice v of element type E (k cells each) lies at the head of a block of its own; its n elements read as cs -/
def OC (w : World) (k : Nat) (E : TypeId) (v : Value) (n : Nat) (cs : List Value) : Prop :=
  ∃ p c, v = .slice p n c ∧ n ≤ c ∧ c ≤ maxLen ∧ cs.length = n * k ∧
    (c ≠ 0 → ∃ b arr, p = some ⟨b, 0, none⟩ ∧ w.heap[b]? = some (.cells arr E (0, 0)) ∧ arr.size = c * k ∧ arr.toList.take (n * k) = cs)

section
variable {w w' : World} {k : Nat} {E : TypeId} {v : Value} {n : Nat} {cs : List Value}
theorem RC.len (h : RC w k v n cs) : cs.length = n * k := by obtain ⟨_, _, _, _, h, _⟩ := h; exact h
theorem OC.len (h : OC w k E v n cs) : cs.length = n * k := by obtain ⟨_, _, _, _, _, h, _⟩ := h; exact h
theorem OC.rc (h : OC w k E v n cs) : RC w k v n cs := by
  obtain ⟨p, c, rfl, h1, _, h3, h4⟩ := h
  refine ⟨p, c, rfl, h1, h3, fun hc => ?_⟩
  obtain ⟨b, arr, rfl, hb, hs, ht⟩ := h4 hc
  refine ⟨b, 0, arr, E, (0, 0), rfl, hb, fun i u hu => ?_⟩
  rw [← ht, List.getElem?_take] at hu
  split at hu
  · simpa using hu
  · cases hu
theorem RC.lt (h : RC w k v n cs) {b : Nat} (hb : sblk v = some b) : b < w.heap.size := by
  obtain ⟨p, c, rfl, _, _, h4⟩ := h
  obtain ⟨hc, a, rfl, rfl⟩ := sblk_cap hb
  obtain ⟨b, off, arr, t, fz, hp, hh, _⟩ := h4 hc
  cases hp; exact hlt_of hh
theorem OC.lt (h : OC w k E v n cs) {b : Nat} (hb : sblk v = some b) : b < w.heap.size := h.rc.lt hb
theorem RC.keep (h : RC w k v n cs) (hb : ∀ b, sblk v = some b → w'.heap[b]? = w.heap[b]?) : RC w' k v n cs := by
  obtain ⟨p, c, rfl, h1, h3, h4⟩ := h
  refine ⟨p, c, rfl, h1, h3, fun hc => ?_⟩
  obtain ⟨b, off, arr, t, fz, rfl, hh, hx⟩ := h4 hc
  exact ⟨b, off, arr, t, fz, rfl, (hb b (sblk_some hc)).trans hh, hx⟩
theorem OC.keep (h : OC w k E v n cs) (hb : ∀ b, sblk v = some b → w'.heap[b]? = w.heap[b]?) : OC w' k E v n cs := by
  obtain ⟨p, c, rfl, h1, h2, h3, h4⟩ := h
  refine ⟨p, c, rfl, h1, h2, h3, fun hc => ?_⟩
  obtain ⟨b, arr, rfl, hh, hx⟩ := h4 hc
  exact ⟨b, arr, rfl, (hb b (sblk_some hc)).trans hh, hx⟩
theorem RC.chg {F : Nat → Prop} (h : RC w k v n cs) (hc : Chg F w w') (hF : ∀ b, sblk v = some b → ¬ F b) : RC w' k v n cs :=
  h.keep fun b hb => hc.block b (h.lt hb) (hF b hb)
theorem OC.chg {F : Nat → Prop} (h : OC w k E v n cs) (hc : Chg F w w') (hF : ∀ b, sblk v = some b → ¬ F b) : OC w' k E v n cs :=
  h.keep fun b hb => hc.block b (h.lt hb) (hF b hb)
theorem RC.cell (h : RC w k v n cs) {a : Addr} {m c : Nat} (hv : v = .slice (some a) m c) (hc : c ≠ 0) (i : Nat) (u : Value) (hu : cs[i]? = some u) : w.cell? (a.add i) = some u := by
  obtain ⟨p, c', rfl, h1, h3, h4⟩ := h
  cases hv
  obtain ⟨b, off, arr, t, fz, hp, hh, hx⟩ := h4 hc
  cases hp
  have e : (⟨b, off, none⟩ : Addr).add i = ⟨b, off + i, none⟩ := by unfold Addr.add; split <;> simp_all
  rw [e, hcell_of hh]
  exact hx i u hu
theorem OC_nil (w : World) (k : Nat) (E : TypeId) : OC w k E (.slice none 0 0) 0 [] := ⟨none, 0, rfl, Nat.le_refl _, Nat.zero_le _, by simp, fun h => absurd rfl h⟩
theorem OC_zero (w : World) (k : Nat) (E : TypeId) (p : Option Addr) : OC w k E (.slice p 0 0) 0 [] := ⟨p, 0, rfl, Nat.le_refl _, Nat.zero_le _, by simp, fun h => absurd rfl h⟩
theorem OC_new (w : World) (k : Nat) (E : TypeId) (arr : Array Value) (n c : Nat) (hn : n ≤ c) (hc : c ≤ maxLen) (hs : arr.size = c * k) :
    OC (w.alloc (.cells arr E)) k E (.slice (some ⟨w.heap.size, 0, none⟩) n c) n (arr.toList.take (n * k)) :=
  ⟨_, c, rfl, hn, hc, by simp; rw [hs]; exact Nat.min_eq_left (Nat.mul_le_mul_right k hn), fun _ => ⟨_, arr, rfl, halloc_at w _, hs, rfl⟩⟩
end

/-- append onto an owned slice, from whatever is read -/
theorem run_append_any {P : Program} (w : World) (t ty E : TypeId) (i : TypeInfo) (z : Value) (k bytes : Nat) (ht : P.underlying t = some (.slice E)) (hi : P.info? E = some i) (hz : i.zero = some z)
    (hsize : i.size = k) (hby : i.bytes = bytes) (hzs : z.cells.size = k) (hk : 0 < k)
    {v x : Value} {n m : Nat} {cs ns : List Value} (hv : OC w k E v n cs) (hx : RC w k x m ns) (h1 : ∀ u ∈ ns, u.oneCell' = true)
    (hb1 : 0 < bytes) (hbytes : (n + m) * bytes ≤ 140737488355328) :
    ∃ v' w', (Builtin.append_ #[t, t] ty #[v, x]).run P w = .ok v' w' ∧ OC w' k E v' (n + m) (cs ++ ns) ∧ Chg (fun b => sblk v = some b) w w' ∧
      (∀ b, sblk v' = some b → sblk v = some b ∨ w.heap.size ≤ b) ∧ (v' = .slice none 0 0 ↔ v = .slice none 0 0 ∧ m = 0) := by
  subst hsize hby
  have hv0 := hv
  obtain ⟨p, c, rfl, hnc, hcm, hcl, hv4⟩ := hv
  have hx0 := hx
  obtain ⟨q, d, rfl, hmd, hnl, hx4⟩ := hx
  have hnm : n + m ≤ 140737488355328 := Nat.le_trans (Nat.le_mul_of_pos_right _ hb1) hbytes
  by_cases hm : m = 0
  · subst hm
    have hns : ns = [] := List.eq_nil_of_length_eq_zero (by simpa using hnl)
    subst hns
    refine ⟨.slice p n c, w, ?_, by simpa using hv0, Chg.refl _ _, fun b h => .inl h, by simp⟩
    cases q with
    | none => cases p <;> simp [Builtin.append_, run_underlying ht, sizeOf, typeInfo, hi, Builtin.lenOf, Builtin.firstCells, hnc, storeCells]
    | some a => cases p <;> simp [Builtin.append_, run_underlying ht, sizeOf, typeInfo, hi, Builtin.lenOf, Builtin.firstCells, loadCells, loadCellsFrom, hnc, storeCells]
  · have hd : d ≠ 0 := by omega
    obtain ⟨b, off, arr, t', fz, rfl, hh, hcell⟩ := hx4 hd
    have hnews : ∀ j u, ns[j]? = some u → w.cell? ((⟨b, off, none⟩ : Addr).add j) = some u := fun j u hu => hx0.cell rfl hd j u hu
    have hlen : (cs ++ ns).length = (n + m) * i.size := by rw [List.length_append, hcl, hnl, Nat.add_mul]
    have grown : ∀ old, old < n + m → OC (w.drew.alloc (.cells (cs.toArray ++ ns.toArray ++ Builtin.zeroCells z.cells (grownCap w (n + m) old E - (n + m))) E)) i.size E
        (.slice (some ⟨w.heap.size, 0, none⟩) (n + m) (grownCap w (n + m) old E)) (n + m) (cs ++ ns) := by
      intro old ho
      have hge := grownCap_ge w (n + m) old E
      have h := OC_new w.drew i.size E (cs.toArray ++ ns.toArray ++ Builtin.zeroCells z.cells (grownCap w (n + m) old E - (n + m))) (n + m) (grownCap w (n + m) old E) hge
        (grownCap_le_maxLen w (n + m) old E (by unfold maxLen; omega)) (by
          simp only [Array.size_append, List.size_toArray, size_zeroCells, hzs, hcl, hnl, ← Nat.add_mul]
          congr 1; omega)
      simp only [Array.toList_append, List.append_assoc] at h
      rw [← List.append_assoc, ← hlen, List.take_left] at h
      exact h
    have chg : ∀ o, Chg (fun b => sblk (Value.slice p n c) = some b) w (w.drew.alloc o) := fun o => (Chg.refl _ w).drew.alloc o
    by_cases hroom : n + m ≤ c
    · have hc : c ≠ 0 := by omega
      obtain ⟨g, cur, rfl, hg, hcs, htake⟩ := hv4 hc
      have hfit : n * i.size + ns.length ≤ cur.size := by rw [hnl, hcs, ← Nat.add_mul]; exact Nat.mul_le_mul_right _ hroom
      have hr := run_append_room (P := P) w t ty E i ht hi g n c cur hg ⟨b, off, none⟩ m d ns hnl hnews h1 hroom hfit
      refine ⟨_, _, hr, ⟨_, c, rfl, hroom, hcm, hlen, fun _ => ⟨g, _, rfl, setRow_heap w g cur _ E _ hg, ?_, ?_⟩⟩, ?_, fun b' hb' => .inl (by simpa [sblk_some hc] using hb'), ?_⟩
      · have h1 : n * i.size ≤ c * i.size := Nat.mul_le_mul_right _ hnc
        have h2 : n * i.size + m * i.size ≤ c * i.size := by rw [← Nat.add_mul]; exact Nat.mul_le_mul_right _ hroom
        have h3 : cur.toList.length = c * i.size := by simpa using hcs
        simp only [List.size_toArray, List.length_append, List.length_take, List.length_drop, hnl, h3]
        omega
      · have e : (cur.toList.take (n * i.size) ++ ns ++ cur.toList.drop (n * i.size + ns.length)).take ((n + m) * i.size) = cs ++ ns := by
          rw [htake, ← hlen, List.take_left]
        simpa using e
      · exact ⟨rfl, rfl, rfl, by simp, fun k hk hn => setRow_other w g k _ (fun e => hn (by rw [sblk_some hc, e]))⟩
      · simp
    · cases p with
      | none =>
        have hc : c = 0 := by
          by_cases h : c = 0
          · exact h
          · obtain ⟨g, cur, hp, _⟩ := hv4 h; cases hp
        subst hc
        have hn : n = 0 := by omega
        subst hn
        have hcs : cs = [] := List.eq_nil_of_length_eq_zero (by simpa using hcl)
        subst hcs
        have hr := run_append_nil (P := P) w t ty E i z ht hi hz ⟨b, off, none⟩ m d ns hnl hnews (by omega) (by omega) (by have := hbytes; simp only [Nat.zero_add] at this; omega)
        refine ⟨_, _, hr, ?_, chg _, ?_, ?_⟩
        · have := grown 0 (by omega)
          simpa using this
        · intro b' hb'
          obtain ⟨_, a, ha, rfl⟩ := sblk_cap hb'
          cases ha; exact .inr (Nat.le_refl _)
        · simp; omega
      | some a =>
        have hr := run_append_grow (P := P) w t ty E i z ht hi hz a n c cs hcl (fun j u hu => by
            by_cases hc : c = 0
            · have : n = 0 := by omega
              subst this
              have hcs : cs = [] := List.eq_nil_of_length_eq_zero (by simpa using hcl)
              subst hcs; cases hu
            · exact hv0.rc.cell rfl hc j u hu)
          ⟨b, off, none⟩ m d ns hnl hnews (by omega) (by omega) (growslice_fits (by omega) hbytes)
        refine ⟨_, _, hr, grown c (by omega), chg _, ?_, by simp⟩
        intro b' hb'
        obtain ⟨_, a, ha, rfl⟩ := sblk_cap hb'
        cases ha; exact .inr (Nat.le_refl _)

/-! ### bytes -/
/-- v reads as the bytes l -/
def RB (w : World) (v : Value) (l : List UInt8) : Prop := RC w 1 v l.length (l.map u8)
/-- v (element type E) lies in a block of its own and reads as the bytes l -/
def OB (w : World) (E : TypeId) (v : Value) (l : List UInt8) : Prop := OC w 1 E v l.length (l.map u8)

theorem u8_one : ∀ (l : List UInt8), ∀ u ∈ l.map u8, u.oneCell' = true := fun l u hu => by
  obtain ⟨b, _, rfl⟩ := List.mem_map.1 hu; rfl

theorem OB.rb {w : World} {E : TypeId} {v : Value} {l : List UInt8} (h : OB w E v l) : RB w v l := OC.rc h

/-- '[]byte' to 'string' -/
theorem run_toString {P : Program} (w : World) (src dst e : TypeId) (hs : P.underlying src = some (.slice e)) (he : P.underlying e = some (.int .u8)) (hd : P.underlying dst = some .string)
    {v : Value} {l : List UInt8} (h : RB w v l) : (convert src dst v).run P w = .ok (.string ⟨l.toArray⟩) w := by
  have h0 := h
  obtain ⟨p, c, rfl, h1, h2, h3⟩ := h
  rw [run_convert_bytes_string w src dst e p l.length c hs he hd]
  have hfold : ∀ (l : List UInt8) (s : ByteArray), (l.map fun b => (b.toNat : Int)).foldl (fun r n => r.push (UInt8.ofNat n.toNat)) s = ⟨s.data ++ l.toArray⟩ := by
    intro l
    induction l with
    | nil => intro s; simp
    | cons b l ih =>
      intro s
      simp only [List.map_cons, List.foldl_cons, ih]
      simp [ByteArray.push]
  cases p with
  | none =>
    have hl : l = [] := by
      by_cases hc : c = 0
      · exact List.eq_nil_of_length_eq_zero (by omega)
      · obtain ⟨_, _, _, _, _, hp, _⟩ := h3 hc; cases hp
    subst hl
    simp [Conv.bytesToString]
    rfl
  | some a =>
    have e : l.map u8 = (l.map fun b => (b.toNat : Int)).map (Value.int .u8) := by simp [u8]
    have hload : (loadCells a l.length).run P w = .ok ((l.map fun b => (b.toNat : Int)).map (Value.int .u8)).toArray w := by
      by_cases hc : c = 0
      · have hl : l = [] := List.eq_nil_of_length_eq_zero (by omega)
        subst hl; simp [loadCells, loadCellsFrom]
      · rw [← e]
        have := run_loadCells_list (P := P) w a (l.map u8) (fun j u hu => h0.cell rfl hc j u hu)
        simpa using this
    rw [run_bytesToString w a l.length c _ hload, hfold]
    simp
end Go.Hp
