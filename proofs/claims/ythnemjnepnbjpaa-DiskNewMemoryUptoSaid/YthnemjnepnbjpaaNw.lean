/- DiskNewMemory: the pieces of memory; what the calls make of the disk (plainly); filled: each of some slices is written full with a mark and handed back one mark longer (they lie apart, at most fifty); loadedOwn: what Load is handed is neither kept nor written into (the bytes are read; at most 1048576). Conditions: each law's own. -/
import Derived.Test.YthnemjnepnbjpaaPx
import Derived.Test.YthnemjnepnbjpaaLc
import Derived.Test.YthnemjnepnbjpaaMy
import Derived.Test.YthnemjnepnbjpaaWs
namespace Go.Hp
open Go Go.RowKit
set_option linter.unusedVariables false
set_option linter.unusedSimpArgs false
theorem run_append_full {P : Program} (w : World) (t ty E : TypeId) (i : TypeInfo) (z : Value) (bytes : Nat) (ht : P.underlying t = some (.slice E)) (hi : P.info? E = some i) (hz : i.zero = some z)
    (hsize : i.size = 1) (hby : i.bytes = bytes) (hzs : z.cells.size = 1)
    {a : Addr} {x : Value} {n m : Nat} {cs ns : List Value} (hn : 0 < n) (hv : RC w 1 (.slice (some a) n n) n cs) (hx : RC w 1 x m ns)
    (hb1 : 0 < bytes) (hbytes : (n + m) * bytes ≤ 140737488355328) :
    ∃ v' w', (Builtin.append_ #[t, t] ty #[.slice (some a) n n, x]).run P w = .ok v' w' ∧ RC w' 1 v' (n + m) (cs ++ ns) ∧ Chg (fun _ => False) w w' ∧
      (∀ b, sblk v' = some b → sblk (.slice (some a) n n) = some b ∨ w.heap.size ≤ b) := by
  subst hby
  have hcl := hv.len
  have hx0 := hx
  obtain ⟨q, d, rfl, hmd, hnl, hx4⟩ := hx
  have hnm : n + m ≤ 140737488355328 := Nat.le_trans (Nat.le_mul_of_pos_right _ hb1) hbytes
  by_cases hm : m = 0
  · subst hm
    have hns : ns = [] := List.eq_nil_of_length_eq_zero (by simpa using hnl)
    subst hns
    refine ⟨.slice (some a) n n, w, ?_, by simpa using hv, Chg.refl _ _, fun b h => .inl h⟩
    cases q with
    | none => simp [Builtin.append_, run_underlying ht, sizeOf, typeInfo, hi, Builtin.lenOf, Builtin.firstCells, storeCells]
    | some b => simp [Builtin.append_, run_underlying ht, sizeOf, typeInfo, hi, Builtin.lenOf, Builtin.firstCells, loadCells, loadCellsFrom, storeCells]
  · have hd : d ≠ 0 := by omega
    obtain ⟨b, off, arr, t', fz, rfl, hh, hcell⟩ := hx4 hd
    have hnews : ∀ j u, ns[j]? = some u → w.cell? ((⟨b, off, none⟩ : Addr).add j) = some u := fun j u hu => hx0.cell rfl hd j u hu
    have hlen : (cs ++ ns).length = (n + m) * 1 := by rw [List.length_append, hcl, hnl, Nat.add_mul]
    have hr := run_append_grow (P := P) w t ty E i z ht hi hz a n n cs (by rw [hsize]; exact hcl) (fun j u hu => hv.cell rfl (by omega) j u hu) ⟨b, off, none⟩ m d ns (by rw [hsize]; exact hnl) hnews (by omega) (by omega) (growslice_fits (by omega) hbytes)
    refine ⟨_, _, hr, ?_, (Chg.refl _ w).drew.alloc _, ?_⟩
    · have hge := grownCap_ge w (n + m) n E
      have h := OC_new w.drew 1 E (cs.toArray ++ ns.toArray ++ Builtin.zeroCells z.cells (grownCap w (n + m) n E - (n + m))) (n + m) (grownCap w (n + m) n E) hge
        (grownCap_le_maxLen w (n + m) n E (by unfold maxLen; omega)) (by
          simp only [Array.size_append, List.size_toArray, size_zeroCells, hzs, hcl, hnl]
          omega)
      simp only [Array.toList_append, List.append_assoc] at h
      rw [← List.append_assoc, ← hlen, List.take_left] at h
      exact h.rc
    · intro b' hb'
      obtain ⟨_, a', ha, rfl⟩ := sblk_cap hb'
      cases ha; exact .inr (Nat.le_refl _)
end Go.Hp
namespace Go.Proofs
open Go.RowKit Go.Hp Go.Dm Go.Dr
set_option linter.unusedVariables false
set_option linter.unusedSimpArgs false
/-- append behind a constant's bytes -/
theorem wpList_append_full {ops : Array Oper} {rest : List Oper} {o : Oper} {a : Act} {w : World} {Q : Exit → Act → World → Prop} (hg : o.guard = none) (s x : Operand)
    (hop : o.op = .call { callee := .builtin .append, args := #[s, x], argTypes := #[22, 22] }) {p : Addr} {y : Value} {l m : List UInt8} (hs : a.eval s = .slice (some p) l.length l.length) (hx : a.eval x = y)
    (hl : 0 < l.length) (hv : RB w (.slice (some p) l.length l.length) l) (hy : RB w y m) (hlen : l.length + m.length ≤ 140737488355328)
    (h : ∀ pv lv cv w', RB w' (.slice pv lv cv) (l ++ m) → Chg (fun _ => False) w w' → (∀ b, sblk (.slice pv lv cv) = some b → sblk (.slice (some p) l.length l.length) = some b ∨ w.heap.size ≤ b) →
      wpList Try.prog ops Q rest (a.put o.dst (.slice pv lv cv)) w') : wpList Try.prog ops Q (o :: rest) a w := by
  obtain ⟨i0, hi, hz0, hz1, hz2⟩ := info_parts info_u8
  obtain ⟨v', w', hrun, r1, r2, r3⟩ := run_append_full (P := Try.prog) w 22 o.type 5 i0 _ 1 Try.underlying22 hi hz0 hz1 hz2 rfl hl hv hy (by decide) (by omega)
  have r1' : RB w' v' (l ++ m) := by
    show RC w' 1 v' (l ++ m).length ((l ++ m).map u8)
    rw [List.length_append, List.map_append]; exact r1
  obtain ⟨pv, cv, rfl, -⟩ := id r1'
  refine wpList_value hg ?_ (h pv _ cv w' r1' r2 r3)
  subst hx
  simp [execOp, hop, resolve, invoke, builtin, hs, hrun, Result.andThen]
end Go.Proofs

namespace Go.Hp
open Go Go.RowKit
set_option linter.unusedVariables false
set_option linter.unusedSimpArgs false
/-- what was read ahead of an append reads the same behind it -/
theorem run_append_old {P : Program} (w : World) (t ty E : TypeId) (i : TypeInfo) (z : Value) (k bytes : Nat) (ht : P.underlying t = some (.slice E)) (hi : P.info? E = some i) (hz : i.zero = some z)
    (hsize : i.size = k) (hby : i.bytes = bytes) (hzs : z.cells.size = k) (hk : 0 < k)
    {v x : Value} {n m : Nat} {cs ns : List Value} (hv : OC w k E v n cs) (hx : RC w k x m ns) (h1 : ∀ u ∈ ns, u.oneCell' = true)
    (hb1 : 0 < bytes) (hbytes : (n + m) * bytes ≤ 140737488355328) {v' : Value} {w' : World} (hrun : (Builtin.append_ #[t, t] ty #[v, x]).run P w = .ok v' w') : RC w' k v n cs := by
  subst hsize hby
  have hv0 := hv
  obtain ⟨p, c, rfl, hnc, hcm, hcl, hv4⟩ := hv
  have hx0 := hx
  obtain ⟨q, d, rfl, hmd, hnl, hx4⟩ := hx
  have hnm : n + m ≤ 140737488355328 := Nat.le_trans (Nat.le_mul_of_pos_right _ hb1) hbytes
  by_cases hm : m = 0
  · subst hm
    have hns : ns = [] := List.eq_nil_of_length_eq_zero (by simpa using hnl)
    subst hns
    have hr : (Builtin.append_ #[t, t] ty #[.slice p n c, .slice q 0 d]).run P w = .ok (.slice p n c) w := by
      cases q with
      | none => cases p <;> simp [Builtin.append_, run_underlying ht, sizeOf, typeInfo, hi, Builtin.lenOf, Builtin.firstCells, hnc, storeCells]
      | some a => cases p <;> simp [Builtin.append_, run_underlying ht, sizeOf, typeInfo, hi, Builtin.lenOf, Builtin.firstCells, loadCells, loadCellsFrom, hnc, storeCells]
    rw [hr] at hrun
    cases hrun
    exact hv0.rc
  · have hd : d ≠ 0 := by omega
    obtain ⟨b, off, arr, t', fz, rfl, hh, hcell⟩ := hx4 hd
    have hnews : ∀ j u, ns[j]? = some u → w.cell? ((⟨b, off, none⟩ : Addr).add j) = some u := fun j u hu => hx0.cell rfl hd j u hu
    have chg : ∀ o, Chg (fun _ => False) w (w.drew.alloc o) := fun o => (Chg.refl _ w).drew.alloc o
    by_cases hroom : n + m ≤ c
    · have hc : c ≠ 0 := by omega
      obtain ⟨g, cur, rfl, hg, hcs, htake⟩ := hv4 hc
      have hfit : n * i.size + ns.length ≤ cur.size := by rw [hnl, hcs, ← Nat.add_mul]; exact Nat.mul_le_mul_right _ hroom
      have hr := run_append_room (P := P) w t ty E i ht hi g n c cur hg ⟨b, off, none⟩ m d ns hnl hnews h1 hroom hfit
      rw [hr] at hrun
      cases hrun
      refine ⟨_, c, rfl, hnc, hcl, fun _ => ⟨g, 0, _, _, _, rfl, setRow_heap w g cur _ E _ hg, fun j u hu => ?_⟩⟩
      have hj : j < cs.length := (List.getElem?_eq_some_iff.1 hu).1
      have hle : n * i.size ≤ cur.toList.length := by simp; omega
      rw [Nat.zero_add, List.getElem?_toArray, List.append_assoc, List.getElem?_append_left (by rw [htake]; exact hj), htake]
      exact hu
    · cases p with
      | none =>
        have hc : c = 0 := by
          by_cases h : c = 0
          · exact h
          · obtain ⟨g, cur, hp, _⟩ := hv4 h; cases hp
        subst hc
        have hn : n = 0 := by omega
        subst hn
        exact ⟨none, 0, rfl, Nat.le_refl _, hcl, fun h => absurd rfl h⟩
      | some a =>
        have hr := run_append_grow (P := P) w t ty E i z ht hi hz a n c cs hcl (fun j u hu => by
            by_cases hc : c = 0
            · have : n = 0 := by omega
              subst this
              have hcs : cs = [] := List.eq_nil_of_length_eq_zero (by simpa using hcl)
              subst hcs; cases hu
            · exact hv0.rc.cell rfl hc j u hu)
          ⟨b, off, none⟩ m d ns hnl hnews (by omega) (by omega) (growslice_fits (by omega) hbytes)
        rw [hr] at hrun
        cases hrun
        exact RC.chg hv0.rc (chg _) fun _ _ h => h
end Go.Hp
namespace Go.Proofs
open Go.RowKit Go.Hp Go.Dm Go.Dr
set_option linter.unusedVariables false
set_option linter.unusedSimpArgs false
section
variable {W w w' : World} {L : List Ent} {x y z : Ent}
/-- append of bytes: what was read ahead of it reads the same -/
theorem wpList_append_bytes2 {ops : Array Oper} {rest : List Oper} {o : Oper} {a : Act} {Q : Exit → Act → World → Prop} (hg : o.guard = none) (s x : Operand)
    (hop : o.op = .call { callee := .builtin .append, args := #[s, x], argTypes := #[22, 22] }) {v y : Value} {l m : List UInt8} (hs : a.eval s = v) (hx : a.eval x = y)
    (hv : OB w 5 v l) (hy : RB w y m) (hlen : l.length + m.length ≤ 140737488355328)
    (h : ∀ pv lv cv w', OB w' 5 (.slice pv lv cv) (l ++ m) → RB w' v l → Chg (fun b => sblk v = some b) w w' → (∀ b, sblk (.slice pv lv cv) = some b → sblk v = some b ∨ w.heap.size ≤ b) →
      wpList Try.prog ops Q rest (a.put o.dst (.slice pv lv cv)) w') : wpList Try.prog ops Q (o :: rest) a w := by
  obtain ⟨i0, hi, hz0, hz1, hz2⟩ := info_parts info_u8
  obtain ⟨v', w', hrun, r1, r2, r3, r4⟩ := run_append_any (P := Try.prog) w 22 o.type 5 i0 _ 1 1 Try.underlying22 hi hz0 hz1 hz2 rfl (by decide) hv hy (u8_one m) (by decide) (by omega)
  have r5 := run_append_old (P := Try.prog) w 22 o.type 5 i0 _ 1 1 Try.underlying22 hi hz0 hz1 hz2 rfl (by decide) hv hy (u8_one m) (by decide) (by omega) hrun
  have h1' : OB w' 5 v' (l ++ m) := by
    show OC w' 1 5 v' (l ++ m).length ((l ++ m).map u8)
    rw [List.length_append, List.map_append]; exact r1
  obtain ⟨pv, cv, rfl, _⟩ := id h1'
  refine wpList_value hg ?_ (h pv _ cv w' h1' r5 r2 r3)
  subst hs hx
  simp [execOp, hop, resolve, invoke, builtin, hrun, Result.andThen]

theorem info_rows : (Try.prog.info? 22).map (fun i => (i.zero, i.size, i.bytes)) = some (some (.slice none 0 0), 1, 24) := by kernel_rfl
/-- append of slices of bytes -/
theorem wpList_append_rows {ops : Array Oper} {rest : List Oper} {o : Oper} {a : Act} {Q : Exit → Act → World → Prop} (hg : o.guard = none) (s x : Operand)
    (hop : o.op = .call { callee := .builtin .append, args := #[s, x], argTypes := #[46, 46] }) {v y : Value} {l m : List Value} (hs : a.eval s = v) (hx : a.eval x = y)
    (hv : OC w 1 22 v l.length l) (hy : RC w 1 y m.length m) (h1 : ∀ u ∈ m, u.oneCell' = true) (hlen : l.length + m.length ≤ 1099511627776)
    (h : ∀ pv lv cv w', OC w' 1 22 (.slice pv lv cv) (l ++ m).length (l ++ m) → lv = l.length + m.length → Chg (fun b => sblk v = some b) w w' → (∀ b, sblk (.slice pv lv cv) = some b → sblk v = some b ∨ w.heap.size ≤ b) →
      wpList Try.prog ops Q rest (a.put o.dst (.slice pv lv cv)) w') : wpList Try.prog ops Q (o :: rest) a w := by
  obtain ⟨i0, hi, hz0, hz1, hz2⟩ := info_parts info_rows
  refine wpList_append_oc hg s x 46 hop 22 i0 _ 1 24 Try.underlying46 hi hz0 hz1 hz2 rfl (by decide) hs hx hv hy h1 (by decide) (by omega) fun v' w' r1 h2 h3 h4 => ?_
  rw [← List.length_append] at r1
  obtain ⟨pv, cv, rfl, _⟩ := id r1
  exact h pv _ cv w' r1 (by simp) h2 h3

/-- bytes of their own, as a piece of memory -/
def Ent.bytes (v : Value) (l : List UInt8) : Ent := ⟨(sblk v).toList, fun w => OB w 5 v l⟩
theorem good_bytes (v : Value) (l : List UInt8) : (Ent.bytes v l).Good := ⟨fun h hk => OC.keep h fun b hb => hk b (by simp [Ent.bytes, hb]), fun h k hk => OC.lt h (by simpa [Ent.bytes] using hk)⟩
theorem Many.addBytes {v : Value} {l : List UInt8} (h : Many W w L) (ho : OB w' 5 v l) (hc : Chg (fun _ => False) w w') (hn : ∀ b, sblk v = some b → w.heap.size ≤ b) : Many W w' (Ent.bytes v l :: L) :=
  h.add (y := Ent.bytes v l) hc ho (good_bytes _ _) fun k hk => hn k (by simpa [Ent.bytes] using hk)
/-- bytes put behind bytes of their own -/
theorem Many.growBytes {v v' : Value} {l l' : List UInt8} (h : Many W w (Ent.bytes v l :: L)) (ho : OB w' 5 v' l') (hc : Chg (fun b => sblk v = some b) w w') (hb : ∀ b, sblk v' = some b → sblk v = some b ∨ w.heap.size ≤ b) : Many W w' (Ent.bytes v' l' :: L) :=
  h.turn (y := Ent.bytes v' l') ho (good_bytes _ _) ⟨hc.mono fun k hk => .inl (by simp [Ent.bytes, hk]), fun k hk => (hb k (by simpa [Ent.bytes] using hk)).imp (fun h => by simp [Ent.bytes, h]) id⟩
/-- a byte of the first piece is another one -/
theorem Many.setByte {bb n c : Nat} {l : List UInt8} (h : Many W w (Ent.bytes (.slice (some ⟨bb, 0, none⟩) l.length c) l :: L)) (hn : n < l.length) (u : UInt8) :
    Many W (w.setCell ⟨bb, n, none⟩ (u8 u)) (Ent.bytes (.slice (some ⟨bb, 0, none⟩) l.length c) (l.set n u) :: L) := by
  have ho : OB w 5 (.slice (some ⟨bb, 0, none⟩) l.length c) l := h.first
  have hc : c ≠ 0 := by obtain ⟨_, _, e, h1, -⟩ := ho; simp only [Value.slice.injEq] at e; omega
  have hs := OB_set ho hn u
  refine h.turn (y := Ent.bytes (.slice (some ⟨bb, 0, none⟩) l.length c) (l.set n u)) hs (good_bytes _ _) ⟨(Chg.refl _ _).setCell (.inl ?_) _, fun k hk => .inl hk⟩
  show bb ∈ (sblk (.slice (some ⟨bb, 0, none⟩) l.length c)).toList
  rw [sblk_some hc]; simp

/-- a byte of bytes of their own, and that it may be written -/
theorem OB.at_ {E : TypeId} {bb n c j : Nat} {l : List UInt8} (h : OB w E (.slice (some ⟨bb, 0, none⟩) n c) l) (hj : j < l.length) : w.cell? ⟨bb, j, none⟩ = some (.int .u8 ((l[j]'hj).toNat : Int)) ∧ w.frozen? ⟨bb, j, none⟩ = false := by
  obtain ⟨p, c', he, h1, h2, h3, h4⟩ := h
  simp only [Value.slice.injEq] at he
  obtain ⟨hp, rfl, rfl⟩ := he
  obtain ⟨b, arr, hp2, hh, hs, ht⟩ := h4 (by omega)
  rw [hp2] at hp
  obtain rfl : bb = b := by simpa using hp
  refine ⟨?_, hfree_of hh j⟩
  rw [hcell_of hh]
  have e : (arr.toList.take (l.length * 1))[j]? = (l.map u8)[j]? := by rw [ht]
  rw [List.getElem?_take_of_lt (by omega)] at e
  simpa [hj] using e
theorem OB.blk {E : TypeId} {p : Option Addr} {n c : Nat} {l : List UInt8} (h : OB w E (.slice p n c) l) (hl : l ≠ []) : ∃ bb, p = some ⟨bb, 0, none⟩ := by
  obtain ⟨p, c', he, h1, h2, h3, h4⟩ := h
  simp only [Value.slice.injEq] at he
  obtain ⟨rfl, -, rfl⟩ := he
  obtain ⟨b, arr, rfl, -⟩ := h4 (by have := List.length_pos_iff.2 hl; omega)
  exact ⟨b, rfl⟩
theorem OB.lenEq {E : TypeId} {p : Option Addr} {n c : Nat} {l : List UInt8} (h : OB w E (.slice p n c) l) : n = l.length ∧ l.length ≤ c := by
  obtain ⟨p', c', e, h1, -⟩ := h; simp only [Value.slice.injEq] at e; exact ⟨e.2.1, by omega⟩

/-- g, written full, and the longer v; their blocks lie apart from all others -/
def Ent.full (g v : Value) (n : Nat) (c : UInt8) : Ent := ⟨(sblk g).toList ++ (sblk v).toList, fun w => RB w g (List.replicate n c) ∧ OB w 5 v (List.replicate (n + 1) c)⟩
theorem good_full (g v : Value) (n : Nat) (c : UInt8) : (Ent.full g v n c).Good :=
  ⟨fun h hk => ⟨RC.keep h.1 fun b hb => hk b (by simp [Ent.full, hb]), OC.keep h.2 fun b hb => hk b (by simp [Ent.full, hb])⟩,
   fun h k hk => (List.mem_append.1 hk).elim (fun hk => RC.lt h.1 (by simpa using hk)) (fun hk => OC.lt h.2 (by simpa using hk))⟩
theorem Many.toFull {g v : Value} {n : Nat} {c : UInt8} (h : Many W w (Ent.bytes g (List.replicate n c) :: L)) (h1 : RB w' g (List.replicate n c)) (h2 : OB w' 5 v (List.replicate n c ++ [c]))
    (hc : Chg (fun b => sblk g = some b) w w') (hb : ∀ b, sblk v = some b → sblk g = some b ∨ w.heap.size ≤ b) : Many W w' (Ent.full g v n c :: L) := by
  rw [← List.replicate_succ'] at h2
  refine h.turn (y := Ent.full g v n c) ⟨h1, h2⟩ (good_full _ _ _ _) ⟨hc.mono fun k hk => .inl (by simp [Ent.bytes, hk]), fun k hk => ?_⟩
  rcases List.mem_append.1 hk with hk | hk
  · exact .inl hk
  · exact (hb k (by simpa using hk)).imp (fun h => by simp [Ent.bytes, h]) id

/-- a slice of slices of its own -/
def Ent.rows (v : Value) (cs : List Value) : Ent := ⟨(sblk v).toList, fun w => OC w 1 22 v cs.length cs⟩
theorem good_rows (v : Value) (cs : List Value) : (Ent.rows v cs).Good := ⟨fun h hk => OC.keep h fun b hb => hk b (by simp [Ent.rows, hb]), fun h k hk => OC.lt h (by simpa [Ent.rows] using hk)⟩
theorem Many.addRows {v : Value} {cs : List Value} (h : Many W w L) (ho : OC w' 1 22 v cs.length cs) (hc : Chg (fun _ => False) w w') (hn : ∀ b, sblk v = some b → w.heap.size ≤ b) : Many W w' (Ent.rows v cs :: L) :=
  h.add (y := Ent.rows v cs) hc ho (good_rows _ _) fun k hk => hn k (by simpa [Ent.rows] using hk)
theorem Many.growRows {v v' : Value} {cs cs' : List Value} (h : Many W w (Ent.rows v cs :: L)) (ho : OC w' 1 22 v' cs'.length cs') (hc : Chg (fun b => sblk v = some b) w w') (hb : ∀ b, sblk v' = some b → sblk v = some b ∨ w.heap.size ≤ b) : Many W w' (Ent.rows v' cs' :: L) :=
  h.turn (y := Ent.rows v' cs') ho (good_rows _ _) ⟨hc.mono fun k hk => .inl (by simp [Ent.rows, hk]), fun k hk => (hb k (by simpa [Ent.rows] using hk)).imp (fun h => by simp [Ent.rows, h]) id⟩
theorem Many.addBox (h : Many W w L) (o : Obj) : Many W (w.alloc o) (Ent.box w.heap.size o :: L) :=
  h.add (y := Ent.box w.heap.size o) ((Chg.refl _ w).alloc o) (halloc_at w o) (good_box _ _) fun k hk => by
    have : k = w.heap.size := by simpa [Ent.box] using hk
    omega
/-- a piece of which nothing is said -/
def Ent.some (F : List Nat) : Ent := ⟨F, fun w => ∀ k ∈ F, k < w.heap.size⟩
theorem OC.at1 {E : TypeId} {b n m c j : Nat} {cs : List Value} (h : OC w 1 E (.slice (some ⟨b, 0, none⟩) n c) m cs) (hj : j < cs.length) : w.cell? ⟨b, j, none⟩ = some (cs[j]'hj) ∧ w.frozen? ⟨b, j, none⟩ = false := by
  obtain ⟨p, c', he, h1, h2, h3, h4⟩ := h
  simp only [Value.slice.injEq] at he
  obtain ⟨hp, rfl, rfl⟩ := he
  obtain ⟨b', arr, hp2, hh, hs, ht⟩ := h4 (by omega)
  rw [hp2] at hp
  obtain rfl : b = b' := by simpa using hp
  refine ⟨?_, hfree_of hh j⟩
  rw [hcell_of hh]
  have e : (arr.toList.take (n * 1))[j]? = cs[j]? := by rw [ht]
  rw [List.getElem?_take_of_lt (by omega)] at e
  simpa [hj] using e
theorem OC.atk {k : Nat} {E : TypeId} {b n m c j : Nat} {cs : List Value} {u : Value} (h : OC w k E (.slice (some ⟨b, 0, none⟩) n c) m cs) (hj : cs[j]? = some u) : w.cell? ⟨b, j, none⟩ = some u ∧ w.frozen? ⟨b, j, none⟩ = false := by
  have hl := (List.getElem?_eq_some_iff.1 hj).1
  obtain ⟨p, c', he, h1, h2, h3, h4⟩ := h
  simp only [Value.slice.injEq] at he
  obtain ⟨hp, rfl, rfl⟩ := he
  have hc : c ≠ 0 := by
    rintro rfl
    have : n = 0 := by omega
    subst this
    simp at h3; rw [h3] at hl; simp at hl
  obtain ⟨b', arr, hp2, hh, hs, ht⟩ := h4 hc
  rw [hp2] at hp
  obtain rfl : b = b' := by simpa using hp
  refine ⟨?_, hfree_of hh j⟩
  rw [hcell_of hh]
  rw [← ht, List.getElem?_take] at hj
  split at hj
  · simpa using hj
  · cases hj
theorem OC.blk1 {E : TypeId} {p : Option Addr} {n m c : Nat} {cs : List Value} (h : OC w 1 E (.slice p n c) m cs) (hl : 0 < m) : ∃ b, p = some ⟨b, 0, none⟩ := by
  obtain ⟨p, c', he, h1, h2, h3, h4⟩ := h
  simp only [Value.slice.injEq] at he
  obtain ⟨rfl, -, rfl⟩ := he
  obtain ⟨b, arr, rfl, -⟩ := h4 (by omega)
  exact ⟨b, rfl⟩
/-- a slice written full, and the longer one behind it -/
structure DF where
  g : LF
  p : Option Addr
  c : Nat
  m : UInt8
def DF.v (d : DF) : Value := .slice d.p (d.g.bytes.length + 1) d.c
def DF.ent (d : DF) : Ent := Ent.full d.g.sv d.v d.g.bytes.length d.m
def LF.ent (g : LF) : Ent := Ent.bytes g.sv g.bytes
/-- what filled has done with the first ones -/
structure Fulls (gs : List LF) (ds : List DF) : Prop where
  is : ds.map DF.g = gs.take ds.length
  mark : ∀ k d, ds[k]? = some d → d.m = UInt8.ofNat (200 + k)
theorem Fulls.nil (gs : List LF) : Fulls gs [] := ⟨by simp, by simp⟩
theorem Fulls.snoc {gs : List LF} {ds : List DF} {g : LF} (h : Fulls gs ds) (hg : gs[ds.length]? = some g) (p : Option Addr) (c : Nat) : Fulls gs (ds ++ [⟨g, p, c, UInt8.ofNat (200 + ds.length)⟩]) := by
  refine ⟨?_, fun k d hk => ?_⟩
  · rw [List.map_append, h.is, List.length_append, List.length_singleton, List.take_add_one, hg]; rfl
  · rw [List.getElem?_append] at hk
    split at hk
    · exact h.mark k d hk
    · rename_i h1
      have : k = ds.length := by
        have := (List.getElem?_eq_some_iff.1 hk).1
        simp at this; omega
      subst this
      obtain rfl : (⟨g, p, c, UInt8.ofNat (200 + ds.length)⟩ : DF) = d := by simpa using hk
      rfl
theorem good_some (F : List Nat) : (Ent.some F).Good := ⟨fun {w w'} h hk k hkF => by
    have h1 : k < w.heap.size := h k hkF
    have h2 := hk k hkF
    rw [Array.getElem?_eq_getElem h1] at h2
    exact hlt_of h2, fun h => h⟩
theorem two_of {l : List LF} {a b : Fl} (h : l.map LF.fl = [a, b]) : ∃ f g, l = [f, g] ∧ f.fl = a ∧ g.fl = b := by
  match l, h with
  | [], h => simp at h
  | [f], h => simp at h
  | [f, g], h => exact ⟨f, g, rfl, by simpa using h⟩
  | f :: g :: k :: r, h => simp at h
/-- pieces in another order -/
theorem Many.byIdx {L : List Ent} {n : Nat} (p : List Nat) (h : Many W w L) (d : Ent) (hn : L.length = n) (hp : (List.range n).Perm p) : Many W w (p.map fun i => L.getD i d) := by
  subst hn
  refine h.perm ?_
  have e : L = (List.range L.length).map fun i => L.getD i d := by
    apply List.ext_getElem?
    intro i
    by_cases hi : i < L.length
    · simp [hi]
    · simp [hi]
  exact (List.Perm.of_eq e).trans (hp.map _)
theorem Many.sub {L' : List Ent} (h : Many W w L) (hs : L'.Sublist L) : Many W w L' :=
  ⟨fun x hx => h.holds x (hs.subset hx), fun x hx => h.good x (hs.subset hx), fun x hx => h.new x (hs.subset hx), h.apart.sublist hs, h.chg⟩
/-- one piece taken as two -/
theorem Many.split (h : Many W w (x :: L)) (hy : y.P w) (hz : z.P w) (gy : y.Good) (gz : z.Good) (hF : ∀ k, k ∈ y.F ∨ k ∈ z.F → k ∈ x.F) (hd : ∀ k ∈ y.F, k ∉ z.F) : Many W w (y :: z :: L) := by
  have hap := List.pairwise_cons.1 h.apart
  refine ⟨fun u hu => ?_, fun u hu => ?_, fun u hu k hk => ?_, List.pairwise_cons.2 ⟨fun u hu k hk hku => ?_, List.pairwise_cons.2 ⟨fun u hu k hk hku => ?_, hap.2⟩⟩, h.chg⟩
  · rcases List.mem_cons.1 hu with rfl | hu
    · exact hy
    · rcases List.mem_cons.1 hu with rfl | hu
      · exact hz
      · exact h.holds u (by simp [hu])
  · rcases List.mem_cons.1 hu with rfl | hu
    · exact gy
    · rcases List.mem_cons.1 hu with rfl | hu
      · exact gz
      · exact h.good u (by simp [hu])
  · rcases List.mem_cons.1 hu with rfl | hu
    · exact h.new x (by simp) k (hF k (.inl hk))
    · rcases List.mem_cons.1 hu with rfl | hu
      · exact h.new x (by simp) k (hF k (.inr hk))
      · exact h.new u (by simp [hu]) k hk
  · rcases List.mem_cons.1 hu with rfl | hu
    · exact hd k hk hku
    · exact hap.1 u hu k (hF k (.inl hk)) hku
  · exact hap.1 u hu k (hF k (.inr hk)) hku
/-- the array of a slice of files, without their bytes -/
def Ent.heads (v : Value) (l : List LF) : Ent := ⟨(sblk v).toList, fun w => OC w 3 41 v l.length (l.flatMap LF.enc)⟩
theorem good_heads (v : Value) (l : List LF) : (Ent.heads v l).Good := ⟨fun h hk => OC.keep h fun b hb => hk b (by simp [Ent.heads, hb]), fun h k hk => OC.lt h (by simpa [Ent.heads] using hk)⟩
/-- two files: their array and the bytes of each -/
theorem Many.files2 {v : Value} {f g : LF} (h : Many W w (Ent.files v [f, g] :: L)) : Many W w (Ent.heads v [f, g] :: Ent.bytes f.sv f.bytes :: Ent.bytes g.sv g.bytes :: L) := by
  have hf : FilesAt w v [f, g] := h.first
  have hnd := hf.nodup
  have hn2 : ((sblk v).toList ++ ((sblk f.sv).toList ++ (sblk g.sv).toList)).Nodup := by simpa [lblks, LF.blk] using hnd
  obtain ⟨-, h2, h3⟩ := List.nodup_append.1 hn2
  obtain ⟨-, -, h5⟩ := List.nodup_append.1 h2
  have m1 : Many W w (Ent.files v [f, g] :: L) := h
  let r : Ent := ⟨(sblk f.sv).toList ++ (sblk g.sv).toList, fun w => OB w 5 f.sv f.bytes ∧ OB w 5 g.sv g.bytes⟩
  have gr : r.Good := ⟨fun h hk => ⟨OC.keep h.1 fun b hb => hk b (by simp [r, hb]), OC.keep h.2 fun b hb => hk b (by simp [r, hb])⟩,
    fun h k hk => (List.mem_append.1 hk).elim (fun hk => OC.lt h.1 (by simpa using hk)) (fun hk => OC.lt h.2 (by simpa using hk))⟩
  have m2 : Many W w (Ent.heads v [f, g] :: r :: L) := m1.split hf.sl ⟨hf.each f (by simp), hf.each g (by simp)⟩ (good_heads _ _) gr
    (fun k hk => by
      show k ∈ lblks v [f, g]
      have : k ∈ (sblk v).toList ++ ((sblk f.sv).toList ++ (sblk g.sv).toList) := List.mem_append.2 hk
      simpa [lblks, LF.blk] using this)
    (fun k hk hk' => h3 k hk k hk' rfl)
  have m3 := (m2.swap12.split (y := Ent.bytes f.sv f.bytes) (z := Ent.bytes g.sv g.bytes) (hf.each f (by simp)) (hf.each g (by simp)) (good_bytes _ _) (good_bytes _ _) (fun k hk => List.mem_append.2 hk) (fun k hk hk' => h5 k hk k hk' rfl))
  exact m3.front3
end
end Go.Proofs

namespace Go.Proofs
open Go.Dm
set_option linter.unusedVariables false
set_option linter.unusedSimpArgs false
section
variable {X Y B : List UInt8} {L n : Nat}
theorem sort1 (f : Fl) : sortL [f] = [f] := rfl
theorem ow1 (hn : B.length + 1 ≤ n) : (⟨n, sortL [⟨nA, B, 1⟩], false, 0, 0⟩ : Dk).append nA [84] = ((1, 0), ⟨n, [⟨nA, B ++ [84], 1⟩], false, 0, 0⟩) := by
  rw [sort1]
  have hl : (⟨n, [⟨nA, B, 1⟩], false, 0, 0⟩ : Dk).look nA = 0 := by simp [Dk.look, okA, Dm.get, beqA]
  rw [append_eq (.inl hl) rfl]
  have hm : min [(84 : UInt8)].length (n - (⟨n, [⟨nA, B, 1⟩], false, 0, 0⟩ : Dk).used) = 1 := by simp [Dk.used, total]; omega
  rw [hm]
  simp [Dk.fires, Dk.tick, putB, Dm.get, beqA, upd]
theorem nm1 (hL : L = 2 * X.length + Y.length + 9) : (⟨L, [], false, 0, 0⟩ : Dk).append nA (X ++ [112]) = ((X.length + 1, 0), ⟨L, [⟨nA, X ++ [112], 0⟩], false, 0, 0⟩) := by
  have hl : (⟨L, [], false, 0, 0⟩ : Dk).look nA = 112 := by simp [Dk.look, okA, Dm.get]
  rw [append_eq (.inr hl) rfl]
  have hm : min (X ++ [(112 : UInt8)]).length (L - (⟨L, [], false, 0, 0⟩ : Dk).used) = X.length + 1 := by simp [Dk.used, total]; omega
  rw [hm]
  simp [Dk.fires, Dk.tick, putB, Dm.get, ins, List.take_of_length_le]
theorem nm2 (hL : L = 2 * X.length + Y.length + 9) : (⟨L, [⟨nA, X ++ [112], 0⟩], false, 0, 0⟩ : Dk).append nB Y = ((Y.length, 0), ⟨L, [⟨nA, X ++ [112], 0⟩, ⟨nB, Y, 0⟩], false, 0, 0⟩) := by
  have hl : (⟨L, [⟨nA, X ++ [112], 0⟩], false, 0, 0⟩ : Dk).look nB = 112 := by simp [Dk.look, okB, Dm.get, beqAB]
  rw [append_eq (.inr hl) rfl]
  have hm : min Y.length (L - (⟨L, [⟨nA, X ++ [112], 0⟩], false, 0, 0⟩ : Dk).used) = Y.length := by simp [Dk.used, total]; omega
  rw [hm]
  simp [Dk.fires, Dk.tick, putB, Dm.get, ins, beqAB, nltBA]
theorem nm3 (hL : L = 2 * X.length + Y.length + 9) : (⟨L, [⟨nA, X ++ [112], 0⟩, ⟨nB, Y, 0⟩], false, 0, 0⟩ : Dk).append nB [101] = ((1, 0), ⟨L, [⟨nA, X ++ [112], 0⟩, ⟨nB, Y ++ [101], 0⟩], false, 0, 0⟩) := by
  have hl : (⟨L, [⟨nA, X ++ [112], 0⟩, ⟨nB, Y, 0⟩], false, 0, 0⟩ : Dk).look nB = 0 := by simp [Dk.look, okB, Dm.get, beqAB]
  rw [append_eq (.inl hl) rfl]
  have hm : min [(101 : UInt8)].length (L - (⟨L, [⟨nA, X ++ [112], 0⟩, ⟨nB, Y, 0⟩], false, 0, 0⟩ : Dk).used) = 1 := by simp [Dk.used, total]; omega
  rw [hm]
  simp [Dk.fires, Dk.tick, putB, Dm.get, beqAB, upd, nAB]
theorem nm4 : (⟨L, [⟨nA, X ++ [112], 0⟩, ⟨nB, Y ++ [101], 0⟩], false, 0, 0⟩ : Dk).read nA 0 ((X.length : Int) + 1) = (X ++ [112], 0) := by
  have hl : (⟨L, [⟨nA, X ++ [112], 0⟩, ⟨nB, Y ++ [101], 0⟩], false, 0, 0⟩ : Dk).look nA = 0 := by simp [Dk.look, okA, Dm.get, beqA]
  unfold Dk.read
  have h1 : bytesOf [(⟨nA, X ++ [112], 0⟩ : Fl), ⟨nB, Y ++ [101], 0⟩] nA = X ++ [112] := by simp [bytesOf, Dm.get, beqA]
  have h2 : lenOf [(⟨nA, X ++ [112], 0⟩ : Fl), ⟨nB, Y ++ [101], 0⟩] nA = X.length + 1 := by unfold lenOf; rw [show Dm.get [(⟨nA, X ++ [112], 0⟩ : Fl), ⟨nB, Y ++ [101], 0⟩] nA = some ⟨nA, X ++ [112], 0⟩ by simp [Dm.get, beqA]]; simp
  rw [if_pos hl, h1, h2, if_neg (by omega), show Int.toNat 0 = 0 from rfl, List.drop_zero, List.take_of_length_le (by simp)]
end
end Go.Proofs

namespace Go.Proofs
open Go.RowKit Go.Hp Go.Dm Go.Dr
set_option linter.unusedVariables false
set_option linter.unusedSimpArgs false
set_option maxRecDepth 10000
section
variable {W w : World} {p : Option Addr} {c : Nat} {gs : List LF} {L : List Ent}
theorem mark_int {j : Nat} (hj : j ≤ 50) : ((UInt8.ofNat (200 + j)).toNat : Int) = 200 + (j : Int) := by
  have : (UInt8.ofNat (200 + j)).toNat = 200 + j := by
    simp [UInt8.toNat_ofNat']; omega
  omega
theorem set_rep {lx : List UInt8} {i n : Nat} {m : UInt8} (hn : lx.length = n) (hi : i < n) (ht : lx.take i = List.replicate i m) : (lx.set i m).take (i + 1) = List.replicate (i + 1) m := by
  rw [List.take_add_one, List.take_set_of_le (Nat.le_refl _), ht, List.replicate_succ']
  simp [hn, hi]
set_option maxHeartbeats 16000000 in
theorem filled_any (hn : gs.length ≤ 50) (hl : ∀ g ∈ gs, g.bytes.length ≤ 1099511627776) (h : Many W w (Ent.rows (.slice p gs.length c) (gs.map LF.sv) :: (gs.map LF.ent ++ L))) :
    Calls Try.prog 27 #[.slice p gs.length c] w fun e w' => ∃ p' c' ds, e = .returned (.slice p' gs.length c') ∧ ds.length = gs.length ∧ Fulls gs ds ∧
      Many W w' (Ent.rows (.slice p' gs.length c') (ds.map DF.v) :: Ent.rows (.slice p gs.length c) (gs.map LF.sv) :: (ds.map DF.ent ++ L)) := by
  have H := Lib.hid h
  have HN := Lib.hid hn
  have HL := Lib.hid hl
  have hgc : gs.length ≤ c := by obtain ⟨_, _, e, h1, -⟩ := h.first; simp only [Value.slice.injEq] at e; simp at h1; omega
  have ign : (gs.length : Int) ≤ 50 := by omega
  have igc : (gs.length : Int) ≤ (c : Int) := by omega
  clear h hl hn hgc
  go_enter Try.func27, Try.ntmps27
  go_wp2
  go_loopw [3, 4] (fun t3 t4 wr => ∃ (p' : Option Addr) (c' : Nat) (ds : List DF), t3 = .slice p' ds.length c' ∧ t4 = .int .i64 (ds.length : Int) ∧ ds.length ≤ gs.length ∧ Fulls gs ds ∧
    Many W wr (Ent.rows (.slice p' ds.length c') (ds.map DF.v) :: Ent.rows (.slice p gs.length c) (gs.map LF.sv) :: (ds.map DF.ent ++ ((gs.drop ds.length).map LF.ent ++ L)))) (fun _ t4 _ => gs.length - (Lib.intOf t4).toNat)
  case atStart =>
    refine ⟨none, 0, [], rfl, rfl, Nat.zero_le _, Fulls.nil _, ?_⟩
    simpa using H.out.addRows (v := .slice none 0 0) (cs := []) (OC_nil w 1 22) (Chg.refl _ w) (fun b hb => by cases hb)
  case round =>
    obtain ⟨p', c', ds, rfl, rfl, hj, hF, hM⟩ := hrel
    have HF := Lib.hid hF
    have HM := Lib.hid hM
    clear hF hM
    by_cases hjl : (ds.length : Int) < gs.length
    · have hj0 : (0 : Int) ≤ (ds.length : Int) := by omega
      have hjn : ds.length < gs.length := by omega
      obtain ⟨g, hg⟩ : ∃ g, gs[ds.length]? = some g := ⟨_, List.getElem?_eq_getElem hjn⟩
      have hdr : gs.drop ds.length = g :: gs.drop (ds.length + 1) := by rw [List.drop_eq_getElem_cons hjn]; congr 1; simpa [hjn] using hg
      have m0 := HM.out
      rw [hdr, List.map_cons, List.cons_append] at m0
      obtain ⟨j, ej⟩ : ∃ j, j = ds.length := ⟨_, rfl⟩
      have m1 : Many W wr (LF.ent g :: Ent.rows (.slice p' ds.length c') (ds.map DF.v) :: Ent.rows (.slice p gs.length c) (gs.map LF.sv) :: (ds.map DF.ent ++ ((gs.drop (ds.length + 1)).map LF.ent ++ L))) :=
        m0.perm (((List.perm_middle (l₁ := ds.map DF.ent)).cons _).cons _ |>.trans ((List.Perm.swap _ _ _).cons _ |>.trans (List.Perm.swap _ _ _)))
      have hrow : OC wr 1 22 (.slice p gs.length c) (gs.map LF.sv).length (gs.map LF.sv) := m1.get (x := Ent.rows (.slice p gs.length c) (gs.map LF.sv)) (by simp)
      obtain ⟨gb, rfl⟩ := OC.blk1 hrow (by simp; omega)
      obtain ⟨R, hR⟩ : ∃ R : List Ent, R = Ent.rows (.slice p' ds.length c') (ds.map DF.v) :: Ent.rows (.slice (some ⟨gb, 0, none⟩) gs.length c) (gs.map LF.sv) :: (ds.map DF.ent ++ ((gs.drop (ds.length + 1)).map LF.ent ++ L)) := ⟨_, rfl⟩
      rw [← hR] at m1
      have HR := Lib.hid hR
      have HM1 := Lib.hid m1
      have HG := Lib.hid hg
      have hrm : Ent.rows (.slice (some ⟨gb, 0, none⟩) gs.length c) (gs.map LF.sv) ∈ R := by rw [hR]; simp
      have HRM := Lib.hid hrm
      have hgs : (gs.map LF.sv)[ds.length]? = some g.sv := by rw [List.getElem?_map, hg]; rfl
      have HGS := Lib.hid hgs
      have hgl : g.bytes.length ≤ 1099511627776 := HL.out g (List.mem_of_getElem? hg)
      have igl : (g.bytes.length : Int) ≤ 1099511627776 := by omega
      clear m0 m1 hrow hdr hR hrm hgs hg ej
      obtain ⟨wo, rfl⟩ : ∃ wo : World, wo = wr := ⟨_, rfl⟩
      go_wp2
      go_loopw [5] (fun t5 wi => ∃ i : Nat, t5 = .int .i64 (i : Int) ∧ i ≤ g.bytes.length ∧ ∃ lx : List UInt8, lx.length = g.bytes.length ∧ lx.take i = List.replicate i (UInt8.ofNat (200 + ds.length)) ∧ Many W wi (Ent.bytes (.slice g.p g.bytes.length g.cap) lx :: R)) (fun t5 _ => g.bytes.length - (Lib.intOf t5).toNat)
      case atStart => exact ⟨0, rfl, Nat.zero_le _, g.bytes, rfl, by simp, HM1.out⟩
      case round =>
        obtain ⟨i, rfl, hi, lx, hlx, htk, hMi⟩ := hrel
        have hrow : OC wr 1 22 (.slice (some ⟨gb, 0, none⟩) gs.length c) (gs.map LF.sv).length (gs.map LF.sv) := hMi.get (x := Ent.rows (.slice (some ⟨gb, 0, none⟩) gs.length c) (gs.map LF.sv)) (List.mem_cons_of_mem _ HRM.out)
        have hr1 : wr.cell? ⟨gb, ds.length, none⟩ = some (.slice g.p g.bytes.length g.cap) := by
          have h1 := OC.at1 hrow (j := ds.length) (by simp; omega)
          have h2 := HGS.out
          rw [List.getElem?_eq_getElem (by simp; omega)] at h2
          rw [h1.1, Option.some.inj h2]; rfl
        have HI := Lib.hid (And.intro hi (And.intro hlx htk))
        have HMI := Lib.hid hMi
        have hi0 : (0 : Int) ≤ (i : Int) := by omega
        by_cases hil : (i : Int) < g.bytes.length
        · have hob : OB wr 5 (.slice g.p g.bytes.length g.cap) lx := hMi.first
          have hgc2 := (OB.lenEq hob).2
          obtain ⟨bb, hbb⟩ := OB.blk hob (by intro e; rw [e] at hlx; simp at hlx; omega)
          rw [hbb] at hob hr1
          obtain ⟨u, hce1, hce2⟩ : ∃ u : UInt8, wr.cell? ⟨bb, i, none⟩ = some (.int .u8 (u.toNat : Int)) ∧ wr.frozen? ⟨bb, i, none⟩ = false := ⟨_, OB.at_ hob (j := i) (by omega)⟩
          have hcap : (g.bytes.length : Int) ≤ (g.cap : Int) := by omega
          have hset : Many W (wr.setCell ⟨bb, i, none⟩ (.int .u8 (200 + (ds.length : Int)))) (Ent.bytes (.slice g.p g.bytes.length g.cap) (lx.set i (UInt8.ofNat (200 + ds.length))) :: R) := by
            have hm := hMi
            rw [hbb, ← hlx] at hm
            have h1 := hm.setByte (n := i) (by omega) (UInt8.ofNat (200 + ds.length))
            have e : Hp.u8 (UInt8.ofNat (200 + ds.length)) = .int .u8 (200 + (ds.length : Int)) := by show Value.int .u8 _ = _; rw [mark_int (by omega)]
            rw [e, hlx] at h1
            rw [hbb]; exact h1
          have HSET := Lib.hid hset
          clear hi hlx htk hMi hob hrow hgc2 hset
          go_wp2
          go_roundw
          case rel => exact ⟨i + 1, by go_num, by omega, _, by have := HI.out.2.1; simpa using this, set_rep HI.out.2.1 (by omega) HI.out.2.2, HSET.out⟩
          case measure => simp [Lib.intOf]; omega
        · obtain rfl : i = g.bytes.length := by omega
          have hlr : lx = List.replicate g.bytes.length (UInt8.ofNat (200 + ds.length)) := by rw [← htk, List.take_of_length_le (by omega)]
          subst hlr
          clear hi hlx htk hMi hrow
          go_wp2_with (first | (at_builtin; refine stop ?_))
          refine go ?_
          rw [← mark_int (j := ds.length) (by omega)]
          have M2 := Lib.hid (HMI.out.alloc (.cells #[.int .u8 ((UInt8.ofNat (200 + ds.length)).toNat : Int)] 5))
          refine wpList_append_bytes2 rfl _ _ rfl (v := .slice g.p g.bytes.length g.cap) rfl rfl M2.out.first (rb_new wr [UInt8.ofNat (200 + ds.length)] 5 (0, 0)) (by simp; omega) ?_
          intro pv lv cv w2 o1 o2 o3 o4
          obtain rfl : g.bytes.length + 1 = lv := by have := (OB.lenEq o1).1; simpa using this.symm
          have m3 := M2.out.toFull o2 o1 o3 o4
          rw [HR.out] at m3
          have M3 := Lib.hid m3.swap12
          clear o1 o2 o3 o4 hr1 m3
          go_wp2_with (first | (at_builtin; refine stop ?_))
          refine go ?_
          have M4 := Lib.hid (M3.out.alloc (.cells #[.slice pv (g.bytes.length + 1) cv] 22))
          refine wpList_append_rows rfl _ _ rfl (v := .slice p' ds.length c') (l := ds.map DF.v) (m := [.slice pv (g.bytes.length + 1) cv]) rfl rfl M4.out.first (OC_new w2 1 22 #[.slice pv (g.bytes.length + 1) cv] 1 1 (by decide) (by unfold maxLen; decide) rfl).rc (by simp [Value.oneCell']) (by simp; omega) ?_
          intro pv3 lv3 cv3 w3 o1 o2 o3 o4
          have m5 := M4.out.growRows o1 o3 o4
          have hF2 := HF.out.snoc HG.out pv cv
          have hlv : lv3 = (ds ++ [(⟨g, pv, cv, UInt8.ofNat (200 + ds.length)⟩ : DF)]).length := by rw [o2]; simp
          have e1 : ds.map DF.v ++ [Value.slice pv (g.bytes.length + 1) cv] = (ds ++ [(⟨g, pv, cv, UInt8.ofNat (200 + ds.length)⟩ : DF)]).map DF.v := by simp [DF.v]
          rw [e1] at m5
          have m6 : Many W w3 (Ent.rows (.slice pv3 lv3 cv3) ((ds ++ [(⟨g, pv, cv, UInt8.ofNat (200 + ds.length)⟩ : DF)]).map DF.v) :: Ent.rows (.slice (some ⟨gb, 0, none⟩) gs.length c) (gs.map LF.sv) ::
              ((ds ++ [(⟨g, pv, cv, UInt8.ofNat (200 + ds.length)⟩ : DF)]).map DF.ent ++ ((gs.drop (ds ++ [(⟨g, pv, cv, UInt8.ofNat (200 + ds.length)⟩ : DF)]).length).map LF.ent ++ L))) := by
            refine m5.perm (List.Perm.cons _ ((List.Perm.swap _ _ _).trans (List.Perm.cons _ ?_)))
            rw [List.map_append, List.append_assoc, List.length_append, List.length_singleton]
            exact List.perm_middle.symm
          have HEND := Lib.hid (And.intro hlv (And.intro hF2 m6))
          clear o1 o2 o3 o4 m5 hF2 hlv e1 m6
          go_wp2
          go_roundw
          case rel => exact ⟨pv3, cv3, _, by rw [HEND.out.1], by simp, by simp; omega, HEND.out.2.1, by have := HEND.out.2.2; rw [HEND.out.1] at this; exact this⟩
          case measure => simp [Lib.intOf]; omega
    · have he : ds.length = gs.length := by omega
      have HE := Lib.hid he
      clear he
      go_wp2
      go_ret
      refine ⟨p', c', by rw [← HE.out]; rfl, ds, HE.out, HF.out, ?_⟩
      have := HM.out
      rw [HE.out, List.drop_length] at this
      simpa using this
end
end Go.Proofs

namespace Go.Proofs
open Go.RowKit Go.Hp Go.Dm Go.Dr
set_option linter.unusedVariables false
set_option linter.unusedSimpArgs false
set_option maxRecDepth 10000

theorem RB.takeN {w : World} {p : Option Addr} {c : Nat} {bs : List UInt8} (h : RB w (.slice p bs.length c) bs) (m : Nat) (hm : m ≤ bs.length) : RB w (.slice p m c) (bs.take m) := by
  obtain ⟨p', c', he, hnc, hlen, hblk⟩ := h
  obtain ⟨rfl, -, rfl⟩ : p = p' ∧ bs.length = bs.length ∧ c = c' := by simpa only [Value.slice.injEq] using he
  have e : (bs.take m).length = m := by simp; omega
  refine ⟨p, c, by rw [e], by rw [e]; omega, by simp, fun hc => ?_⟩
  obtain ⟨b, off, arr, t, fz, rfl, hh, hx⟩ := hblk hc
  refine ⟨b, off, arr, t, fz, rfl, hh, fun i u hu => hx i u ?_⟩
  rw [List.map_take, List.getElem?_take] at hu
  split at hu
  · exact hu
  · cases hu
section
variable {w : World} {bs : List UInt8} {p0 : Option Addr} {c0 : Nat}
set_option maxHeartbeats 16000000 in
theorem loadedOwn_any (hb : RB w (.slice p0 bs.length c0) bs) (hl : bs.length ≤ 1048576) :
    Calls Try.prog 25 #[.slice p0 bs.length c0] w fun e w' => e = .returned (.bool true) ∧ Chg (fun _ => False) w w' := by
  have HB := Lib.hid hb
  have HL := Lib.hid hl
  have HCP := Lib.hid (copied_any (by omega) hb)
  have ibl : (bs.length : Int) ≤ 1048576 := by omega
  clear hb hl
  go_enter Try.func25, Try.ntmps25
  go_wp2_with (first | (go_at_call 20; refine stop ?_))
  refine go ?_
  refine HCP.out.mono ?_
  rintro e w1 ⟨v1, rfl, o1, c1, n1⟩
  have m1 := ((Many.nil w).addBytes o1 c1 n1)
  obtain ⟨p1, cc1, rfl, -⟩ := id o1
  have M1 := Lib.hid m1
  clear o1 c1 n1 m1
  go_wp2_with (first | (at_builtin; refine stop ?_))
  refine go ?_
  have M2 := Lib.hid (M1.out.alloc (.cells #[.int .u8 114, .int .u8 115] 5))
  refine wpList_append_bytes rfl _ _ rfl (v := .slice p1 bs.length cc1) rfl rfl M2.out.first (rb_new w1 [114, 115] 5 (0, 0)) (by have := HL.out; simp; omega) ?_
  intro p2 l2 c2 w2 a1 a2 a3 a4
  have M3 := Lib.hid (M2.out.growBytes a1 a2 a3)
  obtain rfl : bs.length + 2 = l2 := by obtain ⟨p', c', e, -⟩ := a1; simp only [Value.slice.injEq] at e; simpa using e.2.1.symm
  have hcc : bs.length + 2 ≤ c2 := by obtain ⟨p', c', e, h1, -⟩ := a1; simp only [Value.slice.injEq] at e; simp at h1; omega
  have hcc1 : (bs.length : Int) + 2 - 1 ≤ (c2 : Int) := by omega
  have hcc2 : (bs.length : Int) + 1 ≤ (c2 : Int) := by omega
  have ibl0 : (0 : Int) ≤ (bs.length : Int) := by omega
  have hrb1 : RB w2 (.slice p2 (bs.length + 1) c2) (bs ++ [114]) := by
    have h1 := RB.takeN (p := p2) (c := c2) (bs := bs ++ [114, 115]) (by simpa using OB.rb a1) (bs.length + 1) (by simp)
    have e : (bs ++ [114, 115]).take (bs.length + 1) = bs ++ [114] := by
      rw [List.take_append, List.take_of_length_le (by omega)]; simp
    rw [e] at h1; exact h1
  have hcv : (convert 22 9 (.slice p2 (bs.length + 1) c2)).run Try.prog w2 = .ok (.string ⟨(bs ++ [114]).toArray⟩) w2 := run_toString (P := Try.prog) w2 22 9 5 Try.underlying22 Try.underlying5 Try.underlying9 hrb1
  have HRB1 := Lib.hid hrb1
  obtain ⟨n, hn⟩ : ∃ n : Nat, n = bs.length + 11 := ⟨_, rfl⟩
  have eN : (bs.length : Int) + 2 + 9 = (n : Int) := by omega
  have hx1 : (⟨nA, p2, c2, bs ++ [114], 1⟩ : LI).sv = .slice p2 (bs.length + 1) c2 := by simp [LI.sv]
  have hfs : IFiles (w2.alloc (.cells #[.string nA, .slice p2 (bs.length + 1) c2, .int .i64 1] 41)) (.slice (some ⟨w2.heap.size, 0, none⟩) 1 1) [⟨nA, p2, c2, bs ++ [114], 1⟩] := by
    have hrc := (OC_new w2 3 41 #[.string nA, .slice p2 (bs.length + 1) c2, .int .i64 1] 1 1 (by decide) (by unfold maxLen; decide) rfl).rc
    refine ⟨?_, fun y hy => ?_, by simp, ?_⟩
    · simpa [LI.enc, hx1] using hrc
    · obtain rfl := List.mem_singleton.1 hy
      have hl : (bs ++ [(114 : UInt8)]).length = bs.length + 1 := by simp
      refine ⟨⟨(by decide : nA.size ≤ maxLen), ?_, ?_, (by decide : (-9223372036854775808 : Int) ≤ 1), (by decide : (1 : Int) ≤ 9223372036854775807)⟩, ?_⟩
      · show (bs ++ [(114 : UInt8)]).length ≤ _; rw [hl]; have := HL.out; omega
      · show (bs ++ [(114 : UInt8)]).length ≤ c2; rw [hl]; omega
      · rw [hx1]; exact RC.keep hrb1 fun b hb => halloc_lt (RC.lt hrb1 hb)
    · have := HL.out; simp [total, LI.fi, FI.fl]; omega
  have hld := load_any (n := n) (by have := HL.out; omega) hfs
  have hall : ldAll (n : Int) ([(⟨nA, p2, c2, bs ++ [114], 1⟩ : LI)].map LI.fi) = (0, [⟨nA, bs ++ [114], 1⟩]) := by
    refine ldAll_ok (by have := HL.out; omega) ?_ ?_
    · have he : ldErr [] (LI.fi ⟨nA, p2, c2, bs ++ [114], 1⟩) = 0 := by
        unfold ldErr
        rw [if_pos (show okName (LI.fi ⟨nA, p2, c2, bs ++ [114], 1⟩).name = true from okA)]
        show (if (1 : Int) < 0 ∨ ((bs ++ [(114 : UInt8)]).length : Int) < 1 then 12 else 0) = 0
        rw [if_neg (by simp; omega)]
      rw [List.map_cons, List.map_nil, ldGo, if_pos he]
      rfl
    · simp [total]; omega
  rw [hall] at hld
  have HLD := Lib.hid hld
  have M4 := Lib.hid (M3.out.addBox (.cells #[.string nA, .slice p2 (bs.length + 1) c2, .int .i64 1] 41))
  have HN := Lib.hid hn
  have HCC := Lib.hid hcc
  clear a1 a2 a3 a4 hrb1 hx1 hfs hld hall hn hcc
  go_wp2_with (first | (go_at_call 39; refine stop ?_))
  refine go ?_
  refine HLD.out.mono ?_
  rintro e w3 (⟨h1, -⟩ | ⟨-, d, F, rfl, r3, v3⟩)
  · exact absurd rfl h1
  have M5 := Lib.hid (M4.out.addDisk r3 v3)
  clear r3 v3
  have hconv := Lib.run_convert_bytes_const (P := Try.prog) w3 22 5 #[.int .u8 84] 1 1 Try.underlying22 Try.underlying5
  go_wp2_with (first | (go_at_call 16; refine (num_any _ _).mono ?_; rintro e w' ⟨rfl, rfl⟩) | (go_at_call 17; refine stop ?_))
  clear hconv
  refine go ?_
  have M6 := Lib.hid (M5.out.alloc (.cells #[.int .u8 84] 5 (1, 2)))
  have hap := append_any (nm := nA) (by decide) M6.out.first (rb_new w3 [84] 5 (1, 2)) (fun k hk hF => by
    have h1 := M5.out.first.lt k hF
    have : k = w3.heap.size := by simpa [sblk] using hk.symm
    omega)
  rw [ow1 (by have := HN.out; simp; omega)] at hap
  refine hap.mono ?_
  rintro e w4 ⟨rfl, hl4⟩
  obtain ⟨F4, m7⟩ := M6.out.left hl4
  have M7 := Lib.hid m7
  have ho := (m7.get (x := Ent.bytes (.slice p2 (bs.length + 2) c2) (bs ++ [114, 115])) (by simp))
  have hcv := run_toString (P := Try.prog) w4 22 9 5 Try.underlying22 Try.underlying5 Try.underlying9 (OB.rb ho)
  have hbq : ((⟨(bs ++ [114]).toArray⟩ : ByteArray) ++ ⟨#[115]⟩) = ⟨(bs ++ [114, 115]).toArray⟩ := by apply bytes_ext; simp [ByteArray.data_append]
  clear hap hl4 m7 ho
  go_wp2
  obtain ⟨R, hR⟩ : ∃ R : List Ent, R = [Ent.disk d ⟨n, [⟨nA, bs ++ [114] ++ [84], 1⟩], false, 0, 0⟩ F4, Ent.box w2.heap.size (.cells #[.string nA, .slice p2 (bs.length + 1) c2, .int .i64 1] 41)] := ⟨_, rfl⟩
  have M8 : Hid (Many w w4 (Ent.bytes (.slice p2 (bs.length + 2) c2) (bs ++ [114, 115]) :: R)) := Lib.hid (by rw [hR]; exact M7.out.front3)
  have HR := Lib.hid hR
  clear hR hcv hbq
  go_loopw [10] (fun i wr => ∃ j : Nat, i = .int .i64 (j : Int) ∧ j ≤ bs.length + 2 ∧ ∃ lx : List UInt8, lx.length = bs.length + 2 ∧ Many w wr (Ent.bytes (.slice p2 (bs.length + 2) c2) lx :: R)) (fun i _ => bs.length + 2 - (Lib.intOf i).toNat)
  case atStart => exact ⟨0, rfl, Nat.zero_le _, _, by simp, M8.out⟩
  case round =>
    obtain ⟨j, rfl, hj, lx, hlx, hMi⟩ := hrel
    have HMI := Lib.hid hMi
    have hj0 : (0 : Int) ≤ (j : Int) := by omega
    by_cases hjl : (j : Int) < (bs.length : Int) + 2
    · have hob : OB wr 5 (.slice p2 (bs.length + 2) c2) lx := hMi.first
      obtain ⟨bb, hbb⟩ := OB.blk hob (by intro e; rw [e] at hlx; simp at hlx)
      have hset : Many w (wr.setCell ⟨bb, j, none⟩ (.int .u8 77)) (Ent.bytes (.slice p2 (bs.length + 2) c2) (lx.set j 77) :: R) := by
        have hm := hMi
        rw [hbb, ← hlx] at hm
        have h1 := hm.setByte (l := lx) (n := j) (by omega) 77
        rw [hlx] at h1
        rw [hbb]; exact h1
      subst hbb
      obtain ⟨u, hce1, hce2⟩ : ∃ u : UInt8, wr.cell? ⟨bb, j, none⟩ = some (.int .u8 (u.toNat : Int)) ∧ wr.frozen? ⟨bb, j, none⟩ = false := ⟨_, OB.at_ hob (j := j) (by omega)⟩
      have HSET := Lib.hid (And.intro hlx hset)
      have hjc : (bs.length : Int) + 2 ≤ (c2 : Int) := by have := HCC.out; omega
      clear hMi hob hset hlx
      go_wp2
      go_roundw
      case rel => exact ⟨j + 1, by go_num, by omega, _, by have := HSET.out.1; simpa using this, HSET.out.2⟩
      case measure => simp [Lib.intOf]; omega
    · have hmb := hMi
      rw [HR.out] at hmb
      have hbx : wr.heap[w2.heap.size]? = _ := hmb.get (x := Ent.box w2.heap.size (.cells #[.string nA, .slice p2 (bs.length + 1) c2, .int .i64 1] 41)) (by simp)
      have q0 := hcell_of hbx 0
      have q1 := hcell_of hbx 1
      have q2 := hcell_of hbx 2
      simp only [List.getElem?_toArray, List.getElem?_cons_zero, List.getElem?_cons_succ] at q0 q1 q2
      have z0 := hfree_of hbx 0
      have z1 := hfree_of hbx 1
      have z2 := hfree_of hbx 2
      have HBX := Lib.hid hbx
      clear hMi hmb hbx hlx
      go_wp2_with (first | (go_at_call 24; refine stop ?_))
      refine go ?_
      have hmb := HMI.out
      rw [HR.out] at hmb
      have hc3 : Chg (· = w2.heap.size) wr (((wr.setCell ⟨w2.heap.size, 0, none⟩ (.string ⟨#[122]⟩)).setCell ⟨w2.heap.size, 1, none⟩ (.slice none 0 0)).setCell ⟨w2.heap.size, 2, none⟩ (.int .i64 0)) :=
        (((Chg.refl (fun k => k = w2.heap.size) wr).setCell (p := ⟨w2.heap.size, 0, none⟩) (.inl rfl) _).setCell (p := ⟨w2.heap.size, 1, none⟩) (.inl rfl) _).setCell (p := ⟨w2.heap.size, 2, none⟩) (.inl rfl) _
      have m9 := hmb.front3.turn (y := Ent.some [w2.heap.size]) (fun k hk => by
        obtain rfl : k = w2.heap.size := by simpa using hk
        have := hlt_of HBX.out
        have h2 := hc3.size
        omega) (good_some _) ⟨hc3.mono fun k hk => .inl (by simp [Ent.box, hk]), fun k hk => .inl hk⟩
      have M9 := Lib.hid m9.front3
      refine (files_any (by show [(⟨nA, bs ++ [114] ++ [84], 1⟩ : Fl)].length ≤ _; simp) M9.out.first).mono ?_
      rintro e w9 ⟨v, l, rfl, f1, f2, f3, f4⟩
      obtain ⟨pl, cl, rfl, hlc, -⟩ := id f1.sl
      have f2 : l.map LF.fl = [⟨nA, bs ++ [114] ++ [84], 1⟩] := f2
      have hl1 : l.length = 1 := by have := congrArg List.length f2; simpa using this
      obtain ⟨fb, f, rfl, hf0, ho0, -, y0, y1, y2⟩ := f1.file (k := 0) (by omega)
      have hff : f.fl = ⟨nA, bs ++ [114] ++ [84], 1⟩ := by
        have h1 : (l.map LF.fl)[0]? = some f.fl := by rw [List.getElem?_map, hf0]; rfl
        rw [f2] at h1
        simpa using h1.symm
      obtain ⟨e1, e2, e3⟩ : f.name = ⟨#[97]⟩ ∧ f.bytes = bs ++ [114] ++ [84] ∧ f.sure = 1 := by simpa [LF.fl, nA] using hff
      have elen : (bs ++ [(114 : UInt8)] ++ [84]).length = bs.length + 2 := by simp
      have esv : f.sv = .slice f.p (bs.length + 2) f.cap := by unfold LF.sv; rw [e2, elen]
      rw [esv] at y1 ho0
      rw [e2] at ho0
      rw [e1] at y0
      rw [e3] at y2
      simp only [Nat.zero_mul, Nat.zero_add] at y0 y1 y2
      have hcv : (convert 22 9 (.slice f.p (bs.length + 2) f.cap)).run Try.prog w9 = .ok (.string ⟨(bs ++ [114] ++ [84]).toArray⟩) w9 := run_toString (P := Try.prog) w9 22 9 5 Try.underlying22 Try.underlying5 Try.underlying9 ho0.rb
      have hbq : ((⟨(bs ++ [114]).toArray⟩ : ByteArray) ++ ⟨#[84]⟩) = ⟨(bs ++ [114] ++ [84]).toArray⟩ := by apply bytes_ext; simp [ByteArray.data_append]
      have HCH := Lib.hid (M9.out.chg.trans f4 fun _ h => h.elim)
      rw [hl1]
      rw [hl1] at hlc
      have hlc2 : (1 : Int) ≤ (cl : Int) := by omega
      clear f1 f2 f3 f4 hf0 ho0 hff e1 e2 e3 elen esv hl1 hmb m9 hc3 q0 q1 q2 z0 z1 z2
      go_wp2
      go_ret
      exact ⟨rfl, HCH.out⟩
end
end Go.Proofs
