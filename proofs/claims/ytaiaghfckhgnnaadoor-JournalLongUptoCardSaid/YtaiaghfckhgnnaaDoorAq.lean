/- append behind bytes that are full and only read (a constant's): what it gives. Conditions: both are read; the first has no room. -/
import Derived.Test.YtaiaghfckhgnnaaDoorD5
namespace Go.Hp
open Go Go.RowKit
set_option linter.unusedVariables false
theorem run_append_full {P : Program} (w : World) (t ty E : TypeId) (i : TypeInfo) (z : Value) (bytes : Nat) (ht : P.underlying t = some (.slice E)) (hi : P.info? E = some i) (hz : i.zero = some z)
    (hsize : i.size = 1) (hby : i.bytes = bytes) (hzs : z.cells.size = 1)
    {a : Addr} {x : Value} {n m : Nat} {cs ns : List Value} (hn : 0 < n) (hv : RC w 1 (.slice (some a) n n) n cs) (hx : RC w 1 x m ns)
    (hb1 : 0 < bytes) (hbytes : (n + m) * bytes ≤ 140737488355328) :
    ∃ v' w', (Builtin.append_ #[t, t] ty #[.slice (some a) n n, x]).run P w = .ok v' w' ∧ RC w' 1 v' (n + m) (cs ++ ns) ∧ Chg (fun _ => False) w w' ∧
      (∀ b, sblk v' = some b → sblk (.slice (some a) n n) = some b ∨ w.heap.size ≤ b) := by
  subst hby
  have hcl := hv.len
  have hx0 := hx
  obtain ⟨q, d, rfl, hmd, hnl, hx4⟩ := hx
  have hnm : n + m ≤ 140737488355328 := Nat.le_trans (Nat.le_mul_of_pos_right _ hb1) hbytes
  by_cases hm : m = 0
  · subst hm
    have hns : ns = [] := List.eq_nil_of_length_eq_zero (by simpa using hnl)
    subst hns
    refine ⟨.slice (some a) n n, w, ?_, by simpa using hv, Chg.refl _ _, fun b h => .inl h⟩
    cases q with
    | none => simp [Builtin.append_, run_underlying ht, sizeOf, typeInfo, hi, Builtin.lenOf, Builtin.firstCells, storeCells]
    | some b => simp [Builtin.append_, run_underlying ht, sizeOf, typeInfo, hi, Builtin.lenOf, Builtin.firstCells, loadCells, loadCellsFrom, storeCells]
  · have hd : d ≠ 0 := by omega
    obtain ⟨b, off, arr, t', fz, rfl, hh, hcell⟩ := hx4 hd
    have hnews : ∀ j u, ns[j]? = some u → w.cell? ((⟨b, off, none⟩ : Addr).add j) = some u := fun j u hu => hx0.cell rfl hd j u hu
    have hlen : (cs ++ ns).length = (n + m) * 1 := by rw [List.length_append, hcl, hnl, Nat.add_mul]
    have hr := run_append_grow (P := P) w t ty E i z ht hi hz a n n cs (by rw [hsize]; exact hcl) (fun j u hu => hv.cell rfl (by omega) j u hu) ⟨b, off, none⟩ m d ns (by rw [hsize]; exact hnl) hnews (by omega) (by omega) (growslice_fits (by omega) hbytes)
    refine ⟨_, _, hr, ?_, (Chg.refl _ w).drew.alloc _, ?_⟩
    · have hge := grownCap_ge w (n + m) n E
      have h := OC_new w.drew 1 E (cs.toArray ++ ns.toArray ++ Builtin.zeroCells z.cells (grownCap w (n + m) n E - (n + m))) (n + m) (grownCap w (n + m) n E) hge
        (grownCap_le_maxLen w (n + m) n E (by unfold maxLen; omega)) (by
          simp only [Array.size_append, List.size_toArray, size_zeroCells, hzs, hcl, hnl]
          omega)
      simp only [Array.toList_append, List.append_assoc] at h
      rw [← List.append_assoc, ← hlen, List.take_left] at h
      exact h.rc
    · intro b' hb'
      obtain ⟨_, a', ha, rfl⟩ := sblk_cap hb'
      cases ha; exact .inr (Nat.le_refl _)
end Go.Hp
namespace Go.Proofs
open Go.RowKit Go.Hp Go.Dm Go.Dr
set_option linter.unusedVariables false
/-- append behind a constant's bytes -/
theorem wpList_append_full {ops : Array Oper} {rest : List Oper} {o : Oper} {a : Act} {w : World} {Q : Exit → Act → World → Prop} (hg : o.guard = none) (s x : Operand)
    (hop : o.op = .call { callee := .builtin .append, args := #[s, x], argTypes := #[33, 33] }) {p : Addr} {y : Value} {l m : List UInt8} (hs : a.eval s = .slice (some p) l.length l.length) (hx : a.eval x = y)
    (hl : 0 < l.length) (hv : RB w (.slice (some p) l.length l.length) l) (hy : RB w y m) (hlen : l.length + m.length ≤ 140737488355328)
    (h : ∀ pv lv cv w', RB w' (.slice pv lv cv) (l ++ m) → Chg (fun _ => False) w w' → (∀ b, sblk (.slice pv lv cv) = some b → sblk (.slice (some p) l.length l.length) = some b ∨ w.heap.size ≤ b) →
      wpList Tryd.prog ops Q rest (a.put o.dst (.slice pv lv cv)) w') : wpList Tryd.prog ops Q (o :: rest) a w := by
  obtain ⟨i0, hi, hz0, hz1, hz2⟩ := info_parts info_u8
  obtain ⟨v', w', hrun, r1, r2, r3⟩ := run_append_full (P := Tryd.prog) w 33 o.type 5 i0 _ 1 Tryd.underlying33 hi hz0 hz1 hz2 rfl hl hv hy (by decide) (by omega)
  have r1' : RB w' v' (l ++ m) := by
    show RC w' 1 v' (l ++ m).length ((l ++ m).map u8)
    rw [List.length_append, List.map_append]; exact r1
  obtain ⟨pv, cv, rfl, -⟩ := id r1'
  refine wpList_value hg ?_ (h pv _ cv w' r1' r2 r3)
  subst hx
  simp [execOp, hop, resolve, invoke, builtin, hs, hrun, Result.andThen]
end Go.Proofs
