/- Laws at an operation, for the walk: append onto an owned slice, the operations of a map with string keys; a stop. Conditions: each law's own. -/
import Derived.Test.YtaiaghfckhgnnaaGreatDoorMp
import Derived.Test.YtaiaghfckhgnnaaGreatDoorRx
import Derived.Maps.RangeWalk
import Derived.Maps.OwnSet
namespace Go.Hp
open Go Go.RowKit
set_option linter.unusedVariables false

/-- a stop for the walk -/
def Stop (p : Prop) : Prop := p
theorem stop {p : Prop} (h : Stop p) : p := h
theorem go {p : Prop} (h : p) : Stop p := h

section
variable {P : Program} {ops : Array Oper} {rest : List Oper} {o : Oper} {a : Act} {w : World} {Q : Exit → Act → World → Prop}

theorem wpList_value {v : Value} {w' : World} (hg : o.guard = none) (hrun : (execOp a.eval o).run P w = .ok (.value v) w') (h : wpList P ops Q rest (a.put o.dst v) w') : wpList P ops Q (o :: rest) a w := by
  refine wpList_plain hg fun K hK => ?_
  unfold Oper.wp
  rw [hrun]
  exact hK _ _ h
theorem wpList_unit {w' : World} (hg : o.guard = none) (hrun : (execOp a.eval o).run P w = .ok .skip w') (h : wpList P ops Q rest (a.put o.dst undef) w') : wpList P ops Q (o :: rest) a w := by
  refine wpList_plain hg fun K hK => ?_
  unfold Oper.wp
  rw [hrun]
  exact hK _ _ h

theorem wpList_range_map (hg : o.guard = none) (t : TypeId) (x : Operand) (hop : o.op = .range t x) {kt et : TypeId} (ht : P.underlying t = some (.map kt et)) {m clock : Nat} {es : Array MapEntry}
    (hx : a.eval x = .map (some m)) (hm : w.heap[m]? = some (.map es clock))
    (h : wpList P ops Q rest (a.put o.dst (.pointer (some ⟨w.heap.size, 0, none⟩))) (w.alloc (.mapIter (some m) clock #[] clock))) : wpList P ops Q (o :: rest) a w := by
  refine wpList_value hg ?_ h
  simp only [execOp, hop, hx, Sem.run_bind, run_range_map w ht hm]
  rfl

theorem wpList_next_map (hg : o.guard = none) (x : Operand) (hop : o.op = .next x false) {m r clock : Nat} {L : List En} {seen : Array Nat}
    (hx : a.eval x = .pointer (some ⟨r, 0, none⟩)) (hm : w.heap[m]? = some (.map (ents L) clock)) (hr : w.heap[r]? = some (.mapIter (some m) clock seen clock)) (hb : ∀ e ∈ L, e.born < clock)
    (h0 : left L seen = [] → wpList P ops Q rest (a.put o.dst (.tuple #[.bool false])) w)
    (h1 : ∀ e w1, e ∈ left L seen → Chg (· = r) w w1 → w1.heap[r]? = some (.mapIter (some m) clock (seen.push e.born) clock) → w1.heap.size = w.heap.size →
      wpList P ops Q rest (a.put o.dst (.tuple #[.bool true, .string e.key, e.val])) w1) : wpList P ops Q (o :: rest) a w := by
  by_cases hl : left L seen = []
  · refine wpList_value hg ?_ (h0 hl)
    simp only [execOp, hop, hx, Sem.run_bind, run_next_over w o.type hm hr hb hl]
    rfl
  · obtain ⟨e, n, he, hrun⟩ := run_next_entry (P := P) w o.type hm hr hb hl
    refine wpList_value (w' := putObj (w.drewN n) r (.mapIter (some m) clock (seen.push e.born) clock)) hg ?_ (h1 e _ he ?_ ?_ ?_)
    · simp only [execOp, hop, hx, Sem.run_bind, hrun]
      rfl
    · exact ((Chg.refl (· = r) w).drewN n).trans (putObj_chg (w.drewN n)) fun k hk => .inl hk
    · exact putObj_same _ (hlt_of hr)
    · simp [putObj]

theorem wpList_entry_map (hg : o.guard = none) (x : Operand) (hop : o.op = .entry x) {m r clock : Nat} {L : List En} {seen : Array Nat} {e : En}
    (hx : a.eval x = .pointer (some ⟨r, 0, none⟩)) (hm : w.heap[m]? = some (.map (ents L) clock)) (hr : w.heap[r]? = some (.mapIter (some m) clock (seen.push e.born) clock)) (he : e ∈ L) (hnd : (L.map (·.born)).Nodup)
    (h : wpList P ops Q rest (a.put o.dst (.tuple #[.string e.key, e.val])) w) : wpList P ops Q (o :: rest) a w := by
  refine wpList_value hg ?_ h
  simp only [execOp, hop, hx, Sem.run_bind, run_entry_map w hm hr he hnd]
  rfl

theorem wpList_store_map (hg : o.guard = none) (t : TypeId) (x k v : Operand) (hop : o.op = .mapUpdate t x k v) {kt et : TypeId} (ht : P.underlying t = some (.map kt et)) (hk : P.underlying kt = some .string)
    {m clock : Nat} {L : List En} {key : ByteArray} (hx : a.eval x = .map (some m)) (hkey : a.eval k = .string key) (hm : w.heap[m]? = some (.map (ents L) clock)) (hnew : ∀ e ∈ L, e.key ≠ key)
    (h : ∀ w1, Chg (· = m) w w1 → w1.heap[m]? = some (.map (ents (L ++ [⟨key, a.eval v, clock⟩])) (clock + 1)) → w1.heap.size = w.heap.size → wpList P ops Q rest (a.put o.dst undef) w1) : wpList P ops Q (o :: rest) a w := by
  refine wpList_unit hg ?_ (h (putObj w m (.map (ents (L ++ [⟨key, a.eval v, clock⟩])) (clock + 1))) (putObj_chg w) (putObj_same w (hlt_of hm)) (by simp [putObj]))
  simp only [execOp, hop, hx, hkey, Sem.run_bind, run_store_str w ht hk hm key (a.eval v) hnew]
  rfl

theorem wpList_delete_map (hg : o.guard = none) (t kt : TypeId) (x k : Operand) (hop : o.op = .call { callee := .builtin .delete, args := #[x, k], argTypes := #[t, kt] }) {et : TypeId} (ht : P.underlying t = some (.map kt et)) (hk : P.underlying kt = some .string)
    {m clock : Nat} {L : List En} {key : ByteArray} (hx : a.eval x = .map (some m)) (hkey : a.eval k = .string key) (hm : w.heap[m]? = some (.map (ents L) clock)) (hnd : (L.map (·.key)).Nodup)
    (h : ∀ w1, Chg (· = m) w w1 → w1.heap[m]? = some (.map (ents (L.filter (·.key != key))) clock) → w1.heap.size = w.heap.size → wpList P ops Q rest (a.put o.dst (.tuple #[])) w1) : wpList P ops Q (o :: rest) a w := by
  refine wpList_value hg ?_ (h (putObj w m (.map (ents (L.filter (·.key != key))) clock)) (putObj_chg w) (putObj_same w (hlt_of hm)) (by simp [putObj]))
  have hr := run_delete_str (P := P) w o.type ht hk hm key hnd
  simp [execOp, hop, resolve, invoke, builtin, hx, hkey, hr, Result.andThen]

theorem wpList_append_oc (hg : o.guard = none) (s x : Operand) (t : TypeId) (hop : o.op = .call { callee := .builtin .append, args := #[s, x], argTypes := #[t, t] })
    (E : TypeId) (i : TypeInfo) (z : Value) (k bytes : Nat) (ht : P.underlying t = some (.slice E)) (hi : P.info? E = some i) (hz : i.zero = some z)
    (hsize : i.size = k) (hby : i.bytes = bytes) (hzs : z.cells.size = k) (hk : 0 < k) {v y : Value} {n m : Nat} {cs ns : List Value} (hs : a.eval s = v) (hx : a.eval x = y)
    (hv : OC w k E v n cs) (hy : RC w k y m ns) (h1 : ∀ u ∈ ns, u.oneCell' = true) (hb1 : 0 < bytes) (hbytes : (n + m) * bytes ≤ 140737488355328)
    (h : ∀ v' w', OC w' k E v' (n + m) (cs ++ ns) → Chg (fun b => sblk v = some b) w w' → (∀ b, sblk v' = some b → sblk v = some b ∨ w.heap.size ≤ b) →
      (v' = .slice none 0 0 ↔ v = .slice none 0 0 ∧ m = 0) → wpList P ops Q rest (a.put o.dst v') w') : wpList P ops Q (o :: rest) a w := by
  obtain ⟨v', w', hrun, r1, r2, r3, r4⟩ := run_append_any (P := P) w t o.type E i z k bytes ht hi hz hsize hby hzs hk hv hy h1 hb1 hbytes
  refine wpList_value hg ?_ (h v' w' r1 r2 r3 r4)
  subst hs hx
  simp [execOp, hop, resolve, invoke, builtin, hrun, Result.andThen]
end
end Go.Hp
