/- Laws on a map with string keys whose entries are known one by one: look-up, store, delete, range. Conditions: each law's own. -/
import Derived.Test.YtaiaghfckhgnnaaGreatDoorHp
import Derived.MapKept
namespace Go.Hp
open Go Go.RowKit
set_option linter.unusedVariables false

instance : LawfulBEq ByteArray where
  eq_of_beq h := (MapKept.bytes_beq _ _).1 h
  rfl := (MapKept.bytes_beq _ _).2 rfl

/-- an entry: key, value, stamp -/
structure En where
  key : ByteArray
  val : Value
  born : Nat

def En.m (e : En) : MapEntry := ⟨.string e.key, e.val, e.born⟩
def ents (L : List En) : Array MapEntry := (L.map En.m).toArray

theorem findNow_str (k : ByteArray) : ∀ (L : List En) (i : Nat), Instr.findNow .string (.string k) (L.map En.m) i = some ((L.findIdx? (·.key == k)).map fun j => (i + j, ((L[j]?).map En.val).getD undef))
  | [], i => by simp [Instr.findNow]
  | e :: L, i => by
    simp only [List.map_cons, Instr.findNow, Instr.sameNow, En.m]
    have ih := findNow_str k L (i + 1)
    by_cases h : k = e.key
    · subst h
      simp [List.findIdx?_cons]
    · have h1 : (k == e.key) = false := by simpa using h
      have h2 : (e.key == k) = false := by simpa using fun x : e.key = k => h x.symm
      rw [h1]
      simp only [ih, List.findIdx?_cons, h2]
      cases hf : L.findIdx? (·.key == k) with
      | none => simp
      | some j => simp [Nat.add_assoc, Nat.add_comm 1 j]

section
variable {P : Program} (w : World) {t kt et : TypeId}

theorem run_checkKey_str (hk : P.underlying kt = some .string) (e : Bool) (n : Nat) (v : Value) : (Instr.checkKey e (n + 1) kt v).run P w = .ok () w := by
  simp [Instr.checkKey, run_underlying hk]

theorem run_findKey_str (hk : P.underlying kt = some .string) (k : ByteArray) (L : List En) :
    (Instr.findKey kt (.string k) (ents L).toList).run P w = .ok ((L.findIdx? (·.key == k)).map fun j => (j, ((L[j]?).map En.val).getD undef)) w := by
  simp [Instr.findKey, run_underlying hk, ents, findNow_str]

theorem find_of_idx {L : List En} {k : ByteArray} {j : Nat} (hf : L.findIdx? (·.key == k) = some j) : ∃ h : j < L.length, L[j].key = k ∧ L.find? (·.key == k) = some L[j] := by
  obtain ⟨hlt, hp, hmin⟩ := List.findIdx?_eq_some_iff_getElem.1 hf
  refine ⟨hlt, by simpa using hp, ?_⟩
  rw [List.find?_eq_some_iff_getElem]
  exact ⟨hp, j, hlt, rfl, fun i hi => by simpa using hmin i hi⟩

theorem run_lookup_str (ht : P.underlying t = some (.map kt et)) (hk : P.underlying kt = some .string)
    {m : Nat} {clock : Nat} {L : List En} (hm : w.heap[m]? = some (.map (ents L) clock)) {z : Value} (hz : (zeroValue et).run P w = .ok z w) (k : ByteArray) :
    (Instr.lookup t (.map (some m)) (.string k) false).run P w = .ok (match L.find? (·.key == k) with | some e => e.val | none => z) w := by
  have h1 := run_checkKey_str (P := P) w hk (ents L).isEmpty 9999 (.string k)
  have h2 := run_findKey_str (P := P) w hk k L
  unfold Instr.lookup
  simp only [Sem.run_bind, run_underlying ht, Result.andThen_ok, getObj, Sem.run, hm, Sem.run_pure]
  rw [show (10000 : Nat) = 9999 + 1 from rfl, h1]
  simp only [Result.andThen_ok, h2]
  cases hf : L.findIdx? (·.key == k) with
  | none =>
    have : L.find? (·.key == k) = none := by simpa [List.findIdx?_eq_none_iff] using hf
    simp [this, hz]
  | some j =>
    obtain ⟨hlt, _, h3⟩ := find_of_idx hf
    simp [h3, hlt]

/-- the world with another object in block m -/
def putObj (w : World) (m : Nat) (o : Obj) : World := { w with heap := w.heap.setIfInBounds m o }

theorem putObj_same {m : Nat} {o : Obj} (h : m < w.heap.size) : (putObj w m o).heap[m]? = some o := by simp [putObj, h]
theorem putObj_other {m k : Nat} {o : Obj} (h : k ≠ m) : (putObj w m o).heap[k]? = w.heap[k]? := by simp [putObj, Ne.symm h]
theorem putObj_size {m : Nat} {o : Obj} : (putObj w m o).heap.size = w.heap.size := by simp [putObj]
theorem putObj_chg {m : Nat} {o : Obj} : Chg (· = m) w (putObj w m o) := ⟨rfl, rfl, rfl, by simp [putObj], fun k _ hn => putObj_other w hn⟩

theorem run_store_str (ht : P.underlying t = some (.map kt et)) (hk : P.underlying kt = some .string)
    {m : Nat} {clock : Nat} {L : List En} (hm : w.heap[m]? = some (.map (ents L) clock)) (k : ByteArray) (v : Value) (hnew : ∀ e ∈ L, e.key ≠ k) :
    (Instr.mapUpdate t (.map (some m)) (.string k) v).run P w = .ok () (putObj w m (.map (ents (L ++ [⟨k, v, clock⟩])) (clock + 1))) := by
  have h1 := run_checkKey_str (P := P) w hk false 9999 (.string k)
  have h2 := run_findKey_str (P := P) w hk k L
  have h3 : L.findIdx? (·.key == k) = none := by simpa [List.findIdx?_eq_none_iff] using hnew
  unfold Instr.mapUpdate
  simp only [Sem.run_bind, run_underlying ht, Result.andThen_ok, getObj, Sem.run, hm]
  rw [show (10000 : Nat) = 9999 + 1 from rfl, h1]
  simp only [Result.andThen_ok, h2, h3, Option.map_none]
  simp [setObj, Sem.run, hm, putObj, ents, En.m]

theorem run_delete_str (ty : TypeId) (ht : P.underlying t = some (.map kt et)) (hk : P.underlying kt = some .string)
    {m : Nat} {clock : Nat} {L : List En} (hm : w.heap[m]? = some (.map (ents L) clock)) (k : ByteArray) (hnd : (L.map (·.key)).Nodup) :
    (Builtin.delete_ #[t, kt] ty #[.map (some m), .string k]).run P w = .ok (.tuple #[]) (putObj w m (.map (ents (L.filter (·.key != k))) clock)) := by
  have h1 := run_checkKey_str (P := P) w hk (ents L).isEmpty 9999 (.string k)
  have h2 := run_findKey_str (P := P) w hk k L
  unfold Builtin.delete_
  simp only [List.getElem?_toArray, List.getElem?_cons_zero, List.getElem?_cons_succ, Sem.run_bind, run_underlying ht, Result.andThen_ok, getObj, Sem.run, hm]
  rw [show (10000 : Nat) = 9999 + 1 from rfl, h1]
  simp only [Result.andThen_ok, h2]
  cases hf : L.findIdx? (·.key == k) with
  | none =>
    have h3 : ∀ e ∈ L, e.key ≠ k := by simpa [List.findIdx?_eq_none_iff] using hf
    have h4 : L.filter (·.key != k) = L := List.filter_eq_self.2 fun e he => by simpa using h3 e he
    simp [setObj, Sem.run, hm, putObj, h4]
  | some j =>
    obtain ⟨hlt, hkey, _⟩ := find_of_idx hf
    have h4 : L.filter (·.key != k) = L.eraseIdx j := by
      have e := List.take_append_drop j L
      have hd : L.drop j = L[j] :: L.drop (j + 1) := List.drop_eq_getElem_cons hlt
      rw [List.eraseIdx_eq_take_drop_succ]
      have hnd' : ((L.take j ++ L[j] :: L.drop (j + 1)).map (·.key)).Nodup := by rw [← hd, e]; exact hnd
      conv => lhs; rw [← e, hd]
      simp only [List.map_append, List.map_cons, List.nodup_append, List.nodup_cons] at hnd'
      obtain ⟨_, ⟨hn2, _⟩, hn3⟩ := hnd'
      rw [List.filter_append, List.filter_cons]
      have f1 : (L.take j).filter (·.key != k) = L.take j := List.filter_eq_self.2 fun x hx => by
        have := hn3 x.key (List.mem_map_of_mem hx) L[j].key (by simp)
        rw [hkey] at this; simpa using this
      have f2 : (L.drop (j + 1)).filter (·.key != k) = L.drop (j + 1) := List.filter_eq_self.2 fun x hx => by
        have h5 : x.key ≠ L[j].key := fun h => hn2 (h ▸ List.mem_map_of_mem hx)
        rw [hkey] at h5; simpa using h5
      rw [f1, f2]
      simp [hkey]
    have h5 : (ents L).eraseIdxIfInBounds j = ents (L.filter (·.key != k)) := by
      rw [h4]
      simp [ents, List.eraseIdx_eq_take_drop_succ, List.map_take, List.map_drop]
    simp [setObj, Sem.run, hm, putObj, h5]

theorem run_range_map (ht : P.underlying t = some (.map kt et)) {m : Nat} {clock : Nat} {es : Array MapEntry} (hm : w.heap[m]? = some (.map es clock)) :
    (Instr.range t (.map (some m))).run P w = .ok (.pointer (some ⟨w.heap.size, 0, none⟩)) (w.alloc (.mapIter (some m) clock #[] clock)) := by
  unfold Instr.range
  simp [run_underlying ht, getObj, Sem.run, hm, newObj, World.alloc_eq]

/-- the entries that an iterator has not yet shown -/
def left (L : List En) (seen : Array Nat) : List En := L.filter fun e => !seen.contains e.born

theorem ents_left (L : List En) (seen : Array Nat) : (ents L).filter (fun e => !seen.contains e.born) = ents (left L seen) := by
  simp only [ents, left, List.filter_toArray, List.filter_map]
  congr 2

theorem run_next_over (ty : TypeId) {m r : Nat} {clock : Nat} {L : List En} {seen : Array Nat} (hm : w.heap[m]? = some (.map (ents L) clock))
    (hr : w.heap[r]? = some (.mapIter (some m) clock seen clock)) (hb : ∀ e ∈ L, e.born < clock) (hl : left L seen = []) :
    (Instr.next (.pointer (some ⟨r, 0, none⟩)) false ty).run P w = .ok (.tuple #[.bool false]) w := by
  have h1 : ((ents L).filter fun e => !seen.contains e.born) = #[] := by rw [ents_left, hl]; rfl
  have h2 : (!seen.isEmpty && !(ents L).isEmpty && (ents L).all fun x => decide (x.born ≥ clock)) = false := by
    cases L with
    | nil => simp [ents]
    | cons e L =>
      have := hb e (by simp)
      simp [ents, En.m]; intro _ hle; omega
  unfold Instr.next
  simp only [Sem.run_bind, getObj, Sem.run, hr, Result.andThen_ok, hm, h2, h1]
  simp [choose, Sem.run, Question.forced]

theorem run_next_entry (ty : TypeId) {m r : Nat} {clock : Nat} {L : List En} {seen : Array Nat} (hm : w.heap[m]? = some (.map (ents L) clock))
    (hr : w.heap[r]? = some (.mapIter (some m) clock seen clock)) (hb : ∀ e ∈ L, e.born < clock) (hl : left L seen ≠ []) :
    ∃ e n, e ∈ left L seen ∧
      (Instr.next (.pointer (some ⟨r, 0, none⟩)) false ty).run P w = .ok (.tuple #[.bool true, .string e.key, e.val]) (putObj (w.drewN n) r (.mapIter (some m) clock (seen.push e.born) clock)) := by
  have h0 : ((ents L).filter fun e => !seen.contains e.born) = ents (left L seen) := ents_left L seen
  have h2 : (!seen.isEmpty && !(ents L).isEmpty && (ents L).all fun x => decide (x.born ≥ clock)) = false := by
    cases L with
    | nil => simp [ents]
    | cons e L =>
      have := hb e (by simp)
      simp [ents, En.m]; intro _ hle; omega
  have hold : (ents (left L seen)).filter (fun x => decide (x.born < clock)) = ents (left L seen) := by
    simp only [ents, List.filter_toArray]
    congr 1
    refine List.filter_eq_self.2 fun x hx => ?_
    obtain ⟨e, he, rfl⟩ := List.mem_map.1 hx
    exact decide_eq_true (hb e (List.mem_filter.1 he).1)
  have hnew : (ents (left L seen)).filter (fun x => decide (x.born ≥ clock)) = #[] := by
    simp only [ents, List.filter_toArray]
    congr 1
    refine List.filter_eq_nil_iff.2 fun x hx => ?_
    obtain ⟨e, he, rfl⟩ := List.mem_map.1 hx
    have := hb e (List.mem_filter.1 he).1
    simp [En.m]; exact this
  have hemp : (ents (left L seen)).isEmpty = false := by
    cases h : left L seen with
    | nil => exact absurd h hl
    | cons e l => simp [ents]
  have hcand : ((if (ents (left L seen)).isEmpty then #[none] else #[]) ++ (ents (left L seen) ++ #[]).map some) = ((left L seen).map fun e => some e.m).toArray := by
    rw [hemp]; simp [ents]
  have hsz : 0 < (left L seen).length := List.length_pos_iff.2 hl
  unfold Instr.next
  simp only [Sem.run_bind, getObj, Sem.run, hr, Result.andThen_ok, hm, h2, h0, hold, hnew, hcand]
  by_cases hone : (left L seen).length ≤ 1
  · refine ⟨(left L seen)[0], 0, List.getElem_mem _, ?_⟩
    simp [choose, Sem.run, Question.forced, hone, setObj, hr, putObj, hsz, En.m, World.drewN]
  · refine ⟨(left L seen)[(w.tape w.drawn (.mapNext (left L seen).length)) % (left L seen).length]'(Nat.mod_lt _ hsz), 1, List.getElem_mem _, ?_⟩
    have hr' : w.drew.heap[r]? = some (.mapIter (some m) clock seen clock) := hr
    simp [choose, Sem.run, Question.forced, hone, Question.cut, setObj, hr', putObj, Nat.mod_lt _ hsz, En.m, World.drewN]

theorem run_entry_map {m r : Nat} {clock : Nat} {L : List En} {seen : Array Nat} (hm : w.heap[m]? = some (.map (ents L) clock))
    {e : En} (hr : w.heap[r]? = some (.mapIter (some m) clock (seen.push e.born) clock)) (he : e ∈ L) (hnd : (L.map (·.born)).Nodup) :
    (Instr.entry (.pointer (some ⟨r, 0, none⟩))).run P w = .ok (.tuple #[.string e.key, e.val]) w := by
  have hf : (ents L).find? (fun x => x.born == e.born) = some e.m := by
    simp only [ents, List.find?_toArray]
    clear hm hr
    induction L with
    | nil => cases he
    | cons x L ih =>
      simp only [List.map_cons, List.find?_cons]
      by_cases h : x.born = e.born
      · have hx : x = e := by
          rcases List.mem_cons.1 he with h' | h'
          · exact h'.symm
          · exfalso
            simp only [List.map_cons, List.nodup_cons] at hnd
            exact hnd.1 (h ▸ List.mem_map_of_mem h')
        subst hx; simp [En.m]
      · have h' : (x.m.born == e.born) = false := by simpa [En.m] using h
        rw [h']
        rcases List.mem_cons.1 he with h'' | h''
        · exact absurd (by rw [h'']) h
        · exact ih h'' (by simp only [List.map_cons, List.nodup_cons] at hnd; exact hnd.2) 
  unfold Instr.entry
  simp [getObj, Sem.run, hr, hm, hf, En.m]
end
end Go.Hp
