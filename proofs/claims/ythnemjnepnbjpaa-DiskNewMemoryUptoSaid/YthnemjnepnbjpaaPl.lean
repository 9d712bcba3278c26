/- Loading, plainly: the files of an input, one by one; and the document's Arm beside the program's. No program in sight. -/
import Derived.Test.YthnemjnepnbjpaaPa
import Derived.Test.YthnemjnepnbjpaaRp
namespace Go.Proofs
open Go.Dm
set_option linter.unusedVariables false

/-- a file as it is handed in -/
structure FI where
  name : ByteArray
  bytes : List UInt8
  sure : Int
def FI.fl (f : FI) : Fl := ⟨f.name, f.bytes, f.sure.toNat⟩
/-- what refuses f behind the files acc: 0, or an error's number -/
def ldErr (acc : List Fl) (f : FI) : Nat :=
  if okName f.name then (match Dm.get acc f.name with | some _ => 61 | none => if f.sure < 0 ∨ (f.bytes.length : Int) < f.sure then 12 else 0) else 113
def ldGo : List Fl → List FI → Nat × List Fl
  | acc, [] => (0, acc)
  | acc, f :: r => if ldErr acc f = 0 then ldGo (acc ++ [f.fl]) r else (ldErr acc f, acc)
/-- the files by name, rising -/
def sortL (l : List Fl) : List Fl := l.foldl (fun l f => ins f l) []
theorem sortL_snoc (l : List Fl) (f : Fl) : sortL (l ++ [f]) = ins f (sortL l) := by simp [sortL]
theorem sort_go : ∀ (l acc : List Fl), (l.foldl (fun l f => ins f l) acc).Perm (acc ++ l)
  | [], acc => by simp
  | f :: l, acc => (sort_go l (ins f acc)).trans (((ins_perm f acc).append_right l).trans List.perm_middle.symm)
theorem sortL_perm (l : List Fl) : (sortL l).Perm l := by simpa [sortL] using sort_go l []
theorem sort_sorted : ∀ (l acc : List Fl), Sorted acc → ((acc ++ l).map (·.name)).Nodup → Sorted (l.foldl (fun l f => ins f l) acc)
  | [], acc, h, _ => h
  | f :: l, acc, h, hn => by
    have hp : (acc ++ f :: l).Perm (ins f acc ++ l) := List.perm_middle.trans ((ins_perm f acc).symm.append_right l)
    have hn' := (hp.map (·.name)).nodup_iff.1 hn
    refine sort_sorted l (ins f acc) (ins_sorted h fun g hg e => ?_) hn'
    rw [List.map_append, List.nodup_append] at hn
    exact hn.2.2 g.name (List.mem_map_of_mem hg) f.name (by simp) e
theorem sortL_sorted {l : List Fl} (hn : (l.map (·.name)).Nodup) : Sorted (sortL l) := sort_sorted l [] List.Pairwise.nil (by simpa using hn)
theorem sortL_get {l : List Fl} (hn : (l.map (·.name)).Nodup) (nm : ByteArray) : Dm.get (sortL l) nm = Dm.get l nm := (get_perm (sortL_perm l).symm hn nm).symm
theorem sortL_total (l : List Fl) : total (sortL l) = total l := total_perm (sortL_perm l)
theorem sortL_len (l : List Fl) : (sortL l).length = l.length := (sortL_perm l).length_eq

/-- a file that nothing has refused -/
theorem ldErr_zero {acc : List Fl} {f : FI} (h : ldErr acc f = 0) : okName f.name = true ∧ Dm.get acc f.name = none ∧ 0 ≤ f.sure ∧ f.sure ≤ (f.bytes.length : Int) := by
  unfold ldErr at h
  by_cases h1 : okName f.name = true
  · rw [if_pos h1] at h
    cases hg : Dm.get acc f.name with
    | some x => rw [hg] at h; cases h
    | none =>
      rw [hg] at h
      simp only at h
      by_cases h2 : f.sure < 0 ∨ (f.bytes.length : Int) < f.sure
      · rw [if_pos h2] at h; cases h
      · exact ⟨h1, rfl, by omega, by omega⟩
  · rw [if_neg h1] at h; cases h
theorem ld_nodup {acc : List Fl} {f : FI} (hn : (acc.map (·.name)).Nodup) (h : ldErr acc f = 0) : ((acc ++ [f.fl]).map (·.name)).Nodup := by
  rw [List.map_append, List.nodup_append]
  refine ⟨hn, by simp, fun a ha b hb e => ?_⟩
  obtain ⟨x, hx, rfl⟩ := List.mem_map.1 ha
  have hb : b = f.name := by simpa [FI.fl] using hb
  exact get_none (ldErr_zero h).2.1 x hx (e.trans hb)

/-- the document's Arm beside the program's -/
theorem Alike.should {D E : Dk} (h : Alike D E) (o : OpP) (arm : Nat × Dk)
    (ha : arm = if E.down then (110, E) else if o.n = 0 then (0, { E with steps := 0 }) else if o.n < 0 ∨ o.m < 0 then (12, E) else (0, { E with steps := o.n.toNat, keep := o.m })) (h8 : o.kind = 8) :
    (Dk.does D o).1 = { e := arm.1 } ∧ Alike (Dk.does D o).2 arm.2 := by
  subst ha
  unfold Dk.does
  rw [if_neg (by omega), if_neg (by omega), if_neg (by omega), if_neg (by omega), if_neg (by omega), if_neg (by omega), if_neg (by omega), if_pos h8]
  unfold Dk.arm
  rw [← h.down]
  by_cases hd : D.down = true
  · rw [if_pos hd, if_pos hd]; exact ⟨rfl, h⟩
  · rw [if_neg hd, if_neg hd]
    by_cases hn : o.n = 0
    · rw [if_pos hn, if_neg (by omega)]
      refine ⟨rfl, ⟨h.files, h.limit, rfl, ?_, fun hs => ?_⟩⟩
      · show o.n.toNat = 0
        rw [hn]; rfl
      · exact absurd (show o.n.toNat = 0 by rw [hn]; rfl) hs
    · rw [if_neg hn]
      by_cases hb : o.n < 0 ∨ o.m < 0
      · rw [if_pos hb, if_pos (by omega)]; exact ⟨rfl, h⟩
      · rw [if_neg hb, if_neg (by omega)]
        exact ⟨rfl, ⟨h.files, h.limit, rfl, rfl, fun _ => rfl⟩⟩
end Go.Proofs
