/- The plain disk: what a call does to the bytes in use and to the number of files. No program in sight. -/
import Derived.Test.YthnemjnepnbjpaaDd
namespace Go.Proofs
open Go.Dm
set_option linter.unusedVariables false

theorem total_putB {D : Dk} (ok : D.Ok) (nm : ByteArray) (b : List UInt8) : total (putB nm b D.files) = total D.files + b.length := by
  unfold putB
  cases hg : get D.files nm with
  | none => simp only [total_ins]; omega
  | some f =>
    have := total_upd (g := fun f => { f with bytes := f.bytes ++ b }) ok.sorted.nodup hg
    simp only [List.length_append] at this ⊢
    omega

theorem look_cases (D : Dk) (nm : ByteArray) : D.look nm = 0 ∨ D.look nm = 110 ∨ D.look nm = 112 ∨ D.look nm = 113 := by
  unfold Dk.look
  split
  · simp
  · split
    · split <;> simp
    · simp

/-- an Append that is told all is well has written all; one that is told the disk is full has filled it -/
theorem append_used {D : Dk} (ok : D.Ok) (nm : ByteArray) (bs : List UInt8) :
    ((D.append nm bs).1.2 = 0 → (D.append nm bs).2.used = D.used + bs.length ∧ (D.append nm bs).1.1 = bs.length) ∧
    ((D.append nm bs).1.2 = 111 → (D.append nm bs).2.used = D.limit ∧ (D.append nm bs).2.used = D.used + (D.append nm bs).1.1 ∧ (D.append nm bs).1.1 < bs.length) := by
  have hu := ok.used
  by_cases hl : D.look nm = 0 ∨ D.look nm = 112
  · have ht := total_putB ok nm (bs.take (min bs.length (D.limit - D.used)))
    rw [List.length_take] at ht
    rw [append_eq hl rfl]
    by_cases hf : D.fires = true
    · rw [if_pos hf]; simp
    · rw [if_neg hf]
      have e : ∀ x : Dk, x.tick.used = total x.files := fun _ => rfl
      have e2 : D.used = total D.files := rfl
      simp only [e, ht]
      constructor
      · intro h
        split at h
        · omega
        · omega
      · intro h
        split at h
        · omega
        · omega
  · have e : D.append nm bs = ((0, D.look nm), D) := by unfold Dk.append; rw [if_neg hl]
    rw [e]
    have := look_cases D nm
    simp only
    omega

theorem len_upd (nm : ByteArray) (g : Fl → Fl) (l : List Fl) : (upd nm g l).length = l.length := by simp [upd]
theorem len_lose (k : Nat) (l : List Fl) : (loseL k l).length ≤ l.length := by unfold loseL; exact List.length_filterMap_le _ _
theorem len_del (nm : ByteArray) (l : List Fl) : (del nm l).length ≤ l.length := List.length_filter_le _ _
theorem len_putB (nm : ByteArray) (b : List UInt8) (l : List Fl) : (putB nm b l).length ≤ l.length + 1 := by
  unfold putB
  cases get l nm with
  | none => simp only; rw [(ins_perm _ _).length_eq]; simp
  | some f => simp only [len_upd]; omega
theorem len_change (D : Dk) (g : List Fl → List Fl) (hg : ∀ l, (g l).length ≤ l.length) : (D.change g).2.files.length ≤ D.files.length := by
  unfold Dk.change
  split
  · exact len_lose _ _
  · exact hg _

/-- one call makes at most one file; the limit stays -/
theorem does_files_le (D : Dk) (o : OpP) : (Dk.does D o).2.files.length ≤ D.files.length + 1 ∧ (Dk.does D o).2.limit = D.limit := by
  have id_ : D.files.length ≤ D.files.length + 1 ∧ D.limit = D.limit := ⟨Nat.le_succ _, rfl⟩
  have ch : ∀ g : List Fl → List Fl, (∀ l, (g l).length ≤ l.length) → (D.change g).2.files.length ≤ D.files.length + 1 ∧ (D.change g).2.limit = D.limit := fun g hg => by
    refine ⟨Nat.le_succ_of_le (len_change D g hg), ?_⟩
    unfold Dk.change
    by_cases h : D.fires = true
    · rw [if_pos h]; rfl
    · rw [if_neg h]; rfl
  have c1 : (D.append o.name o.b).2.files.length ≤ D.files.length + 1 ∧ (D.append o.name o.b).2.limit = D.limit := by
    by_cases hl : D.look o.name = 0 ∨ D.look o.name = 112
    · rw [append_eq hl rfl]
      by_cases hf : D.fires = true
      · rw [if_pos hf]; exact ⟨Nat.le_trans (len_lose _ _) (len_putB _ _ _), rfl⟩
      · rw [if_neg hf]; exact ⟨len_putB _ _ _, rfl⟩
    · have e : D.append o.name o.b = ((0, D.look o.name), D) := by unfold Dk.append; rw [if_neg hl]
      rw [e]; exact id_
  have c2 : (D.sync o.name).2.files.length ≤ D.files.length + 1 ∧ (D.sync o.name).2.limit = D.limit := by
    unfold Dk.sync
    by_cases hl : D.look o.name = 0
    · rw [if_pos hl]; exact ch _ fun l => Nat.le_of_eq (len_upd _ _ _)
    · rw [if_neg hl]; exact id_
  have c3 : (D.cut o.name o.n).2.files.length ≤ D.files.length + 1 ∧ (D.cut o.name o.n).2.limit = D.limit := by
    unfold Dk.cut
    by_cases hl : D.look o.name = 0
    · rw [if_pos hl]
      by_cases hk : o.n < 0 ∨ (lenOf D.files o.name : Int) < o.n
      · rw [if_pos hk]; exact id_
      · rw [if_neg hk]; exact ch _ fun l => Nat.le_of_eq (len_upd _ _ _)
    · rw [if_neg hl]; exact id_
  have c4 : (D.remove o.name).2.files.length ≤ D.files.length + 1 ∧ (D.remove o.name).2.limit = D.limit := by
    unfold Dk.remove
    by_cases hl : D.look o.name = 0
    · rw [if_pos hl]; exact ch _ fun l => len_del _ _
    · rw [if_neg hl]; exact id_
  have c8 : (D.arm o.n o.m).2.files.length ≤ D.files.length + 1 ∧ (D.arm o.n o.m).2.limit = D.limit := by
    unfold Dk.arm
    by_cases h : D.down = true
    · rw [if_pos h]; exact id_
    · rw [if_neg h]
      by_cases h : o.n < 0 ∨ (0 < o.n ∧ o.m < 0)
      · rw [if_pos h]; exact id_
      · rw [if_neg h]; exact id_
  have c9 : (D.crash o.n).2.files.length ≤ D.files.length + 1 ∧ (D.crash o.n).2.limit = D.limit := by
    unfold Dk.crash
    by_cases h : D.down = true
    · rw [if_pos h]; exact id_
    · rw [if_neg h]
      by_cases h : o.n < 0
      · rw [if_pos h]; exact id_
      · rw [if_neg h]; exact ⟨Nat.le_succ_of_le (len_lose _ _), rfl⟩
  have c11 : (D.turn o.name o.n (maskOf o.m)).2.files.length ≤ D.files.length + 1 ∧ (D.turn o.name o.n (maskOf o.m)).2.limit = D.limit := by
    unfold Dk.turn
    by_cases hl : D.look o.name = 0
    · rw [if_pos hl]
      by_cases hk : o.n < 0 ∨ (lenOf D.files o.name : Int) ≤ o.n
      · rw [if_pos hk]; exact id_
      · rw [if_neg hk]; exact ⟨Nat.le_succ_of_le (Nat.le_of_eq (len_upd _ _ _)), rfl⟩
    · rw [if_neg hl]; exact id_
  unfold Dk.does
  by_cases h1 : o.kind = 1
  · rw [if_pos h1]; exact c1
  rw [if_neg h1]
  by_cases h2 : o.kind = 2
  · rw [if_pos h2]; exact c2
  rw [if_neg h2]
  by_cases h3 : o.kind = 3
  · rw [if_pos h3]; exact c3
  rw [if_neg h3]
  by_cases h4 : o.kind = 4
  · rw [if_pos h4]; exact c4
  rw [if_neg h4]
  by_cases h5 : o.kind = 5
  · rw [if_pos h5]; exact id_
  rw [if_neg h5]
  by_cases h6 : o.kind = 6
  · rw [if_pos h6]; exact id_
  rw [if_neg h6]
  by_cases h7 : o.kind = 7
  · rw [if_pos h7]; exact id_
  rw [if_neg h7]
  by_cases h8 : o.kind = 8
  · rw [if_pos h8]; exact c8
  rw [if_neg h8]
  by_cases h9 : o.kind = 9
  · rw [if_pos h9]; exact c9
  rw [if_neg h9]
  by_cases h10 : o.kind = 10
  · rw [if_pos h10]; exact id_
  rw [if_neg h10]
  by_cases h11 : o.kind = 11
  · rw [if_pos h11]; exact c11
  rw [if_neg h11]; exact id_
end Go.Proofs
