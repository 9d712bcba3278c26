/- DiskKeeps, plainly: which of the three a call is. No program in sight. -/
import Derived.Test.YthnemjnepnbjpaaKb
import Derived.Test.YthnemjnepnbjpaaRp
namespace Go.Proofs
open Go.Dm
set_option linter.unusedVariables false
section
variable {D : Dk} {B : List Fl} {keep : Int} {o : OpP}

theorem keepd_arm (h : o.kind = 8) : (Dk.does D o).2.down = D.down ∧ ((Dk.does D o).1.e = 0 ∨ (Dk.does D o).1.e = 110 ∨ (Dk.does D o).1.e = 12) ∧ (D.down = true → (Dk.does D o).1.e = 110) := by
  unfold Dk.does
  rw [if_neg (by omega), if_neg (by omega), if_neg (by omega), if_neg (by omega), if_neg (by omega), if_neg (by omega), if_neg (by omega), if_pos h]
  unfold Dk.arm
  by_cases hd : D.down = true
  · rw [if_pos hd]; exact ⟨rfl, .inr (.inl rfl), fun _ => rfl⟩
  · rw [if_neg hd]
    split
    · exact ⟨rfl, .inr (.inr rfl), fun h => absurd h hd⟩
    · exact ⟨rfl, .inl rfl, fun h => absurd h hd⟩
theorem keepd_crash (h : o.kind = 9) : ((Dk.does D o).1.e = 0 ∧ D.down = false ∧ (Dk.does D o).2.down = true) ∨ (((Dk.does D o).1.e = 110 ∨ (Dk.does D o).1.e = 12) ∧ (Dk.does D o).2 = D) := by
  unfold Dk.does
  rw [if_neg (by omega), if_neg (by omega), if_neg (by omega), if_neg (by omega), if_neg (by omega), if_neg (by omega), if_neg (by omega), if_neg (by omega), if_pos h]
  unfold Dk.crash
  by_cases hd : D.down = true
  · rw [if_pos hd]; exact .inr ⟨.inl rfl, rfl⟩
  · rw [if_neg hd]
    split
    · exact .inr ⟨.inr rfl, rfl⟩
    · exact .inl ⟨rfl, by simpa using hd, rfl⟩
/-- a call on a disk that is down -/
theorem keepd_down (hd : D.down = true) : ((Dk.does D o).1.e = 110 ∧ (Dk.does D o).2.down = true) ∨ ((Dk.does D o).1.e = 0 ∧ (Dk.does D o).2.down = true) ∨ ((Dk.does D o).1.e = 0 ∧ (Dk.does D o).2.down = false) := by
  have hl : D.look o.name = 110 := by unfold Dk.look; rw [if_pos hd]
  have h0 : ¬ D.look o.name = 0 := by rw [hl]; simp
  unfold Dk.does
  by_cases h1 : o.kind = 1
  · rw [if_pos h1]
    have e : D.append o.name o.b = ((0, D.look o.name), D) := by unfold Dk.append; rw [if_neg (by rw [hl]; simp)]
    rw [e]; exact .inl ⟨hl, hd⟩
  rw [if_neg h1]
  by_cases h2 : o.kind = 2
  · rw [if_pos h2]; unfold Dk.sync; rw [if_neg h0]; exact .inl ⟨hl, hd⟩
  rw [if_neg h2]
  by_cases h3 : o.kind = 3
  · rw [if_pos h3]; unfold Dk.cut; rw [if_neg h0]; exact .inl ⟨hl, hd⟩
  rw [if_neg h3]
  by_cases h4 : o.kind = 4
  · rw [if_pos h4]; unfold Dk.remove; rw [if_neg h0]; exact .inl ⟨hl, hd⟩
  rw [if_neg h4]
  by_cases h5 : o.kind = 5
  · rw [if_pos h5]; unfold Dk.read; rw [if_neg h0]; exact .inl ⟨hl, hd⟩
  rw [if_neg h5]
  by_cases h6 : o.kind = 6
  · rw [if_pos h6]; unfold Dk.size; rw [if_neg h0]; exact .inl ⟨hl, hd⟩
  rw [if_neg h6]
  by_cases h7 : o.kind = 7
  · rw [if_pos h7]; exact .inr (.inl ⟨rfl, hd⟩)
  rw [if_neg h7]
  by_cases h8 : o.kind = 8
  · rw [if_pos h8]; unfold Dk.arm; rw [if_pos hd]; exact .inl ⟨rfl, hd⟩
  rw [if_neg h8]
  by_cases h9 : o.kind = 9
  · rw [if_pos h9]; unfold Dk.crash; rw [if_pos hd]; exact .inl ⟨rfl, hd⟩
  rw [if_neg h9]
  by_cases h10 : o.kind = 10
  · rw [if_pos h10]; exact .inr (.inr ⟨rfl, rfl⟩)
  rw [if_neg h10]
  by_cases h11 : o.kind = 11
  · rw [if_pos h11]; unfold Dk.turn; rw [if_neg h0]; exact .inl ⟨hl, hd⟩
  rw [if_neg h11]
  exact .inr (.inl ⟨rfl, hd⟩)
theorem met_ok (ok : D.Ok) (h : Kept D B keep) {S : List Fl} (p : (met B D.limit o).Perm S) : (∀ g ∈ S, g.sure ≤ g.bytes.length) ∧ total S ≤ 1099511627776 ∧ total (met B D.limit o) ≤ 1099511627776 := by
  have hu : total B = D.used := total_perm h.perm
  have key : ∃ E : Dk, E.Ok ∧ E.limit = D.limit ∧ (met B D.limit o).Perm E.files := by
    unfold met
    by_cases h1 : o.kind = 1
    · rw [if_pos h1, hu]
      exact ⟨_, put_ok ok o.name (o.b.take (min o.b.length (D.limit - D.used))) (by simp; omega), rfl, bput_perm h.perm ok.sorted.nodup⟩
    · rw [if_neg h1]
      exact ⟨D, ok, rfl, h.perm⟩
  obtain ⟨E, hE, hl, hp⟩ := key
  have hSE : S.Perm E.files := p.symm.trans hp
  have ht : total E.files ≤ 1099511627776 := Nat.le_trans hE.used hE.limit
  refine ⟨fun g hg => hE.sure g (hSE.subset hg), ?_, ?_⟩
  · rw [total_perm hSE]; exact ht
  · rw [total_perm hp]; exact ht
theorem kept_plain (ok : D.Ok) (h : Kept D B keep) : (B.map (·.name)).Nodup ∧ total B ≤ 1099511627776 ∧ total B ≤ D.limit ∧ B.length = D.files.length :=
  ⟨perm_nodup h.perm ok.sorted.nodup, by rw [total_perm h.perm]; exact Nat.le_trans ok.used ok.limit, by rw [total_perm h.perm]; exact ok.used, h.perm.length_eq⟩
theorem does_put_n (ok : D.Ok) (h1 : o.kind = 1) : (Dk.does D o).1.n ≤ 1099511627776 := by
  unfold Dk.does
  rw [if_pos h1]
  have hlim := ok.limit
  by_cases hl : D.look o.name = 0 ∨ D.look o.name = 112
  · rw [append_eq hl rfl]
    split
    · exact Nat.zero_le _
    · show min _ _ ≤ _
      omega
  · have e : D.append o.name o.b = ((0, D.look o.name), D) := by unfold Dk.append; rw [if_neg hl]
    rw [e]; exact Nat.zero_le _
end
end Go.Proofs
