/- The plain disk: an armed disk beside one that is not; a disk beside another of the same files. No program in sight. -/
import Derived.Test.YthnemjnepnbjpaaDp
namespace Go.Proofs
open Go.Dm
set_option linter.unusedVariables false

theorem look_congr {D C : Dk} (hf : D.files = C.files) (hd : D.down = C.down) (nm : ByteArray) : D.look nm = C.look nm := by
  unfold Dk.look; rw [hf, hd]

/-- D is armed, C is the same disk unarmed -/
structure Armed (D C : Dk) : Prop where
  files : D.files = C.files
  limit : D.limit = C.limit
  up : D.down = false
  up' : C.down = false
  steps : 1 ≤ D.steps
  steps' : C.steps = 0

section
variable {D C : Dk}
theorem Armed.look (h : Armed D C) (nm : ByteArray) : D.look nm = C.look nm := look_congr h.files (h.up.trans h.up'.symm) nm
theorem Armed.used (h : Armed D C) : D.used = C.used := by unfold Dk.used; rw [h.files]
theorem Armed.fires (h : Armed D C) : C.fires = false := by unfold Dk.fires; rw [h.steps']; rfl
theorem fires_eq {D : Dk} (h : D.fires = true) : D.steps = 1 := by unfold Dk.fires at h; simpa using h
theorem fires_ne {D : Dk} (h : ¬ D.fires = true) : D.steps ≠ 1 := by unfold Dk.fires at h; simpa using h

/-- what a call made of the armed disk and of the other one -/
def ArmedPost (D C : Dk) (app : Bool) (x y : Ans × Dk) : Prop :=
  (x.2.down = false ∧ x.1 = y.1 ∧ Armed x.2 y.2 ∧ x.2.keep = D.keep) ∨
  (x.2.down = true ∧ x.1.e = 110 ∧ x.1.n = 0 ∧ x.2.files = loseL D.keep.toNat (if app then y.2 else C).files ∧ (if app then y.2 else C).down = false)

theorem armed_same (h : Armed D C) (app : Bool) (a : Ans) : ArmedPost D C app (a, D) (a, C) := .inl ⟨h.up, rfl, h, rfl⟩

theorem armed_change (h : Armed D C) (g : List Fl → List Fl) : ArmedPost D C false ({ e := (D.change g).1 }, (D.change g).2) ({ e := (C.change g).1 }, (C.change g).2) := by
  unfold Dk.change
  have hc : ¬ C.fires = true := by rw [h.fires]; simp
  rw [if_neg hc]
  by_cases hf : D.fires = true
  · rw [if_pos hf]
    exact .inr ⟨rfl, rfl, rfl, by rw [if_neg (by simp)]; exact congrArg (loseL D.keep.toNat) h.files, by rw [if_neg (by simp)]; exact h.up'⟩
  · rw [if_neg hf]
    have h1 := fires_ne hf
    have h2 := h.steps
    refine .inl ⟨h.up, rfl, ⟨congrArg g h.files, h.limit, h.up, h.up', ?_, ?_⟩, rfl⟩
    · show 1 ≤ D.steps - 1
      omega
    · show C.steps - 1 = 0
      rw [h.steps']

theorem armed_append (h : Armed D C) (nm : ByteArray) (b : List UInt8) : ArmedPost D C true ({ e := (D.append nm b).1.2, n := (D.append nm b).1.1 }, (D.append nm b).2) ({ e := (C.append nm b).1.2, n := (C.append nm b).1.1 }, (C.append nm b).2) := by
  by_cases hl : D.look nm = 0 ∨ D.look nm = 112
  · have hl' : C.look nm = 0 ∨ C.look nm = 112 := by rw [← h.look]; exact hl
    have hc : ¬ C.fires = true := by rw [h.fires]; simp
    rw [append_eq hl rfl, append_eq hl' rfl, if_neg hc]
    have e : min b.length (D.limit - D.used) = min b.length (C.limit - C.used) := by rw [h.limit, h.used]
    rw [e]
    by_cases hf : D.fires = true
    · rw [if_pos hf]
      refine .inr ⟨rfl, rfl, rfl, ?_, ?_⟩
      · rw [if_pos rfl]
        show loseL D.keep.toNat (putB nm _ D.files) = loseL D.keep.toNat (putB nm _ C.files)
        rw [h.files]
      · rw [if_pos rfl]; exact h.up'
    · rw [if_neg hf]
      have h1 := fires_ne hf
      have h2 := h.steps
      refine .inl ⟨h.up, rfl, ⟨?_, h.limit, h.up, h.up', ?_, ?_⟩, rfl⟩
      · show putB nm _ D.files = putB nm _ C.files
        rw [h.files]
      · show 1 ≤ D.steps - 1
        omega
      · show C.steps - 1 = 0
        rw [h.steps']
  · have hl' : ¬ (C.look nm = 0 ∨ C.look nm = 112) := by rw [← h.look]; exact hl
    have e : D.append nm b = ((0, D.look nm), D) := by unfold Dk.append; rw [if_neg hl]
    have e' : C.append nm b = ((0, C.look nm), C) := by unfold Dk.append; rw [if_neg hl']
    rw [e, e', h.look]
    exact armed_same h true _

theorem armed_does (h : Armed D C) (o : OpP) (h8 : o.kind ≠ 8) (h9 : o.kind ≠ 9) (h10 : o.kind ≠ 10) : ArmedPost D C (o.kind == 1) (Dk.does D o) (Dk.does C o) := by
  have hf := h.files
  have hl := h.look o.name
  unfold Dk.does
  by_cases h1 : o.kind = 1
  · rw [if_pos h1, if_pos h1, beq_iff_eq.2 h1]; exact armed_append h _ _
  rw [if_neg h1, if_neg h1, beq_eq_false_iff_ne.2 h1]
  by_cases h2 : o.kind = 2
  · rw [if_pos h2, if_pos h2]
    unfold Dk.sync
    rw [← hl]
    by_cases hk : D.look o.name = 0
    · rw [if_pos hk, if_pos hk]; exact armed_change h _
    · rw [if_neg hk, if_neg hk]; exact armed_same h _ _
  rw [if_neg h2, if_neg h2]
  by_cases h3 : o.kind = 3
  · rw [if_pos h3, if_pos h3]
    unfold Dk.cut
    rw [← hl, ← hf]
    by_cases hk : D.look o.name = 0
    · rw [if_pos hk, if_pos hk]
      by_cases hn : o.n < 0 ∨ (lenOf D.files o.name : Int) < o.n
      · rw [if_pos hn, if_pos hn]; exact armed_same h _ _
      · rw [if_neg hn, if_neg hn]; exact armed_change h _
    · rw [if_neg hk, if_neg hk]; exact armed_same h _ _
  rw [if_neg h3, if_neg h3]
  by_cases h4 : o.kind = 4
  · rw [if_pos h4, if_pos h4]
    unfold Dk.remove
    rw [← hl]
    by_cases hk : D.look o.name = 0
    · rw [if_pos hk, if_pos hk]; exact armed_change h _
    · rw [if_neg hk, if_neg hk]; exact armed_same h _ _
  rw [if_neg h4, if_neg h4]
  by_cases h5 : o.kind = 5
  · rw [if_pos h5, if_pos h5]
    have e : D.read o.name o.n o.m = C.read o.name o.n o.m := by unfold Dk.read; rw [hl, hf]
    rw [e]; exact armed_same h _ _
  rw [if_neg h5, if_neg h5]
  by_cases h6 : o.kind = 6
  · rw [if_pos h6, if_pos h6]
    have e : D.size o.name = C.size o.name := by unfold Dk.size; rw [hl, hf]
    rw [e]; exact armed_same h _ _
  rw [if_neg h6, if_neg h6]
  by_cases h7 : o.kind = 7
  · rw [if_pos h7, if_pos h7, h.used, hf, h.up, ← h.up']; exact armed_same h _ _
  rw [if_neg h7, if_neg h7, if_neg h8, if_neg h8, if_neg h9, if_neg h9, if_neg h10, if_neg h10]
  by_cases h11 : o.kind = 11
  · rw [if_pos h11, if_pos h11]
    unfold Dk.turn
    rw [← hl, ← hf]
    by_cases hk : D.look o.name = 0
    · rw [if_pos hk, if_pos hk]
      by_cases hn : o.n < 0 ∨ (lenOf D.files o.name : Int) ≤ o.n
      · rw [if_pos hn, if_pos hn]; exact armed_same h _ _
      · rw [if_neg hn, if_neg hn]
        exact .inl ⟨h.up, rfl, ⟨rfl, h.limit, h.up, h.up', h.steps, h.steps'⟩, rfl⟩
    · rw [if_neg hk, if_neg hk]; exact armed_same h _ _
  rw [if_neg h11, if_neg h11]
  exact armed_same h _ _
end

/-! ### a disk and another one of the same files -/
/-- the same but for what an unarmed disk would keep -/
structure Alike (D C : Dk) : Prop where
  files : D.files = C.files
  limit : D.limit = C.limit
  down : D.down = C.down
  steps : D.steps = C.steps
  keep : D.steps ≠ 0 → D.keep = C.keep

section
variable {D C : Dk}
theorem Alike.look (h : Alike D C) (nm : ByteArray) : D.look nm = C.look nm := look_congr h.files h.down nm
theorem Alike.used (h : Alike D C) : D.used = C.used := by unfold Dk.used; rw [h.files]
theorem Alike.fires (h : Alike D C) : D.fires = C.fires := by unfold Dk.fires; rw [h.steps]
theorem Alike.change (h : Alike D C) (g : List Fl → List Fl) : (D.change g).1 = (C.change g).1 ∧ Alike (D.change g).2 (C.change g).2 := by
  unfold Dk.change
  rw [← h.fires]
  by_cases hf : D.fires = true
  · rw [if_pos hf, if_pos hf]
    have hk : D.keep = C.keep := h.keep (by rw [fires_eq hf]; simp)
    refine ⟨rfl, ⟨?_, h.limit, rfl, rfl, fun hn => absurd rfl hn⟩⟩
    show loseL D.keep.toNat D.files = loseL C.keep.toNat C.files
    rw [hk, h.files]
  · rw [if_neg hf, if_neg hf]
    refine ⟨rfl, ⟨congrArg g h.files, h.limit, h.down, ?_, fun hn => h.keep fun e => hn ?_⟩⟩
    · show D.steps - 1 = C.steps - 1
      rw [h.steps]
    · show D.steps - 1 = 0
      omega
theorem Alike.append (h : Alike D C) (nm : ByteArray) (b : List UInt8) : (D.append nm b).1 = (C.append nm b).1 ∧ Alike (D.append nm b).2 (C.append nm b).2 := by
  by_cases hl : D.look nm = 0 ∨ D.look nm = 112
  · have hl' : C.look nm = 0 ∨ C.look nm = 112 := by rw [← h.look]; exact hl
    rw [append_eq hl rfl, append_eq hl' rfl, ← h.fires]
    have e : min b.length (D.limit - D.used) = min b.length (C.limit - C.used) := by rw [h.limit, h.used]
    rw [e]
    by_cases hf : D.fires = true
    · rw [if_pos hf, if_pos hf]
      have hk : D.keep = C.keep := h.keep (by rw [fires_eq hf]; simp)
      refine ⟨rfl, ⟨?_, h.limit, rfl, rfl, fun hn => absurd rfl hn⟩⟩
      show loseL D.keep.toNat (putB nm _ D.files) = loseL C.keep.toNat (putB nm _ C.files)
      rw [hk, h.files]
    · rw [if_neg hf, if_neg hf]
      refine ⟨rfl, ⟨?_, h.limit, h.down, ?_, fun hn => h.keep fun e => hn ?_⟩⟩
      · show putB nm _ D.files = putB nm _ C.files
        rw [h.files]
      · show D.steps - 1 = C.steps - 1
        rw [h.steps]
      · show D.steps - 1 = 0
        omega
  · have hl' : ¬ (C.look nm = 0 ∨ C.look nm = 112) := by rw [← h.look]; exact hl
    have e : D.append nm b = ((0, D.look nm), D) := by unfold Dk.append; rw [if_neg hl]
    have e' : C.append nm b = ((0, C.look nm), C) := by unfold Dk.append; rw [if_neg hl']
    rw [e, e', h.look]
    exact ⟨rfl, h⟩

theorem Alike.does (h : Alike D C) (o : OpP) : (Dk.does D o).1 = (Dk.does C o).1 ∧ Alike (Dk.does D o).2 (Dk.does C o).2 := by
  have hf := h.files
  have hl := h.look o.name
  have pair : ∀ {x y : Nat × Dk}, x.1 = y.1 ∧ Alike x.2 y.2 → (({ e := x.1 } : Ans) = { e := y.1 }) ∧ Alike x.2 y.2 := fun h => ⟨by rw [h.1], h.2⟩
  unfold Dk.does
  by_cases h1 : o.kind = 1
  · rw [if_pos h1, if_pos h1]
    have := h.append o.name o.b
    exact ⟨by rw [this.1], this.2⟩
  rw [if_neg h1, if_neg h1]
  by_cases h2 : o.kind = 2
  · rw [if_pos h2, if_pos h2]
    unfold Dk.sync
    rw [← hl]
    by_cases hk : D.look o.name = 0
    · rw [if_pos hk, if_pos hk]; exact pair (h.change _)
    · rw [if_neg hk, if_neg hk]; exact ⟨rfl, h⟩
  rw [if_neg h2, if_neg h2]
  by_cases h3 : o.kind = 3
  · rw [if_pos h3, if_pos h3]
    unfold Dk.cut
    rw [← hl, ← hf]
    by_cases hk : D.look o.name = 0
    · rw [if_pos hk, if_pos hk]
      by_cases hn : o.n < 0 ∨ (lenOf D.files o.name : Int) < o.n
      · rw [if_pos hn, if_pos hn]; exact ⟨rfl, h⟩
      · rw [if_neg hn, if_neg hn]; exact pair (h.change _)
    · rw [if_neg hk, if_neg hk]; exact ⟨rfl, h⟩
  rw [if_neg h3, if_neg h3]
  by_cases h4 : o.kind = 4
  · rw [if_pos h4, if_pos h4]
    unfold Dk.remove
    rw [← hl]
    by_cases hk : D.look o.name = 0
    · rw [if_pos hk, if_pos hk]; exact pair (h.change _)
    · rw [if_neg hk, if_neg hk]; exact ⟨rfl, h⟩
  rw [if_neg h4, if_neg h4]
  by_cases h5 : o.kind = 5
  · rw [if_pos h5, if_pos h5]
    have e : D.read o.name o.n o.m = C.read o.name o.n o.m := by unfold Dk.read; rw [hl, hf]
    rw [e]; exact ⟨rfl, h⟩
  rw [if_neg h5, if_neg h5]
  by_cases h6 : o.kind = 6
  · rw [if_pos h6, if_pos h6]
    have e : D.size o.name = C.size o.name := by unfold Dk.size; rw [hl, hf]
    rw [e]; exact ⟨rfl, h⟩
  rw [if_neg h6, if_neg h6]
  by_cases h7 : o.kind = 7
  · rw [if_pos h7, if_pos h7, h.used, hf, h.down]; exact ⟨rfl, h⟩
  rw [if_neg h7, if_neg h7]
  by_cases h8 : o.kind = 8
  · rw [if_pos h8, if_pos h8]
    unfold Dk.arm
    rw [← h.down]
    by_cases hd : D.down = true
    · rw [if_pos hd, if_pos hd]; exact ⟨rfl, h⟩
    · rw [if_neg hd, if_neg hd]
      by_cases hn : o.n < 0 ∨ (0 < o.n ∧ o.m < 0)
      · rw [if_pos hn, if_pos hn]; exact ⟨rfl, h⟩
      · rw [if_neg hn, if_neg hn]
        exact ⟨rfl, ⟨hf, h.limit, rfl, rfl, fun _ => rfl⟩⟩
  rw [if_neg h8, if_neg h8]
  by_cases h9 : o.kind = 9
  · rw [if_pos h9, if_pos h9]
    unfold Dk.crash
    rw [← h.down]
    by_cases hd : D.down = true
    · rw [if_pos hd, if_pos hd]; exact ⟨rfl, h⟩
    · rw [if_neg hd, if_neg hd]
      by_cases hn : o.n < 0
      · rw [if_pos hn, if_pos hn]; exact ⟨rfl, h⟩
      · rw [if_neg hn, if_neg hn]
        exact ⟨rfl, ⟨congrArg (loseL o.n.toNat) hf, h.limit, rfl, rfl, fun hn => absurd rfl hn⟩⟩
  rw [if_neg h9, if_neg h9]
  by_cases h10 : o.kind = 10
  · rw [if_pos h10, if_pos h10]
    exact ⟨rfl, ⟨hf, h.limit, rfl, rfl, fun hn => absurd rfl hn⟩⟩
  rw [if_neg h10, if_neg h10]
  by_cases h11 : o.kind = 11
  · rw [if_pos h11, if_pos h11]
    unfold Dk.turn
    rw [← hl, ← hf]
    by_cases hk : D.look o.name = 0
    · rw [if_pos hk, if_pos hk]
      by_cases hn : o.n < 0 ∨ (lenOf D.files o.name : Int) ≤ o.n
      · rw [if_pos hn, if_pos hn]; exact ⟨rfl, h⟩
      · rw [if_neg hn, if_neg hn]
        exact ⟨rfl, ⟨rfl, h.limit, h.down, h.steps, h.keep⟩⟩
    · rw [if_neg hk, if_neg hk]; exact ⟨rfl, h⟩
  rw [if_neg h11, if_neg h11]
  exact ⟨rfl, h⟩
end
end Go.Proofs
