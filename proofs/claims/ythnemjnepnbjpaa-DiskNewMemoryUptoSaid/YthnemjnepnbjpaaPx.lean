/- DiskPrefix, plainly: what the calls make of the disk. No program in sight. -/
import Derived.Test.YthnemjnepnbjpaaPa
import Derived.Test.YthnemjnepnbjpaaDa
namespace Go.Proofs
open Go.Dm
set_option linter.unusedVariables false
set_option linter.unusedSimpArgs false

def nB : ByteArray := ⟨#[98]⟩
/-- the files ahead of the crash -/
def preF (X Y Z : List UInt8) (s : Nat) : List Fl := [⟨nA, 33 :: X ++ Y, s⟩, ⟨nB, 63 :: Z, 0⟩]
/-- the files that the crash leaves -/
def leftF (X Y Z : List UInt8) (k : Nat) : List Fl :=
  ⟨nA, 33 :: X ++ Y.take k, (33 :: X ++ Y.take k).length⟩ :: (if (63 :: Z).take k = [] then [] else [⟨nB, (63 :: Z).take k, ((63 :: Z).take k).length⟩])
theorem nAB : nA ≠ nB := by decide
theorem nltAB : nlt nA nB := by decide
theorem nltBA : ¬ nlt nB nA := nlt_asymm nltAB
theorem okA : okName nA = true := by decide
theorem okB : okName nB = true := by decide
theorem beqA : (nA == nA) = true := by decide
theorem beqAB : (nA == nB) = false := by decide
theorem beqBA : (nB == nA) = false := by decide
section
variable {X Y Z : List UInt8} {k L : Nat}
theorem px1 (hL : L = X.length + Y.length + Z.length + 2) : (⟨L, [], false, 0, 0⟩ : Dk).append nA (33 :: X) = ((X.length + 1, 0), ⟨L, [⟨nA, 33 :: X, 0⟩], false, 0, 0⟩) := by
  have hl : (⟨L, [], false, 0, 0⟩ : Dk).look nA = 112 := by simp [Dk.look, okA, Dm.get]
  rw [append_eq (.inr hl) rfl]
  have hm : min (33 :: X).length (L - (⟨L, [], false, 0, 0⟩ : Dk).used) = X.length + 1 := by simp [Dk.used, total]; omega
  rw [hm]
  simp [Dk.fires, Dk.tick, putB, Dm.get, ins, List.take_of_length_le]
theorem px2 : (⟨L, [⟨nA, 33 :: X, 0⟩], false, 0, 0⟩ : Dk).sync nA = (0, ⟨L, [⟨nA, 33 :: X, X.length + 1⟩], false, 0, 0⟩) := by
  simp [Dk.sync, Dk.look, okA, Dm.get, Dk.change, Dk.fires, Dk.tick, upd, beqA]
theorem px3 (hL : L = X.length + Y.length + Z.length + 2) : (⟨L, [⟨nA, 33 :: X, X.length + 1⟩], false, 0, 0⟩ : Dk).append nB (63 :: Z) = ((Z.length + 1, 0), ⟨L, preF X [] Z (X.length + 1), false, 0, 0⟩) := by
  have hl : (⟨L, [⟨nA, 33 :: X, X.length + 1⟩], false, 0, 0⟩ : Dk).look nB = 112 := by simp [Dk.look, okB, Dm.get, beqAB]
  rw [append_eq (.inr hl) rfl]
  have hm : min (63 :: Z).length (L - (⟨L, [⟨nA, 33 :: X, X.length + 1⟩], false, 0, 0⟩ : Dk).used) = Z.length + 1 := by simp [Dk.used, total]; omega
  rw [hm]
  simp [Dk.fires, Dk.tick, putB, Dm.get, ins, beqAB, nltBA, preF]
theorem px_look {s : Nat} {W : List UInt8} {st : Nat} {kp : Int} : (⟨L, preF X W Z s, false, st, kp⟩ : Dk).look nA = 0 := by simp [Dk.look, okA, Dm.get, preF, beqA]
theorem px_used {s : Nat} {W : List UInt8} {st : Nat} {kp : Int} : (⟨L, preF X W Z s, false, st, kp⟩ : Dk).used = X.length + W.length + Z.length + 2 := by simp [Dk.used, total, preF]; omega
theorem px_put {s : Nat} : putB nA Y (preF X [] Z s) = preF X Y Z s := by
  simp [putB, Dm.get, preF, beqA, upd, nAB.symm]
theorem px_lose : loseL k (preF X Y Z (X.length + 1)) = leftF X Y Z k := by
  have h1 : (33 :: X ++ Y).take (X.length + 1 + k) = 33 :: X ++ Y.take k := by
    rw [List.take_append]
    simp [List.take_of_length_le]
  unfold loseL preF leftF
  simp only [List.filterMap_cons, List.filterMap_nil, surv, Nat.zero_add, h1]
  have h2 : ¬ (33 :: X ++ Y.take k = []) := by simp
  rw [if_neg h2]
  by_cases hk : (63 :: Z).take k = []
  · rw [if_pos hk, if_pos hk]
  · rw [if_neg hk, if_neg hk]
theorem px4 (hL : L = X.length + Y.length + Z.length + 2) : (⟨L, preF X [] Z (X.length + 1), false, 0, 0⟩ : Dk).append nA Y = ((Y.length, 0), ⟨L, preF X Y Z (X.length + 1), false, 0, 0⟩) := by
  rw [append_eq (.inl px_look) rfl, px_used]
  have hm : min Y.length (L - (X.length + ([] : List UInt8).length + Z.length + 2)) = Y.length := by simp; omega
  rw [hm, List.take_of_length_le (Nat.le_refl _), px_put]
  simp [Dk.fires, Dk.tick]
theorem px5 : (⟨L, preF X Y Z (X.length + 1), false, 0, 0⟩ : Dk).crash (k : Int) = (0, ⟨L, leftF X Y Z k, true, 0, 0⟩) := by
  simp [Dk.crash, Dk.lose, px_lose]
theorem px6 : (⟨L, preF X [] Z (X.length + 1), false, 0, 0⟩ : Dk).arm 1 (k : Int) = (0, ⟨L, preF X [] Z (X.length + 1), false, 1, (k : Int)⟩) := by
  simp [Dk.arm]
theorem px7 (hL : L = X.length + Y.length + Z.length + 2) : (⟨L, preF X [] Z (X.length + 1), false, 1, (k : Int)⟩ : Dk).append nA Y = ((0, 110), ⟨L, leftF X Y Z k, true, 0, (k : Int)⟩) := by
  rw [append_eq (.inl px_look) rfl, px_used]
  have hm : min Y.length (L - (X.length + ([] : List UInt8).length + Z.length + 2)) = Y.length := by simp; omega
  rw [hm, List.take_of_length_le (Nat.le_refl _), px_put]
  simp [Dk.fires, Dk.tick, Dk.lose, px_lose]
theorem surv_whole {f : Fl} (h : f.bytes ≠ []) (hs : f.sure = f.bytes.length) : surv 0 f = some f := by
  obtain ⟨nm, b, s⟩ := f
  simp only at h hs
  subst hs
  unfold surv
  simp only [Nat.add_zero, List.take_length]
  rw [if_neg h]
theorem px8 : loseL 0 (leftF X Y Z k) = leftF X Y Z k := by
  have key : ∀ l : List Fl, (∀ f ∈ l, f.bytes ≠ [] ∧ f.sure = f.bytes.length) → loseL 0 l = l := fun l => by
    induction l with
    | nil => intro _; rfl
    | cons f l ih =>
      intro h
      unfold loseL at ih ⊢
      rw [List.filterMap_cons, surv_whole (h f (by simp)).1 (h f (by simp)).2]
      simp only
      rw [ih fun g hg => h g (by simp [hg])]
  refine key _ fun f hf => ?_
  unfold leftF at hf
  rcases List.mem_cons.1 hf with rfl | hf
  · exact ⟨by simp, rfl⟩
  · by_cases hk : (63 :: Z).take k = []
    · rw [if_pos hk] at hf; cases hf
    · rw [if_neg hk] at hf
      obtain rfl := List.mem_singleton.1 hf
      exact ⟨hk, rfl⟩
end
end Go.Proofs
