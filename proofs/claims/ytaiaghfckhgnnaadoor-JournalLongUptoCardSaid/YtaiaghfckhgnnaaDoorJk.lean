/- JournalFull, plainly: what the calls make of the disk. No program in sight. -/
import Derived.Test.YtaiaghfckhgnnaaDoorJx
import Derived.Test.YtaiaghfckhgnnaaDoorJo
namespace Go.Proofs
open Go.Dm Go.Jn
set_option linter.unusedVariables false
set_option linter.unusedSimpArgs false
def nL : ByteArray := ⟨#[108, 111, 103]⟩
theorem okL : okName nL = true := by decide
theorem beqL : (nL == nL) = true := by decide
/-- a disk for 'most' bytes with the records hv in its one file, none of them durable -/
structure FS (most : Nat) (D : Dk) (hv : List (List UInt8)) : Prop where
  lim : D.limit = most
  up : D.down = false
  st : D.steps = 0
  fl : D.files = [] ∧ hv = [] ∨ D.files = [⟨nL, fileOf 0 hv, 0⟩]
  fit : (fileOf 0 hv).length ≤ most
section
variable {most : Nat} {D : Dk} {hv : List (List UInt8)} {r : List UInt8}
theorem FS.start (most : Nat) : FS most ⟨most, [], false, 0, 0⟩ [] := ⟨rfl, rfl, rfl, .inl ⟨rfl, rfl⟩, Nat.zero_le _⟩
theorem FS.used (h : FS most D hv) : D.used = (fileOf 0 hv).length := by
  unfold Dk.used
  rcases h.fl with ⟨h1, h2⟩ | h1
  · rw [h1, h2]; rfl
  · rw [h1]; simp [total]
theorem FS.lk (h : FS most D hv) : D.look nL = if D.files = [] then 112 else 0 := by
  unfold Dk.look
  rw [h.up, if_neg (by simp), if_pos okL]
  rcases h.fl with ⟨h1, h2⟩ | h1
  · rw [h1]; rfl
  · rw [h1]; simp [Dm.get, beqL]
theorem FS.look (h : FS most D hv) : lookE D nL (endsOf hv) 0 = 0 := by
  have hk := h.lk
  unfold lookE Dk.size
  rw [endsOf_end]
  rcases h.fl with ⟨h1, h2⟩ | h1
  · rw [if_pos h1] at hk
    rw [hk, h2]
    simp [fileOf]
  · rw [if_neg (by rw [h1]; simp)] at hk
    rw [hk, h1]
    have e1 : lenOf [(⟨nL, fileOf 0 hv, 0⟩ : Fl)] nL = (fileOf 0 hv).length := by simp [lenOf, Dm.get, beqL]
    simp [e1, endN]
theorem FS.put (h : FS most D hv) (b : List UInt8) : putB nL b D.files = [⟨nL, fileOf 0 hv ++ b, 0⟩] := by
  rcases h.fl with ⟨h1, h2⟩ | h1
  · rw [h1, h2]; simp [putB, Dm.get, ins, fileOf]
  · rw [h1]; simp [putB, Dm.get, beqL, upd]
theorem FS.app (h : FS most D hv) (b : List UInt8) : D.append nL b = ((min b.length (most - (fileOf 0 hv).length), if min b.length (most - (fileOf 0 hv).length) < b.length then 111 else 0), { D with files := [⟨nL, fileOf 0 hv ++ b.take (min b.length (most - (fileOf 0 hv).length)), 0⟩] }) := by
  have hk := h.lk
  unfold Dk.append
  rw [hk, if_pos (by by_cases hd : D.files = [] <;> simp [hd])]
  simp only [h.used, h.lim, h.put]
  obtain ⟨lim, files, down, steps, keep⟩ := D
  obtain rfl : lim = most := h.lim
  obtain rfl : steps = 0 := h.st
  simp [Dk.fires, Dk.tick]
theorem FS.app_ok (h : FS most D hv) (hf : (fileOf 0 hv).length + (r.length + 16) ≤ most) :
    ∃ D1, D.append nL (jwrap (jpay hv.length r)) = ((r.length + 16, 0), D1) ∧ FS most D1 (hv ++ [r]) := by
  have hl : (jwrap (jpay hv.length r)).length = r.length + 16 := by rw [wrap_len, payload_len]
  have ha := h.app (jwrap (jpay hv.length r))
  rw [hl, Nat.min_eq_left (by omega), if_neg (by omega), List.take_of_length_le (by omega)] at ha
  refine ⟨_, ha, ⟨h.lim, h.up, h.st, .inr ?_, ?_⟩⟩
  · rw [fileOf_snoc]
  · rw [fileOf_snoc, List.length_append, hl]; omega
theorem FS.app_full (h : FS most D hv) (hf : most < (fileOf 0 hv).length + (r.length + 16)) :
    ∃ n D1 D2, D.append nL (jwrap (jpay hv.length r)) = ((n, 111), D1) ∧ n ≤ most ∧ (n = 0 → D2 = D1) ∧ (0 < n → D1.cut nL (endN (endsOf hv) (endsOf hv).length : Int) = (0, D2)) ∧ FS most D2 hv := by
  have hl : (jwrap (jpay hv.length r)).length = r.length + 16 := by rw [wrap_len, payload_len]
  have ha := h.app (jwrap (jpay hv.length r))
  rw [hl, Nat.min_eq_right (by omega), if_pos (by omega)] at ha
  refine ⟨_, _, { D with files := [⟨nL, fileOf 0 hv, 0⟩] }, ha, by omega, fun h0 => ?_, fun h0 => ?_, ⟨h.lim, h.up, h.st, .inr rfl, h.fit⟩⟩
  · rw [h0]; simp
  · rw [endsOf_end]
    unfold Dk.cut Dk.look
    simp only [h.up, Bool.false_eq_true, if_false, okL, if_true]
    rw [show Dm.get [(⟨nL, fileOf 0 hv ++ (jwrap (jpay hv.length r)).take (most - (fileOf 0 hv).length), 0⟩ : Fl)] nL = some ⟨nL, fileOf 0 hv ++ (jwrap (jpay hv.length r)).take (most - (fileOf 0 hv).length), 0⟩ by simp [Dm.get, beqL]]
    simp only [if_true]
    have e1 : ¬ (((fileOf 0 hv).length : Int) < 0 ∨ (lenOf [(⟨nL, fileOf 0 hv ++ (jwrap (jpay hv.length r)).take (most - (fileOf 0 hv).length), 0⟩ : Fl)] nL : Int) < ((fileOf 0 hv).length : Int)) := by
      have : lenOf [(⟨nL, fileOf 0 hv ++ (jwrap (jpay hv.length r)).take (most - (fileOf 0 hv).length), 0⟩ : Fl)] nL = (fileOf 0 hv ++ (jwrap (jpay hv.length r)).take (most - (fileOf 0 hv).length)).length := by simp [lenOf, Dm.get, beqL]
      rw [this, List.length_append]; omega
    rw [if_neg e1]
    unfold Dk.change
    obtain ⟨lim, files, down, steps, keep⟩ := D
    obtain rfl : steps = 0 := h.st
    obtain rfl : down = false := h.up
    simp [Dk.fires, Dk.tick, upd]
/-- behind a Sync, a crash that keeps nothing, and Up -/
theorem FS.found (h : FS most D hv) : ∃ D2, (0 = hv.length → D2 = D) ∧ (0 ≠ hv.length → D.sync nL = (0, D2)) ∧ (D2.crash 0).1 = 0 ∧ (hv = [] → ((D2.crash 0).2.up.size nL).2.2 = 112) ∧
    (hv ≠ [] → (D2.crash 0).2.up.size nL = ((fileOf 0 hv).length, (fileOf 0 hv).length, 0) ∧ (D2.crash 0).2.up.read nL 0 ((fileOf 0 hv).length : Int) = (fileOf 0 hv, 0)) := by
  by_cases hn : hv = []
  · refine ⟨D, fun _ => rfl, fun h0 => absurd (by rw [hn]; rfl) h0, ?_, fun _ => ?_, fun h0 => absurd hn h0⟩
    · simp [Dk.crash, h.up]
    · have hf : (D.crash 0).2.up.files = [] := by
        simp only [Dk.crash, h.up, Bool.false_eq_true, if_false, Dk.up, Dk.lose]
        rcases h.fl with ⟨h1, h2⟩ | h1
        · rw [if_neg (by decide)]; simp [h1, loseL]
        · rw [if_neg (by decide)]; simp [h1, hn, fileOf, loseL, surv]
      have hd : (D.crash 0).2.up.down = false := rfl
      simp [Dk.size, Dk.look, hd, okL, hf, Dm.get]
  · have h1 : D.files = [⟨nL, fileOf 0 hv, 0⟩] := by
      rcases h.fl with ⟨_, h2⟩ | h1
      · exact absurd h2 hn
      · exact h1
    have hne : fileOf 0 hv ≠ [] := fun e => by
      have h1 := count_le hv 0
      rw [e] at h1
      simp at h1
      exact hn h1
    refine ⟨{ D with files := [⟨nL, fileOf 0 hv, (fileOf 0 hv).length⟩] }, fun h0 => absurd (List.eq_nil_of_length_eq_zero h0.symm) hn, fun _ => ?_, ?_, fun h0 => absurd h0 hn, fun _ => ?_⟩
    · have hk := h.lk
      rw [if_neg (by rw [h1]; simp)] at hk
      unfold Dk.sync Dk.change
      rw [if_pos hk]
      have hfi : D.fires = false := by unfold Dk.fires; simp [h.st]
      rw [hfi]
      simp [Dk.tick, h.st, h1, upd]
    · simp [Dk.crash, h.up]
    · have hf : (Dk.crash { D with files := [(⟨nL, fileOf 0 hv, (fileOf 0 hv).length⟩ : Fl)] } 0).2.up.files = [⟨nL, fileOf 0 hv, (fileOf 0 hv).length⟩] := by
        simp only [Dk.crash, h.up, Bool.false_eq_true, if_false, Dk.up, Dk.lose]
        rw [if_neg (by decide)]
        simp [loseL, surv, hne]
      have hd : (Dk.crash { D with files := [(⟨nL, fileOf 0 hv, (fileOf 0 hv).length⟩ : Fl)] } 0).2.up.down = false := rfl
      have hlk : (Dk.crash { D with files := [(⟨nL, fileOf 0 hv, (fileOf 0 hv).length⟩ : Fl)] } 0).2.up.look nL = 0 := by
        unfold Dk.look
        rw [hd, if_neg (by simp), if_pos okL, hf]
        simp [Dm.get, beqL]
      have e1 : lenOf [(⟨nL, fileOf 0 hv, (fileOf 0 hv).length⟩ : Fl)] nL = (fileOf 0 hv).length := by simp [lenOf, Dm.get, beqL]
      have e2 : sureOf [(⟨nL, fileOf 0 hv, (fileOf 0 hv).length⟩ : Fl)] nL = (fileOf 0 hv).length := by simp [sureOf, Dm.get, beqL]
      have e3 : bytesOf [(⟨nL, fileOf 0 hv, (fileOf 0 hv).length⟩ : Fl)] nL = fileOf 0 hv := by simp [bytesOf, Dm.get, beqL]
      refine ⟨?_, ?_⟩
      · unfold Dk.size
        rw [if_pos hlk, hf, e1, e2]
      · unfold Dk.read
        rw [if_pos hlk, hf, e1, e3, if_neg (by omega), show Int.toNat 0 = 0 from rfl, List.drop_zero, List.take_of_length_le (by simp)]
end
end Go.Proofs
