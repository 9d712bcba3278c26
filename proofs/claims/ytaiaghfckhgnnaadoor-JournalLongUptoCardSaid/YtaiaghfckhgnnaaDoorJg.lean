/- A disk's one file, handed to Load. Conditions: each sentence's own. -/
import Derived.Test.YtaiaghfckhgnnaaDoorJ2
import Derived.Test.YtaiaghfckhgnnaaDoorJk
namespace Go.Proofs
open Go.RowKit Go.Hp Go.Dm Go.Dr Go.Jn
set_option linter.unusedVariables false
/-- no file, or one of at most lim bytes -/
def OneF (fs : List Fl) (lim : Nat) : Prop := fs = [] ∨ ∃ b s, fs = [⟨nL, b, s⟩] ∧ s ≤ b.length ∧ b.length ≤ lim
def flFi2 (f : Fl) : FI := ⟨f.name, f.bytes, (f.sure : Int)⟩
def LF.li2 (x : LF) : LI := ⟨x.name, x.p, x.cap, x.bytes, (x.sure : Int)⟩
theorem OneF.load {fs : List Fl} {lim : Nat} (h : OneF fs lim) (hl : lim ≤ 1099511627776) : ldAll (lim : Int) (fs.map flFi2) = (0, fs) ∧ sortL fs = fs := by
  rcases h with rfl | ⟨b, s, rfl, hs, hb⟩
  · refine ⟨?_, rfl⟩
    exact ldAll_ok hl rfl (by simp [total])
  · have h1 : ldErr [] (flFi2 ⟨nL, b, s⟩) = 0 := by
      unfold ldErr
      rw [if_pos (by exact okL)]
      simp only [Dm.get, List.find?_nil]
      rw [if_neg]
      show ¬ ((s : Int) < 0 ∨ (b.length : Int) < (s : Int))
      omega
    have h2 : ldGo [] [flFi2 ⟨nL, b, s⟩] = (0, [⟨nL, b, s⟩]) := by
      rw [ldGo, if_pos h1, ldGo]
      rfl
    exact ⟨ldAll_ok hl h2 (by simp [total]; omega), rfl⟩
theorem OneF.given {w : World} {v : Value} {l : List LF} {fs : List Fl} {lim : Nat} (hf : OneF fs lim) (h : FilesAt w v l) (hl : l.map LF.fl = fs) (hlim : lim ≤ 1099511627776) : IFiles w v (l.map LF.li2) ∧ (l.map LF.li2).map LI.fi = fs.map flFi2 := by
  have hall : ∀ x ∈ l, x.name = nL ∧ x.bytes.length ≤ lim ∧ x.sure ≤ lim := fun x hx => by
    have h1 : x.fl ∈ fs := by rw [← hl]; exact List.mem_map_of_mem hx
    rcases hf with rfl | ⟨b, s, rfl, hs, hb⟩
    · cases h1
    · have h2 : x.fl = ⟨nL, b, s⟩ := by simpa using h1
      unfold LF.fl at h2
      simp only [Fl.mk.injEq] at h2
      exact ⟨h2.1, by rw [h2.2.1]; exact hb, by rw [h2.2.2]; omega⟩
  have hlen : l.length ≤ 1 := by
    have h0 : l.length = fs.length := by rw [← hl, List.length_map]
    rw [h0]
    rcases hf with rfl | ⟨b, s, rfl, hs, hb⟩
    · exact Nat.zero_le _
    · exact Nat.le_refl _
  have hfi : (l.map LF.li2).map LI.fi = fs.map flFi2 := by rw [← hl, List.map_map, List.map_map]; rfl
  refine ⟨⟨?_, fun y hy => ?_, by simp; omega, ?_⟩, hfi⟩
  · rw [List.length_map, List.flatMap_map]
    exact h.sl.rc
  · obtain ⟨x, hx, rfl⟩ := List.mem_map.1 hy
    obtain ⟨h1, h2, h3⟩ := hall x hx
    have ho := h.each x hx
    obtain ⟨p, c, e, hle, -⟩ := id ho
    obtain ⟨-, rfl⟩ : x.p = p ∧ x.cap = c := by simpa [LF.sv] using e
    refine ⟨⟨?_, by show x.bytes.length ≤ _; omega, hle, ?_, ?_⟩, ho.rb⟩
    · show x.name.size ≤ maxLen
      rw [h1]; decide
    · show -9223372036854775808 ≤ (x.sure : Int); omega
    · show (x.sure : Int) ≤ 9223372036854775807; omega
  · have e1 : (l.map LF.li2).map (fun x => x.fi.fl) = fs := by
      rw [← hl, List.map_map]
      exact List.map_congr_left fun x _ => by simp [LF.li2, LI.fi, FI.fl, LF.fl]
    rw [e1]
    rcases hf with rfl | ⟨b, s, rfl, hs, hb⟩
    · simp [total]
    · simp [total]; omega
end Go.Proofs
