/- JournalNumbers, plainly: frames that stand twice, in another order, or have no number: what Parse finds. No program in sight. -/
import Derived.Test.YtaiaghfckhgnnaaGreatDoorT0
namespace Go.Proofs
open Go.Dm Go.Jn
set_option linter.unusedVariables false
set_option linter.unusedSimpArgs false
theorem next_index {k m : Nat} {x : List UInt8} (t : List UInt8) (hx : x.length ≤ 131068) (hkm : k ≠ m) (hk : k < 4294967296) (hm : m < 4294967296) : (jnext m (jwrap (jpay k x) ++ t)).2.2 = 121 := by
  unfold jnext
  rw [first_wrap (by rw [payload_len]; omega)]
  simp only [if_true]
  unfold jrecord
  rw [if_neg (by rw [payload_len]; omega)]
  have h1 : (jpay k x).take 4 = be4 k := by simp [jpay, be4]
  rw [h1, if_pos (fun e => hkm (be4_inj hk hm e))]
theorem next_cut {m : Nat} {p : List UInt8} (t : List UInt8) (hp : p.length < 4) : (jnext m (jwrap p ++ t)).2.2 = 102 := by
  unfold jnext
  rw [first_wrap (by omega)]
  simp only [if_true]
  unfold jrecord
  rw [if_pos hp]
section
variable {l : List (List UInt8)} {i wh : Nat} {c : List UInt8} {rt : Bool}
/-- the frame of number k, out of the file -/
theorem frame_of {k : Nat} {x : List UInt8} (h : l[k]? = some x) : ((fileOf 0 l).take (atN l (k + 1))).drop (atN l k) = jwrap (jpay k x) := by
  have hw : (jwrap (jpay k x)).length = x.length + 16 := by rw [wrap_len, payload_len]
  have hfl : (fileOf 0 (l.take k)).length = atN l k := rfl
  have e1 : (fileOf 0 l).take (atN l (k + 1)) = fileOf 0 (l.take k) ++ jwrap (jpay k x) := by
    rw [file_at h, ← List.append_assoc]
    exact List.take_left' (by rw [List.length_append, hfl, hw, atN_succ h])
  rw [e1]
  exact List.drop_left' hfl
theorem wrap_ne (p : List UInt8) : jwrap p ≠ [] := by simp [jwrap]
/-- what has been put together of the frames so far: the first wh in order, and behind them, if something is wrong, a frame that can't stand there -/
structure NS (l : List (List UInt8)) (i : Nat) (c : List UInt8) (wh : Nat) (rt : Bool) : Prop where
  le : wh ≤ l.length
  good : rt = true → c = fileOf 0 (l.take wh) ∧ wh = i
  bad : rt = false → ∃ t e, c = fileOf 0 (l.take wh) ++ t ∧ t ≠ [] ∧ (e = 102 ∨ e = 121) ∧ ∀ u, (jnext wh (t ++ u)).2.2 = e
theorem NS.start (l : List (List UInt8)) : NS l 0 [] 0 true := ⟨Nat.zero_le _, fun _ => ⟨by simp [fileOf], rfl⟩, fun h => by simp at h⟩
theorem NS.more (h : NS l i c wh rt) {f : List UInt8} (hf : f ≠ []) (hb : rt = true → ∃ e, (e = 102 ∨ e = 121) ∧ ∀ u, (jnext wh (f ++ u)).2.2 = e) : NS l (i + 1) (c ++ f) wh false := by
  refine ⟨h.le, fun h => by simp at h, fun _ => ?_⟩
  cases hr : rt with
  | true =>
    obtain ⟨e, he, hu⟩ := hb hr
    exact ⟨f, e, by rw [(h.good hr).1], hf, he, hu⟩
  | false =>
    obtain ⟨t, e, rfl, ht, he, hu⟩ := h.bad hr
    exact ⟨t ++ f, e, by rw [List.append_assoc], by simp [ht], he, fun u => by rw [List.append_assoc]; exact hu _⟩
/-- a frame without a number -/
theorem NS.other (h : NS l i c wh rt) {p : List UInt8} (hp : p.length < 4) : NS l (i + 1) (c ++ jwrap p) wh false := h.more (wrap_ne p) fun _ => ⟨102, .inl rfl, fun u => next_cut u hp⟩
/-- the frame at its place -/
theorem NS.right (h : NS l i c wh true) {x : List UInt8} (hx : l[i]? = some x) : NS l (i + 1) (c ++ jwrap (jpay i x)) (wh + 1) true := by
  obtain ⟨h1, h2⟩ := h.good rfl
  subst h2
  have hk : wh < l.length := (List.getElem?_eq_some_iff.1 hx).1
  refine ⟨hk, fun _ => ⟨?_, rfl⟩, fun h => by simp at h⟩
  rw [h1, List.take_add_one, hx]
  show _ = fileOf 0 (l.take wh ++ [x])
  rw [fileOf_snoc, List.length_take, Nat.min_eq_left h.le]
/-- a frame at another place, or behind something wrong -/
theorem NS.wrong (h : NS l i c wh rt) {k : Nat} {x : List UInt8} (hx : x.length ≤ 131068) (hkl : k < 4294967296) (hil : i < 4294967296) (hki : rt = true → k ≠ i) : NS l (i + 1) (c ++ jwrap (jpay k x)) wh false :=
  h.more (wrap_ne _) fun hr => ⟨121, .inr rfl, fun u => by rw [(h.good hr).2]; exact next_index u hx (hki hr) hkl hil⟩
/-- what Parse finds -/
theorem NS.found (h : NS l i c wh rt) (hr : ∀ x ∈ l, x.length ≤ 131068) : ∃ e, jparse c = (l.take wh, atN l wh, e) ∧ (e = 0 ∨ e = 121 ∨ e = 102) ∧ (e = 0 ↔ atN l wh = c.length) := by
  cases hrt : rt with
  | true =>
    obtain ⟨h1, -⟩ := h.good hrt
    refine ⟨0, ?_, .inl rfl, ⟨fun _ => by rw [h1]; rfl, fun _ => rfl⟩⟩
    rw [h1, parse_file fun x hx => hr x (List.mem_of_mem_take hx)]
    rfl
  | false =>
    obtain ⟨t, e, rfl, ht, he, hu⟩ := h.bad hrt
    have hl1 : (l.take wh).length = wh := by rw [List.length_take]; exact Nat.min_eq_left h.le
    have hn := hu []
    rw [List.append_nil] at hn
    refine ⟨e, ?_, he.elim (fun h => .inr (.inr h)) (fun h => .inr (.inl h)), ⟨fun h0 => by omega, fun h0 => ?_⟩⟩
    · rw [parse_stop (fun x hx => hr x (List.mem_of_mem_take hx)) ht (by rw [hl1, hn]; omega), hl1, hn]
      rfl
    · have := List.length_pos_iff.2 ht
      rw [List.length_append] at h0
      have hfl : (fileOf 0 (l.take wh)).length = atN l wh := rfl
      omega
end
end Go.Proofs
