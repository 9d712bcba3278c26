/- JournalFinds, plainly: a disk with records of which some are durable, armed or not; what a crash leaves of it; what Open finds then. No program in sight. -/
import Derived.Test.YtaiaghfckhgnnaaGreatDoorJ6
import Derived.Test.YtaiaghfckhgnnaaGreatDoorJR
namespace Go.Proofs
open Go.Dm Go.Jn
set_option linter.unusedVariables false
set_option linter.unusedSimpArgs false
/-- what is left of the records' file, cut at m bytes: all of it durable -/
def cutF (full : List (List UInt8)) (m : Nat) : List Fl := if (fileOf 0 full).take m = [] then [] else [⟨nL, (fileOf 0 full).take m, ((fileOf 0 full).take m).length⟩]
/-- a disk that runs, with the records hv, the first su of them durable; if it is armed, it keeps kp bytes -/
structure FJ (D : Dk) (hv : List (List UInt8)) (su kp : Nat) : Prop where
  lim : D.limit = 1048576
  up : D.down = false
  fl : D.files = [] ∧ hv = [] ∨ D.files = [⟨nL, fileOf 0 hv, atN hv su⟩]
  su : su ≤ hv.length
  arm : D.steps ≠ 0 → D.keep = (kp : Int)
  sml : ∀ x ∈ hv, x.length ≤ 200
/-- a disk behind a crash -/
structure FC (D : Dk) (full : List (List UInt8)) (m : Nat) : Prop where
  lim : D.limit = 1048576
  fl : D.files = cutF full m
  sml : ∀ x ∈ full, x.length ≤ 200
theorem lose_one (full : List (List UInt8)) (s k : Nat) : loseL k [⟨nL, fileOf 0 full, s⟩] = cutF full (s + k) := by
  unfold loseL cutF surv
  simp only [List.filterMap_cons, List.filterMap_nil]
  by_cases h : (fileOf 0 full).take (s + k) = []
  · simp [h]
  · simp [h]
theorem lose_cut (full : List (List UInt8)) (m k : Nat) : loseL k (cutF full m) = cutF full m := by
  unfold cutF
  split
  · rfl
  · rename_i h
    unfold loseL surv
    simp only [List.filterMap_cons, List.filterMap_nil]
    have e : ((fileOf 0 full).take m).take (((fileOf 0 full).take m).length + k) = (fileOf 0 full).take m := List.take_of_length_le (by omega)
    rw [e, if_neg h]
theorem file_nil {l : List (List UInt8)} (h : (fileOf 0 l).length = 0) : l = [] := List.eq_nil_of_length_eq_zero (by have := count_le l 0; omega)
theorem atN_le {l : List (List UInt8)} (k : Nat) : atN l k ≤ (fileOf 0 l).length := by
  have h := fileOf_append (l.take k) (l.drop k) 0
  rw [List.take_append_drop] at h
  have := congrArg List.length h
  rw [List.length_append] at this
  unfold atN
  omega
theorem file_pre {l : List (List UInt8)} (k : Nat) : (fileOf 0 l).take (atN l k) = fileOf 0 (l.take k) := by
  have h := fileOf_append (l.take k) (l.drop k) 0
  rw [List.take_append_drop] at h
  rw [h]
  unfold atN
  rw [List.take_append_of_le_length (Nat.le_refl _), List.take_length]
section
variable {D : Dk} {hv full : List (List UInt8)} {r : List UInt8} {su kp m : Nat}
theorem FJ.start : FJ ⟨1048576, [], false, 0, 0⟩ [] 0 0 := ⟨rfl, rfl, .inl ⟨rfl, rfl⟩, Nat.le_refl _, fun h => absurd rfl h, by simp⟩
theorem FJ.at0 (h : FJ D hv su kp) (h2 : hv = []) : atN hv su = 0 := by
  have := atN_le (l := hv) su
  rw [h2] at this ⊢
  exact Nat.le_zero.1 this
theorem FJ.used (h : FJ D hv su kp) : D.used = (fileOf 0 hv).length := by
  unfold Dk.used
  rcases h.fl with ⟨h1, h2⟩ | h1
  · rw [h1, h2]; rfl
  · rw [h1]; simp [total]
theorem FJ.lk (h : FJ D hv su kp) : D.look nL = if D.files = [] then 112 else 0 := by
  unfold Dk.look
  rw [h.up, if_neg (by simp), if_pos okL]
  rcases h.fl with ⟨h1, -⟩ | h1
  · rw [h1]; rfl
  · rw [h1]; simp [Dm.get, beqL]
theorem FJ.size (h : FJ D hv su kp) (h1 : D.files = [⟨nL, fileOf 0 hv, atN hv su⟩]) : D.size nL = ((fileOf 0 hv).length, atN hv su, 0) := by
  have hk := h.lk
  rw [if_neg (by rw [h1]; simp)] at hk
  unfold Dk.size
  rw [if_pos hk, h1]
  simp [lenOf, sureOf, Dm.get, beqL]
theorem FJ.look (h : FJ D hv su kp) : lookE D nL (endsOf hv) su = 0 := by
  unfold lookE
  rw [endsOf_end]
  rcases h.fl with ⟨h1, h2⟩ | h1
  · have hk := h.lk
    rw [if_pos h1] at hk
    unfold Dk.size
    rw [hk, h2]
    simp [fileOf]
  · rw [h.size h1, endN_file h.su]
    simp [atN]
theorem FJ.put (h : FJ D hv su kp) (b : List UInt8) : putB nL b D.files = [⟨nL, fileOf 0 hv ++ b, atN hv su⟩] := by
  rcases h.fl with ⟨h1, h2⟩ | h1
  · rw [h1, h.at0 h2, h2]; simp [putB, Dm.get, ins, fileOf]
  · rw [h1]; simp [putB, Dm.get, beqL, upd]
theorem FJ.rec1 (h : FJ D hv su kp) (hr : r.length ≤ 200) : ∀ x ∈ hv ++ [r], x.length ≤ 200 := fun x hx => by
  rcases List.mem_append.1 hx with hx | hx
  · exact h.sml x hx
  · obtain rfl : x = r := by simpa using hx
    exact hr
/-- an Append: taken, or the armed crash comes -/
theorem FJ.app (h : FJ D hv su kp) (hr : r.length ≤ 200) (hf : (fileOf 0 hv).length + (r.length + 16) ≤ 1048576) :
    (∃ D1, D.append nL (jwrap (jpay hv.length r)) = ((r.length + 16, 0), D1) ∧ FJ D1 (hv ++ [r]) su kp) ∨
    (∃ D1, D.append nL (jwrap (jpay hv.length r)) = ((0, 110), D1) ∧ D1.down = true ∧ FC D1 (hv ++ [r]) (atN hv su + kp)) := by
  have hl : (jwrap (jpay hv.length r)).length = r.length + 16 := by rw [wrap_len, payload_len]
  have hfo : fileOf 0 hv ++ jwrap (jpay hv.length r) = fileOf 0 (hv ++ [r]) := (fileOf_snoc _ _).symm
  have hat : atN hv su = atN (hv ++ [r]) su := (atN_snoc r h.su).symm
  have ha : D.append nL (jwrap (jpay hv.length r)) = if D.steps = 1 then ((0, 110), ({ D with files := [⟨nL, fileOf 0 (hv ++ [r]), atN hv su⟩] } : Dk).tick.lose D.keep.toNat) else ((r.length + 16, 0), ({ D with files := [⟨nL, fileOf 0 (hv ++ [r]), atN hv su⟩] } : Dk).tick) := by
    have hk := h.lk
    unfold Dk.append
    rw [hk, if_pos (by by_cases hd : D.files = [] <;> simp [hd])]
    simp only [h.used, h.lim, h.put, hl]
    rw [Nat.min_eq_left (by omega), List.take_of_length_le (by omega), hfo]
    by_cases hs : D.steps = 1 <;> simp [Dk.fires, hs]
  by_cases hs : D.steps = 1
  · rw [if_pos hs] at ha
    refine .inr ⟨_, ha, rfl, ⟨h.lim, ?_, h.rec1 hr⟩⟩
    have hke : D.keep.toNat = kp := by rw [h.arm (by omega)]; rfl
    show loseL D.keep.toNat [⟨nL, fileOf 0 (hv ++ [r]), atN hv su⟩] = _
    rw [lose_one, hke]
  · rw [if_neg hs] at ha
    refine .inl ⟨_, ha, ⟨h.lim, h.up, .inr (by rw [hat]; rfl), by rw [List.length_append]; have := h.su; omega, fun hne => h.arm fun e => hne ?_, h.rec1 hr⟩⟩
    show D.steps - 1 = 0
    omega
/-- a Sync that has something to do -/
theorem FJ.syn (h : FJ D hv su kp) (hne : su ≠ hv.length) :
    (∃ D1, D.sync nL = (0, D1) ∧ FJ D1 hv hv.length kp) ∨ (∃ D1, D.sync nL = (110, D1) ∧ D1.down = true ∧ FC D1 hv (atN hv su + kp)) := by
  have h1 : D.files = [⟨nL, fileOf 0 hv, atN hv su⟩] := by
    rcases h.fl with ⟨_, h2⟩ | h1
    · have := h.su; rw [h2] at this hne; exact absurd (Nat.le_zero.1 this) hne
    · exact h1
  have hk := h.lk
  rw [if_neg (by rw [h1]; simp)] at hk
  have ha : D.sync nL = if D.steps = 1 then (110, D.tick.lose D.keep.toNat) else (0, { D.tick with files := [⟨nL, fileOf 0 hv, (fileOf 0 hv).length⟩] }) := by
    unfold Dk.sync Dk.change
    rw [if_pos hk, h1]
    by_cases hs : D.steps = 1 <;> simp [Dk.fires, hs, upd]
  by_cases hs : D.steps = 1
  · rw [if_pos hs] at ha
    refine .inr ⟨_, ha, rfl, ⟨h.lim, ?_, h.sml⟩⟩
    have hke : D.keep.toNat = kp := by rw [h.arm (by omega)]; rfl
    show loseL D.keep.toNat D.files = _
    rw [h1, lose_one, hke]
  · rw [if_neg hs] at ha
    refine .inl ⟨_, ha, ⟨h.lim, h.up, .inr (by rw [atN_all]), Nat.le_refl _, fun hne => h.arm fun e => hne ?_, h.sml⟩⟩
    show D.steps - 1 = 0
    omega
theorem FJ.crash (h : FJ D hv su kp) (k : Nat) : ∃ D1, D.crash (k : Int) = (0, D1) ∧ D1.down = true ∧ FC D1 hv (atN hv su + k) := by
  refine ⟨D.lose k, ?_, rfl, ⟨h.lim, ?_, h.sml⟩⟩
  · unfold Dk.crash
    rw [h.up, if_neg (by simp), if_neg (by omega)]
    rfl
  · show loseL k D.files = _
    rcases h.fl with ⟨h1, h2⟩ | h1
    · rw [h1, h2]; simp [loseL, cutF, fileOf]
    · rw [h1, lose_one]
theorem FC.ups (h : FC D full m) : FC D.up full m ∧ D.up.down = false ∧ D.up.steps = 0 := ⟨⟨h.lim, h.fl, h.sml⟩, rfl, rfl⟩
/-- how many records have their frames within so many bytes -/
def cntN : List (List UInt8) → Nat → Nat
  | [], _ => 0
  | r :: t, k => if 16 + r.length ≤ k then 1 + cntN t (k - 16 - r.length) else 0
def wholeN (full : List (List UInt8)) (su k : Nat) : Nat := su + cntN (full.drop su) k
theorem wholeN_end (k : Nat) : wholeN full full.length k = full.length := by unfold wholeN; rw [List.drop_length]; rfl
theorem whole_step {k : Nat} {x : List UInt8} (hx : full[su]? = some x) (hk : 16 + x.length ≤ k) : wholeN full su k = wholeN full (su + 1) (k - 16 - x.length) := by
  have hl := (List.getElem?_eq_some_iff.1 hx).1
  unfold wholeN
  rw [List.drop_eq_getElem_cons hl, (List.getElem?_eq_some_iff.1 hx).2, cntN, if_pos hk]
  omega
theorem whole_stop {k : Nat} {x : List UInt8} (hx : full[su]? = some x) (hk : ¬ 16 + x.length ≤ k) : wholeN full su k = su := by
  have hl := (List.getElem?_eq_some_iff.1 hx).1
  unfold wholeN
  rw [List.drop_eq_getElem_cons hl, (List.getElem?_eq_some_iff.1 hx).2, cntN, if_neg hk]
  rfl
theorem whole_at : ∀ (n : Nat) {su k : Nat}, full.length - su = n → su ≤ full.length → su ≤ wholeN full su k ∧ wholeN full su k ≤ full.length ∧ atN full (wholeN full su k) ≤ atN full su + k ∧ (wholeN full su k < full.length → atN full su + k < atN full (wholeN full su k + 1))
  | 0, su, k, hn, hs => by
    obtain rfl : su = full.length := by omega
    rw [wholeN_end]
    exact ⟨Nat.le_refl _, Nat.le_refl _, by omega, fun h => absurd h (Nat.lt_irrefl _)⟩
  | n + 1, su, k, hn, hs => by
    obtain ⟨x, hx⟩ : ∃ x, full[su]? = some x := ⟨_, List.getElem?_eq_getElem (by omega)⟩
    have ha := atN_succ hx
    by_cases hk : 16 + x.length ≤ k
    · obtain ⟨h1, h2, h3, h4⟩ := whole_at n (su := su + 1) (k := k - 16 - x.length) (by omega) (by omega)
      rw [whole_step hx hk]
      exact ⟨by omega, h2, by omega, fun h => by have := h4 h; omega⟩
    · rw [whole_stop hx hk]
      exact ⟨Nat.le_refl _, hs, by omega, fun h => by omega⟩
theorem FC.parsed {k : Nat} (h : FC D full m) (hk : k ≤ full.length) (h1 : atN full k ≤ m) (h2 : k < full.length → m < atN full (k + 1)) : ∃ y, jparse ((fileOf 0 full).take m) = (full.take k, atN full k, y) := by
  have hr : ∀ x ∈ full, x.length ≤ 131068 := fun x hx => by have := h.sml x hx; omega
  by_cases hkl : k < full.length
  · exact ⟨_, parse_torn hr hk h1 h2 fun e => by omega⟩
  · obtain rfl : k = full.length := by omega
    have e : (fileOf 0 full).take m = (fileOf 0 full).take (atN full full.length) := by
      rw [List.take_of_length_le (by rw [← atN_all]; exact h1), List.take_of_length_le (by rw [atN_all]; exact Nat.le_refl _)]
    rw [e]
    exact ⟨_, parse_torn hr hk (Nat.le_refl _) (fun h => absurd h (Nat.lt_irrefl _)) fun _ => rfl⟩
theorem FC.bytes (h : FC D full m) : (bytesOf D.files nL).length ≤ (fileOf 0 full).length := by
  rw [h.fl]
  unfold cutF
  split
  · exact Nat.zero_le _
  · simp [bytesOf, Dm.get, beqL]; omega
theorem FJ.bytes (h : FJ D hv su kp) : (bytesOf D.files nL).length = (fileOf 0 hv).length := by
  rcases h.fl with ⟨h1, h2⟩ | h1
  · rw [h1, h2]; rfl
  · rw [h1]; simp [bytesOf, Dm.get, beqL]
/-- Open found the records rs, and has left them durable -/
def Found (D : Dk) (rs : List (List UInt8)) : Prop := ∃ cut DR, openR D nL = (rs, cut, 0, 0, DR) ∧ DR.down = false ∧ DR.limit = 1048576 ∧ Dur rs DR.files
/-- Open has met the crash -/
def Fell (D : Dk) (full : List (List UInt8)) (m : Nat) : Prop := ∃ at_ DR, openR D nL = ([], 0, at_, 110, DR) ∧ DR.down = true ∧ FC DR full m
/-- Open behind a crash -/
theorem FC.opened {k : Nat} (h : FC D full m) (hup : D.down = false) (hk : k ≤ full.length) (h1 : atN full k ≤ m) (h2 : k < full.length → m < atN full (k + 1)) :
    (D.steps ≠ 1 ∧ Found D (full.take k)) ∨ (D.steps = 1 ∧ (Found D (full.take k) ∨ Fell D full m)) := by
  have hak := atN_le (l := full) k
  by_cases hb : (fileOf 0 full).take m = []
  · have hfl : D.files = [] := by rw [h.fl]; unfold cutF; rw [if_pos hb]
    have hlk : D.look nL = 112 := by
      unfold Dk.look
      rw [hup, if_neg (by simp), if_pos okL, hfl]
      rfl
    have hs : (D.size nL).2.2 = 112 := by unfold Dk.size; rw [if_neg (by rw [hlk]; decide)]; exact hlk
    have hlen := congrArg List.length hb
    rw [List.length_take, List.length_nil] at hlen
    have htk : full.take k = [] := file_nil (by show atN full k = 0; omega)
    have hF : Found D (full.take k) := ⟨0, D, by unfold openR; rw [if_pos hs, htk], hup, h.lim, .inl ⟨hfl, htk⟩⟩
    by_cases hs1 : D.steps = 1
    · exact .inr ⟨hs1, .inl hF⟩
    · exact .inl ⟨hs1, hF⟩
  · have hfl : D.files = [⟨nL, (fileOf 0 full).take m, ((fileOf 0 full).take m).length⟩] := by rw [h.fl]; unfold cutF; rw [if_neg hb]
    obtain ⟨y, hp⟩ := h.parsed hk h1 h2
    have hpre : ((fileOf 0 full).take m).take (atN full k) = fileOf 0 (full.take k) := by rw [List.take_take, Nat.min_eq_left h1, file_pre]
    have hgb : atN full k ≤ ((fileOf 0 full).take m).length := by rw [List.length_take]; omega
    obtain ⟨b, hbe⟩ : ∃ b, b = (fileOf 0 full).take m := ⟨_, rfl⟩
    rw [← hbe] at hfl hp hpre hgb
    have hlk : D.look nL = 0 := by
      unfold Dk.look
      rw [hup, if_neg (by simp), if_pos okL, hfl]
      simp [Dm.get, beqL]
    have e1 : lenOf D.files nL = b.length := by rw [hfl]; simp [lenOf, Dm.get, beqL]
    have e2 : sureOf D.files nL = b.length := by rw [hfl]; simp [sureOf, Dm.get, beqL]
    have e3 : bytesOf D.files nL = b := by rw [hfl]; simp [bytesOf, Dm.get, beqL]
    have hsz : D.size nL = (b.length, b.length, 0) := by unfold Dk.size; rw [if_pos hlk, e1, e2]
    by_cases hg : atN full k < b.length
    · have hcut : D.cut nL (atN full k : Int) = if D.steps = 1 then (110, D.tick.lose D.keep.toNat) else (0, { D.tick with files := [⟨nL, fileOf 0 (full.take k), (fileOf 0 (full.take k)).length⟩] }) := by
        unfold Dk.cut
        rw [if_pos hlk, e1, if_neg (by omega)]
        unfold Dk.change
        rw [hfl]
        have e4 : min b.length (atN full k) = (fileOf 0 (full.take k)).length := by rw [Nat.min_eq_right hgb]; rfl
        by_cases hs : D.steps = 1 <;> simp [Dk.fires, hs, upd, hpre, e4]
      by_cases hs : D.steps = 1
      · refine .inr ⟨hs, .inr ⟨(full.take k).length, D.tick.lose D.keep.toNat, ?_, rfl, ⟨h.lim, ?_, h.sml⟩⟩⟩
        · unfold openR
          rw [hsz, if_neg (by simp), if_neg (by simp), e3, hp]
          simp only [if_pos hg, hcut, if_pos hs]
          simp
        · show loseL D.keep.toNat D.files = _
          rw [h.fl, lose_cut]
      · refine .inl ⟨hs, b.length - atN full k, { D.tick with files := [⟨nL, fileOf 0 (full.take k), (fileOf 0 (full.take k)).length⟩] }, ?_, hup, h.lim, .inr rfl⟩
        · unfold openR
          rw [hsz, if_neg (by simp), if_neg (by simp), e3, hp]
          simp only [if_pos hg, hcut, if_neg hs]
          simp [show ¬ b.length < atN full k by omega]
    · have hge : atN full k = b.length := by omega
      have hbf : b = fileOf 0 (full.take k) := by rw [← hpre, hge, List.take_length]
      have hF : Found D (full.take k) := by
        refine ⟨0, D, ?_, hup, h.lim, .inr (by rw [hfl, ← hbf])⟩
        unfold openR
        rw [hsz, if_neg (by simp), if_neg (by simp), e3, hp]
        simp [hge]
      by_cases hs1 : D.steps = 1
      · exact .inr ⟨hs1, .inl hF⟩
      · exact .inl ⟨hs1, hF⟩
/-- Open of a file that is whole -/
theorem FJ.opened (h : FJ D hv su kp) : (D.steps ≠ 1 ∧ Found D hv) ∨ (D.steps = 1 ∧ (Found D hv ∨ Fell D hv (atN hv su + kp))) := by
  have hr : ∀ x ∈ hv, x.length ≤ 131068 := fun x hx => by have := h.sml x hx; omega
  rcases h.fl with ⟨h1, h2⟩ | h1
  · have hk := h.lk
    rw [if_pos h1] at hk
    have hs : (D.size nL).2.2 = 112 := by unfold Dk.size; rw [if_neg (by rw [hk]; decide)]; exact hk
    have hF : Found D hv := ⟨0, D, by unfold openR; rw [if_pos hs, h2], h.up, h.lim, .inl ⟨h1, h2⟩⟩
    by_cases hs1 : D.steps = 1
    · exact .inr ⟨hs1, .inl hF⟩
    · exact .inl ⟨hs1, hF⟩
  · have hsz := h.size h1
    have e3 : bytesOf D.files nL = fileOf 0 hv := by rw [h1]; simp [bytesOf, Dm.get, beqL]
    by_cases hlt : atN hv su < (fileOf 0 hv).length
    · have hne : su ≠ hv.length := fun e => by rw [e, atN_all] at hlt; omega
      rcases h.syn hne with ⟨D1, hsy, hJ⟩ | ⟨D1, hsy, hd, hC⟩
      · have hF : Found D hv := by
          refine ⟨0, D1, ?_, hJ.up, hJ.lim, ?_⟩
          · unfold openR
            rw [hsz, if_neg (by simp), if_neg (by simp), e3, parse_file hr]
            simp only [Nat.lt_irrefl, if_false, ne_eq, not_true_eq_false, if_pos hlt, hsy, Nat.sub_self]
          · rcases hJ.fl with ⟨h4, h5⟩ | h4
            · exact .inl ⟨h4, h5⟩
            · rw [atN_all] at h4; exact .inr h4
        by_cases hs1 : D.steps = 1
        · exact .inr ⟨hs1, .inl hF⟩
        · exact .inl ⟨hs1, hF⟩
      · have hFe : Fell D hv (atN hv su + kp) := by
          refine ⟨hv.length, D1, ?_, hd, hC⟩
          unfold openR
          rw [hsz, if_neg (by simp), if_neg (by simp), e3, parse_file hr]
          simp [hlt, hsy]
        by_cases hs1 : D.steps = 1
        · exact .inr ⟨hs1, .inr hFe⟩
        · exfalso
          have hk := h.lk
          rw [if_neg (by rw [h1]; simp)] at hk
          unfold Dk.sync Dk.change at hsy
          rw [if_pos hk] at hsy
          simp [Dk.fires, hs1] at hsy
    · have hge : atN hv su = (fileOf 0 hv).length := by have := atN_le (l := hv) su; omega
      have hF : Found D hv := by
        refine ⟨0, D, ?_, h.up, h.lim, .inr (by rw [h1, hge])⟩
        unfold openR
        rw [hsz, if_neg (by simp), if_neg (by simp), e3, parse_file hr]
        simp [hge]
      by_cases hs1 : D.steps = 1
      · exact .inr ⟨hs1, .inl hF⟩
      · exact .inl ⟨hs1, hF⟩
/-- the disk behind opens -/
theorem Found.next {rs : List (List UInt8)} {DR : Dk} (hup : DR.down = false) (hl : DR.limit = 1048576) (hd : Dur rs DR.files) (hr : ∀ x ∈ rs, x.length ≤ 200) (kp : Nat) : FJ { DR with steps := 0, keep := 0 } rs rs.length kp :=
  ⟨hl, hup, by rw [atN_all]; exact hd, Nat.le_refl _, fun h => absurd rfl h, hr⟩
/-- a copy of the disk -/
theorem FJ.copy (h : FJ D hv su kp) : FJ ⟨1048576, D.files, false, 0, 0⟩ hv su kp := ⟨rfl, rfl, h.fl, h.su, fun h => absurd rfl h, h.sml⟩
theorem FJ.armed (h : FJ D hv su kp) (s k : Nat) : D.arm (s : Int) (k : Int) = (0, { D with steps := s, keep := (k : Int) }) ∧ FJ { D with steps := s, keep := (k : Int) } hv su k := by
  refine ⟨?_, ⟨h.lim, h.up, h.fl, h.su, fun _ => rfl, h.sml⟩⟩
  unfold Dk.arm
  rw [h.up, if_neg (by simp), if_neg (by omega)]
  rfl
theorem FJ.fit (h : FJ D hv su kp) (hn : hv.length ≤ 100) : (fileOf 0 hv).length ≤ 21600 := by
  have := file_le h.sml
  omega
end
end Go.Proofs
