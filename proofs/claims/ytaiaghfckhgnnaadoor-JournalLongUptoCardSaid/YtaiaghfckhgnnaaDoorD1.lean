/- Package disk's test of a file's name: it answers whether the text is a name. Conditions: none. Package disk's small methods and its look for a file, by the plain disk. Conditions: the disk lies as DRaw says. -/
import Derived.Test.YtaiaghfckhgnnaaDoorShelf
import Derived.Test.YtaiaghfckhgnnaaDoorWt
import Derived.Test.YtaiaghfckhgnnaaDoorDl
import Derived.Test.YtaiaghfckhgnnaaDoorDm
import Derived.WalkSpells
import Derived.WalkLawsBesides
import Derived.Outline
import Derived.WalkMore
import Derived.LoopN
import Derived.Lib.Hide
namespace Go.Proofs
open Go.RowKit Go.Hp Go.Dm
set_option linter.unusedVariables false

theorem enc_two : ∀ r : Fin 256, 128 ≤ r.val → ∃ b1 b2 : UInt8, Utf8.encode (r.val : Int) = ⟨#[b1, b2]⟩ ∧ 128 ≤ b2.toNat := by
  intro r h
  have hv : Utf8.valid (r.val : Int) = true := by
    unfold Utf8.valid; simp; left; omega
  refine ⟨_, _, by unfold Utf8.encode; simp only [hv, if_true]; rw [if_neg (by omega), if_pos (by omega)], ?_⟩
  simp; omega

set_option maxRecDepth 10000 in
set_option maxHeartbeats 1000000 in
theorem indexRune_high (r : Int) (w : World) (h0 : 128 ≤ r) (h1 : r ≤ 255) :
    Calls Tryd.prog 65 #[.string ⟨#[46, 95, 45]⟩, .int .i32 r] w fun e w' => e = .returned (.int .i64 (-1)) ∧ ∃ n, w' = w.drewN n := by
  have g1 : ¬ r < 128 := by omega
  have g2 : (r == 65533) = false := by simp; omega
  have g3 : Lib.validRune r = true := by unfold Lib.validRune; simp; omega
  obtain ⟨b1, b2, hb, hb2⟩ : ∃ b1 b2 : UInt8, Utf8.encode r = ⟨#[b1, b2]⟩ ∧ 128 ≤ b2.toNat := by
    have := enc_two ⟨r.toNat, by omega⟩ (by simp; omega)
    simpa [show ((r.toNat : Nat) : Int) = r from by omega] using this
  have hx : (((⟨#[46, 95, 45]⟩ : ByteArray)[1].toNat : Int) != (((⟨#[b1, b2]⟩ : ByteArray)[1]'(show 1 < 2 by decide)).toNat : Int)) = true := by
    have e1 : (⟨#[46, 95, 45]⟩ : ByteArray)[1].toNat = 95 := rfl
    have e2 : ((⟨#[b1, b2]⟩ : ByteArray)[1]'(show 1 < 2 by decide)).toNat = b2.toNat := rfl
    rw [e1, e2]; simp; omega
  have hy : Lib.indexByte [45] ((⟨#[b1, b2]⟩ : ByteArray)[1]'(show 1 < 2 by decide)) = -1 := by
    have e2 : ((⟨#[b1, b2]⟩ : ByteArray)[1]'(show 1 < 2 by decide)) = b2 := rfl
    rw [e2]
    have : b2 ≠ 45 := fun h => by rw [h] at hb2; revert hb2; decide
    unfold Lib.indexByte
    have h2 : ((45 : UInt8) == b2) = false := by simpa using fun h : 45 = b2 => this h.symm
    simp [h2, Lib.indexByte]
  go_enter Tryd.func65, Tryd.ntmps65
  go_wp2_with (first | (go_at_call 78; refine (Tryd.utf8_ValidRune _ _).mono ?_; rintro e w' ⟨rfl, rfl⟩))
  go_step3
  go_wp2
  refine wp_loop_rounds 1 ?_; rw [rounds_succ]
  go_wp2
  go_step3
  go_wp2
  refine Rx.wp_region_sched (fun _ => True) [(0, .r), (1, .r), (2, .r), (3, .r), (4, .r), (5, .r), (6, .r)] (by kernel_rfl) (by kernel_rfl) trivial (fun _ _ x _ _ h => (by cases x <;> exact h)) ?_
  iterate 7 (refine Rx.wpSched_q rfl rfl ?_; go_wp2; refine ⟨rfl, ?_⟩)
  refine Rx.wpSched_nil ?_
  go_wp2
  refine Rx.wp_region_sched (fun _ => True) [(0, .r), (1, .r), (2, .r), (3, .r), (4, .r), (5, .r), (6, .r), (7, .e), (8, .r)] (by kernel_rfl) (by kernel_rfl) trivial (fun _ _ x _ _ h => (by cases x <;> exact h)) ?_
  iterate 7 (refine Rx.wpSched_q rfl rfl ?_; go_wp2; refine ⟨rfl, ?_⟩)
  refine Rx.wpSched_e rfl ?_
  go_wp2_with (first | (go_at_call 77; refine (Tryd.strings_IndexByte _ _ _).mono ?_; rintro e w' ⟨rfl, rfl⟩))
  refine ⟨trivial, ?_⟩
  (refine Rx.wpSched_q rfl rfl ?_; go_wp2; refine ⟨rfl, ?_⟩)
  refine Rx.wpSched_nil ?_
  go_wp2_with fail
  simp only [Exit.inBlock, Exit.then, Exit.noGoto_ret]
  go_ret
  exact ⟨rfl, 2, rfl⟩

theorem dots_index (r : Int) (h0 : 0 ≤ r) (h1 : r < 128) : decide (0 ≤ Lib.indexByte [46, 95, 45] r.toNat.toUInt8) = (r == 46 || r == 95 || r == 45) := by
  have h : ∀ n : Fin 128, decide (0 ≤ Lib.indexByte [46, 95, 45] n.val.toUInt8) = (n.val == 46 || n.val == 95 || n.val == 45) := by decide
  have h := h ⟨r.toNat, by omega⟩
  simp only at h
  rw [h, Bool.eq_iff_iff]
  simp; omega

set_option maxHeartbeats 400000 in
theorem containsRune_any (r : Int) (w : World) (h0 : 0 ≤ r) (h1 : r ≤ 255) :
    Calls Tryd.prog 61 #[.string ⟨#[46, 95, 45]⟩, .int .i32 r] w fun e w' => e = .returned (.bool (r == 46 || r == 95 || r == 45)) ∧ ∃ n, w' = w.drewN n := by
  by_cases h : r < 128
  · refine (Tryd.strings_ContainsRune_ascii _ r w h0 h).mono ?_
    rintro e w' ⟨rfl, rfl⟩
    exact ⟨by rw [← dots_index r h0 h], 0, rfl⟩
  · have e : (r == 46 || r == 95 || r == 45) = false := by simp; omega
    have H := Lib.hid e; clear e
    go_enter Tryd.func61, Tryd.ntmps61
    go_wp2_with (first | (go_at_call 65; refine (indexRune_high r _ (by omega) h1).mono ?_; rintro e w' ⟨rfl, n, rfl⟩))
    go_ret
    exact ⟨by rw [H.out]; rfl, _, rfl⟩

theorem containsRune_yes (r : Int) (w : World) (h : r = 46 ∨ r = 95 ∨ r = 45) :
    Calls Tryd.prog 61 #[.string ⟨#[46, 95, 45]⟩, .int .i32 r] w fun e w' => e = .returned (.bool true) ∧ ∃ n, w' = w.drewN n := by
  have e : (r == 46 || r == 95 || r == 45) = true := by simp; omega
  have := containsRune_any r w (by omega) (by omega)
  rwa [e] at this
theorem containsRune_no (r : Int) (w : World) (h0 : 0 ≤ r) (h1 : r ≤ 255) (h : ¬ (r = 46 ∨ r = 95 ∨ r = 45)) :
    Calls Tryd.prog 61 #[.string ⟨#[46, 95, 45]⟩, .int .i32 r] w fun e w' => e = .returned (.bool false) ∧ ∃ n, w' = w.drewN n := by
  have e : (r == 46 || r == 95 || r == 45) = false := by simp; omega
  have := containsRune_any r w (by omega) (by omega)
  rwa [e] at this

def nb (c : Int) : Bool := (97 ≤ c && c ≤ 122) || (48 ≤ c && c ≤ 57) || c == 46 || c == 95 || c == 45

theorem nb_of (b : UInt8) : nb (b.toNat : Int) = isNameByte b := by
  unfold nb isNameByte
  rw [Bool.eq_iff_iff]
  simp [UInt8.le_iff_toNat_le, ← UInt8.toNat_inj]
  omega

theorem named_no (s : ByteArray) (w : World) (hs : s.size ≤ maxLen) (h : s.size < 1 ∨ 32 < s.size) :
    Calls Tryd.prog 53 #[.string s] w fun e w' => e = .returned (.bool false) ∧ w = w' := by
  unfold maxLen at hs
  rcases h with h | h
  · go_enter Tryd.func53, Tryd.ntmps53
    go_wp2
    go_ret
    exact ⟨rfl, rfl⟩
  · have h' : ¬ (s.size : Int) < 1 := by omega
    go_enter Tryd.func53, Tryd.ntmps53
    go_wp2
    go_ret
    exact ⟨rfl, rfl⟩

set_option maxHeartbeats 1000000 in
theorem named_mid (s : ByteArray) (w : World) (hs1 : 1 ≤ s.size) (hs2 : s.size ≤ 32) :
    Calls Tryd.prog 53 #[.string s] w fun e w' => e = .returned (.bool (s.data.toList.all isNameByte)) ∧ ∃ n, w' = w.drewN n := by
  go_enter Tryd.func53, Tryd.ntmps53
  go_wp2
  go_loopw [15] (fun i wr => ∃ k : Nat, k ≤ s.size ∧ i = .int .i64 k ∧ (s.data.toList.take k).all isNameByte = true ∧ ∃ n, wr = w.drewN n) (fun i _ => s.size - (intOf i).toNat)
  case atStart => exact ⟨0, Nat.zero_le _, rfl, rfl, 0, rfl⟩
  case round =>
    obtain ⟨k, hk, rfl, hall, n, rfl⟩ := hrel
    by_cases hlt : k < s.size
    · have hb := nb_of s[k]
      have hc0 : 0 ≤ (s[k].toNat : Int) := by omega
      have hc1 : (s[k].toNat : Int) ≤ 255 := by have := s[k].toNat_lt; omega
      have hA := Lib.hid hall
      clear hall
      have hstep : isNameByte s[k] = true → (s.data.toList.take (k + 1)).all isNameByte = true := fun h => by
        have e : s.data.toList.take (k + 1) = s.data.toList.take k ++ [s[k]] := by
          rw [List.take_succ_eq_append_getElem (by simpa using hlt)]; rfl
        rw [e, List.all_append, hA.out]; simpa using h
      have hS := Lib.hid hstep
      clear hstep
      by_cases h1 : 97 ≤ (s[k].toNat : Int) ∧ (s[k].toNat : Int) ≤ 122
      · have hy : isNameByte s[k] = true := by rw [← hb]; unfold nb; simp; omega
        have hY := hS.out hy
        have hY' := Lib.hid hY
        clear hY hy hb
        obtain ⟨h1a, h1b⟩ := h1
        go_wp2
        go_roundw
        case rel => exact ⟨k + 1, by omega, by go_num, hY'.out, n, rfl⟩
        case measure => simp [RowKit.intOf]; omega
      by_cases h2 : 48 ≤ (s[k].toNat : Int) ∧ (s[k].toNat : Int) ≤ 57
      · have hy : isNameByte s[k] = true := by rw [← hb]; unfold nb; simp; omega
        have hY := hS.out hy
        have hY' := Lib.hid hY
        clear hY hy hb h1
        obtain ⟨h2a, h2b⟩ := h2
        go_wp2
        go_roundw
        case rel => exact ⟨k + 1, by omega, by go_num, hY'.out, n, rfl⟩
        case measure => simp [RowKit.intOf]; omega
      by_cases h3 : (s[k].toNat : Int) = 46 ∨ (s[k].toNat : Int) = 95 ∨ (s[k].toNat : Int) = 45
      · have hy : isNameByte s[k] = true := by rw [← hb]; unfold nb; simp; omega
        have hY := hS.out hy
        have hY' := Lib.hid hY
        have h3a : (s[k].toNat : Int) < 97 := by omega
        have h3b : (s[k].toNat : Int) < 48 ∨ 57 < (s[k].toNat : Int) := by omega
        have h3' := Lib.hid h3
        clear hY hy hb h1 h2 h3
        go_wp2_with (first | (go_at_call 61; refine (containsRune_yes _ _ h3'.out).mono ?_; rintro e w' ⟨rfl, n', rfl⟩))
        all_goals
          go_roundw
          case rel => exact ⟨k + 1, by omega, by go_num, hY'.out, _, rfl⟩
          case measure => simp [RowKit.intOf]; omega
      · have hy : isNameByte s[k] = false := by
          rw [← hb]; unfold nb
          have := h1; have := h2; have := h3
          rw [Bool.eq_false_iff]; intro h
          simp at h; omega
        have hN : s.data.toList.all isNameByte = false := by
          rw [Bool.eq_false_iff]; intro h
          rw [List.all_eq_true] at h
          have := h s[k] (by rw [Array.mem_toList_iff]; exact Array.getElem_mem _)
          rw [hy] at this; cases this
        have hN' := Lib.hid hN
        have h1' : (s[k].toNat : Int) < 97 ∨ 122 < (s[k].toNat : Int) := by omega
        have h2' : (s[k].toNat : Int) < 48 ∨ 57 < (s[k].toNat : Int) := by omega
        have h3' := Lib.hid h3
        clear hy hb h1 h2 h3 hN
        go_wp2_with (first | (go_at_call 61; refine (containsRune_no _ _ (by omega) (by omega) h3'.out).mono ?_; rintro e w' ⟨rfl, n', rfl⟩))
        all_goals
          go_ret
          exact ⟨by rw [hN'.out]; rfl, _, rfl⟩
    · have hk' : k = s.size := by omega
      have hN : s.data.toList.all isNameByte = true := by rw [hk', List.take_of_length_le (by simp)] at hall; exact hall
      have hN' := Lib.hid hN
      clear hall hN hk'
      go_wp2
      go_ret
      exact ⟨by rw [hN'.out]; rfl, _, rfl⟩

theorem named_any (s : ByteArray) (w : World) (hs : s.size ≤ maxLen) :
    Calls Tryd.prog 53 #[.string s] w fun e w' => e = .returned (.bool (okName s)) ∧ ∃ n, w' = w.drewN n := by
  by_cases h : s.size < 1 ∨ 32 < s.size
  · have e : okName s = false := by unfold okName; simp; omega
    rw [e]
    exact (named_no s w hs h).mono fun e w' ⟨h1, h2⟩ => ⟨h1, 0, h2.symm⟩
  · have e : okName s = s.data.toList.all isNameByte := by
      unfold okName
      rw [decide_eq_true (by omega), decide_eq_true (by omega)]; rfl
    rw [e]
    exact named_mid s w (by omega) (by omega)
end Go.Proofs
namespace Go.Proofs
open Go.RowKit Go.Hp Go.Dm Go.Dr
set_option linter.unusedVariables false

section
variable {w : World} {d m : Nat} {D : Dk} {L : List Raw} {clock : Nat} {r : Raw}

set_option maxHeartbeats 400000 in
theorem find_down (nm : ByteArray) (h : DRaw w d m D L clock) (hd : D.down = true) :
    Calls Tryd.prog 42 #[.pointer (some ⟨d, 0, none⟩), .string nm] w fun e w' => e = .returned (.tuple #[.pointer none, .int .i64 110]) ∧ w = w' := by
  obtain ⟨c0, c1, c2, c3, c4, c5, fz⟩ := h.cells
  rw [hd] at c3
  clear hd c0 c1 c2 c4 c5 fz h
  go_enter Tryd.func42, Tryd.ntmps42
  go_wp2
  go_ret2
  exact ⟨rfl, rfl⟩

set_option maxHeartbeats 400000 in
theorem find_name (nm : ByteArray) (hs : nm.size ≤ maxLen) (h : DRaw w d m D L clock) (hd : D.down = false) (hn : okName nm = false) :
    Calls Tryd.prog 42 #[.pointer (some ⟨d, 0, none⟩), .string nm] w fun e w' => e = .returned (.tuple #[.pointer none, .int .i64 113]) ∧ ∃ n, w' = w.drewN n := by
  obtain ⟨c0, c1, c2, c3, c4, c5, fz⟩ := h.cells
  rw [hd] at c3
  have hc := named_any nm w hs
  rw [hn] at hc
  have HC := Lib.hid hc
  clear hd c0 c1 c2 c4 c5 fz h hc hn hs
  go_enter Tryd.func42, Tryd.ntmps42
  go_wp2_with (first | (go_at_call 53; refine HC.out.mono ?_; rintro e w' ⟨rfl, n, rfl⟩))
  go_ret2
  exact ⟨rfl, _, rfl⟩

set_option maxHeartbeats 400000 in
theorem find_file (nm : ByteArray) (v : Value) (hs : nm.size ≤ maxLen) (h : DRaw w d m D L clock) (hd : D.down = false) (hn : okName nm = true)
    (hv : (match (L.map Raw.en).find? (·.key == nm) with | some e => e.val | none => Value.pointer none) = v) (b : Bool) (p : Option Addr) (hp : v = .pointer p) (hb : p.isNone = b) :
    Calls Tryd.prog 42 #[.pointer (some ⟨d, 0, none⟩), .string nm] w fun e w' => e = .returned (.tuple #[v, .int .i64 (if b then 112 else 0)]) ∧ ∃ n, w' = w.drewN n := by
  obtain ⟨c0, c1, c2, c3, c4, c5, fz⟩ := h.cells
  rw [hd] at c3
  have hc := named_any nm w hs
  rw [hn] at hc
  have HC := Lib.hid hc
  have hl : ∀ n, (Instr.lookup 54 (.map (some m)) (.string nm) false).run Tryd.prog (w.drewN n) = .ok v (w.drewN n) := fun n => by
    have := run_lookup_str (P := Tryd.prog) (w.drewN n) Tryd.underlying54 Tryd.underlying9 (m := m) (clock := clock) (L := L.map Raw.en) h.map (z := .pointer none) (by kernel_rfl) nm
    exact this.trans (congrArg (fun x => Result.ok x (w.drewN n)) hv)
  subst hp
  clear hd c0 c1 c4 c5 fz h hc hn hs hv
  cases p with
  | none =>
    obtain rfl : true = b := by simpa using hb
    clear hb
    go_enter Tryd.func42, Tryd.ntmps42
    go_wp2_with (first | (go_at_call 53; refine HC.out.mono ?_; rintro e w' ⟨rfl, n, rfl⟩))
    go_ret2
    exact ⟨rfl, _, rfl⟩
  | some a =>
    obtain rfl : false = b := by simpa using hb
    clear hb
    go_enter Tryd.func42, Tryd.ntmps42
    go_wp2_with (first | (go_at_call 53; refine HC.out.mono ?_; rintro e w' ⟨rfl, n, rfl⟩))
    go_ret2
    exact ⟨rfl, _, rfl⟩

theorem find_no (nm : ByteArray) (hs : nm.size ≤ maxLen) (h : DRaw w d m D L clock) (hl : D.look nm ≠ 0) :
    Calls Tryd.prog 42 #[.pointer (some ⟨d, 0, none⟩), .string nm] w fun e w' => e = .returned (.tuple #[.pointer none, .int .i64 (D.look nm : Int)]) ∧ ∃ n, w' = w.drewN n := by
  unfold Dk.look at hl ⊢
  cases hd : D.down with
  | true =>
    simp only [if_true]
    exact (find_down nm h hd).mono fun e w' ⟨h1, h2⟩ => ⟨h1, 0, h2.symm⟩
  | false =>
    rw [hd] at hl
    simp only [Bool.false_eq_true, if_false] at hl ⊢
    cases hn : okName nm with
    | false =>
      simp only [Bool.false_eq_true, if_false]
      exact find_name nm hs h hd hn
    | true =>
      rw [hn] at hl
      simp only [if_true] at hl ⊢
      cases hg : get D.files nm with
      | some f => rw [hg] at hl; exact absurd rfl hl
      | none =>
        have := find_file nm (.pointer none) hs h hd hn (by rw [find_en_none (h.get_none hg)]) true none rfl rfl
        exact this

theorem look_zero {nm : ByteArray} (hl : D.look nm = 0) : D.down = false ∧ okName nm = true ∧ ∃ f, get D.files nm = some f := by
  unfold Dk.look at hl
  cases hd : D.down with
  | true => rw [hd] at hl; simp at hl
  | false =>
    rw [hd] at hl
    cases hn : okName nm with
    | false => rw [hn] at hl; simp at hl
    | true =>
      rw [hn] at hl
      cases hg : get D.files nm with
      | none => rw [hg] at hl; simp at hl
      | some f => exact ⟨rfl, rfl, f, rfl⟩

theorem find_yes (hs : r.name.size ≤ maxLen) (h : DRaw w d m D L clock) (hl : D.look r.name = 0) (hr : r ∈ L) :
    Calls Tryd.prog 42 #[.pointer (some ⟨d, 0, none⟩), .string r.name] w fun e w' => e = .returned (.tuple #[.pointer (some ⟨r.f, 0, none⟩), .int .i64 0]) ∧ ∃ n, w' = w.drewN n := by
  obtain ⟨hd, hn, _⟩ := look_zero hl
  exact find_file r.name (.pointer (some ⟨r.f, 0, none⟩)) hs h hd hn (by rw [find_en h.names hr]; rfl) false _ rfl rfl

/-- 'crashes' -/
theorem crashes_any (h : DRaw w d m D L clock) :
    Calls Tryd.prog 43 #[.pointer (some ⟨d, 0, none⟩)] w fun e w' => e = .returned (.bool D.fires) ∧ DRaw w' d m D.tick L clock ∧ Chg (· = d) w w' := by
  obtain ⟨c0, c1, c2, c3, c4, c5, fz⟩ := h.cells
  by_cases hz : D.steps = 0
  · have e1 : D.fires = false := by unfold Dk.fires; rw [hz]; rfl
    have e2 : D.tick = D := by unfold Dk.tick; rw [hz]; cases D; simp_all
    rw [e1, e2]
    rw [hz] at c4
    clear c0 c1 c2 c3 c5 fz e1 e2 hz
    have H := Lib.hid h
    clear h
    go_enter Tryd.func43, Tryd.ntmps43
    go_wp2
    go_ret
    exact ⟨rfl, H.out, Chg.refl _ _⟩
  · have f4 := fz 4
    have hs := h.ok.steps
    have hz' : ((D.steps : Int) == 0) = false := by simpa using hz
    have hge : (1 : Int) ≤ D.steps := by omega
    have hle : (D.steps : Int) ≤ 9223372036854775807 := by omega
    have hfin : ((D.steps : Int) - 1 == 0) = D.fires := by
      unfold Dk.fires
      rw [Bool.eq_iff_iff]; simp; omega
    have hend : DRaw (w.setCell ⟨d, 4, none⟩ (.int .i64 ((D.steps : Int) - 1))) d m D.tick L clock ∧ Chg (· = d) w (w.setCell ⟨d, 4, none⟩ (.int .i64 ((D.steps : Int) - 1))) := by
      have hc : Chg (· = d) w (w.setCell ⟨d, 4, none⟩ (.int .i64 ((D.steps : Int) - 1))) := (Chg.refl (· = d) w).setCell (p := ⟨d, 4, none⟩) (.inl rfl) _
      refine ⟨h.setHead D.tick hc ?_ rfl ?_, hc⟩
      · rw [hset_same h.head]
        congr 2
        simp only [headCells, Dk.tick, Dk.used]
        rw [show ((D.steps - 1 : Nat) : Int) = (D.steps : Int) - 1 from by omega]
        rfl
      · exact { h.ok with steps := by show D.steps - 1 ≤ _; omega, armed := fun hne => h.ok.armed hz }
    have HF := Lib.hid hfin
    have HE := Lib.hid hend
    clear c0 c1 c2 c3 c5 fz h hs hz hfin hend
    go_enter Tryd.func43, Tryd.ntmps43
    go_wp2
    go_ret
    exact ⟨by rw [← HF.out]; rfl, HE.out.1, HE.out.2⟩
end
end Go.Proofs
