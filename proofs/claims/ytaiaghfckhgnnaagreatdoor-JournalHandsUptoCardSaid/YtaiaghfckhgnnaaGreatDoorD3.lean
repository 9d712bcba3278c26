/- Package disk's calls on the head alone: Down, Used, Up, Arm, Crash; and New. Conditions: the disk lies as DRaw (DRep) says; numbers are of their kind. -/
import Derived.Test.YtaiaghfckhgnnaaGreatDoorD2
namespace Go.Proofs
open Go.RowKit Go.Hp Go.Dm Go.Dr
set_option linter.unusedVariables false
set_option maxRecDepth 10000

section
variable {w : World} {d m : Nat} {D : Dk} {L : List Raw} {clock : Nat} {r : Raw} {F : List Nat}

theorem down_any (h : DRep w d D F) : Calls Tryz.prog 45 #[.pointer (some ⟨d, 0, none⟩)] w fun e w' => e = .returned (.bool D.down) ∧ w = w' := by
  obtain ⟨m, L, clock, h, rfl⟩ := h
  obtain ⟨c0, c1, c2, c3, c4, c5, fz⟩ := h.cells
  clear c0 c1 c2 c4 c5 fz h
  go_enter Tryz.func45, Tryz.ntmps45
  go_wp2
  go_ret
  exact ⟨rfl, rfl⟩

theorem used_any (h : DRep w d D F) : Calls Tryz.prog 104 #[.pointer (some ⟨d, 0, none⟩)] w fun e w' => e = .returned (.int .i64 (D.used : Int)) ∧ w = w' := by
  obtain ⟨m, L, clock, h, rfl⟩ := h
  obtain ⟨c0, c1, c2, c3, c4, c5, fz⟩ := h.cells
  clear c0 c3 c2 c4 c5 fz h
  go_enter Tryz.func104, Tryz.ntmps104
  go_wp2
  go_ret
  exact ⟨rfl, rfl⟩

/-- the head turned, nothing else -/
theorem DRaw.ev_head {w' : World} {D' : Dk} (h : DRaw w d m D L clock) (hw : Chg (· = d) w w') (hh : w'.heap[d]? = some (.cells (headCells m D') 114 (0, 0))) (hf : D'.files = D.files) (ok : D'.Ok) :
    DRep w' d D' (d :: m :: blks L) ∧ Ev (d :: m :: blks L) (d :: m :: blks L) w w' :=
  ⟨⟨m, L, clock, h.setHead D' hw hh hf ok, rfl⟩, ⟨hw.mono fun k hk => .inl (by subst hk; simp), fun k hk => .inl hk⟩⟩

theorem up_any (h : DRep w d D F) : Calls Tryz.prog 46 #[.pointer (some ⟨d, 0, none⟩)] w fun e w' => e = .returned (.int .i64 0) ∧ DRep w' d D.up F ∧ Ev F F w w' := by
  obtain ⟨m, L, clock, h, rfl⟩ := h
  obtain ⟨c0, c1, c2, c3, c4, c5, fz⟩ := h.cells
  have H := Lib.hid h
  clear c0 c1 c2 c5 h
  go_enter Tryz.func46, Tryz.ntmps46
  go_wp2
  go_ret
  refine ⟨rfl, DRaw.ev_head H.out (((Chg.refl (· = d) w).setCell (p := ⟨d, 3, none⟩) (.inl rfl) _).setCell (p := ⟨d, 4, none⟩) (.inl rfl) _) ?_ rfl ?_⟩
  · simp only [hset, if_true]; rw [H.out.head]; simp [objSet, headCells, Dk.up, Dk.used]
  · exact { H.out.ok with steps := Nat.zero_le _, armed := fun h => absurd rfl h }

theorem arm_down (s k : Int) (h : DRep w d D F) (hd : D.down = true) :
    Calls Tryz.prog 29 #[.pointer (some ⟨d, 0, none⟩), .int .i64 s, .int .i64 k] w fun e w' => e = .returned (.int .i64 110) ∧ w = w' := by
  obtain ⟨m, L, clock, h, rfl⟩ := h
  obtain ⟨c0, c1, c2, c3, c4, c5, fz⟩ := h.cells
  rw [hd] at c3
  clear c0 c1 c2 c4 c5 fz h hd
  go_enter Tryz.func29, Tryz.ntmps29
  go_wp2
  go_ret
  exact ⟨rfl, rfl⟩

theorem arm_place (s k : Int) (h : DRep w d D F) (hd : D.down = false) (hb : s < 0 ∨ (0 < s ∧ k < 0)) :
    Calls Tryz.prog 29 #[.pointer (some ⟨d, 0, none⟩), .int .i64 s, .int .i64 k] w fun e w' => e = .returned (.int .i64 12) ∧ w = w' := by
  obtain ⟨m, L, clock, h, rfl⟩ := h
  obtain ⟨c0, c1, c2, c3, c4, c5, fz⟩ := h.cells
  rw [hd] at c3
  clear c0 c1 c2 c4 c5 fz h hd
  rcases hb with hb | ⟨hb1, hb2⟩
  · go_enter Tryz.func29, Tryz.ntmps29
    go_wp2
    go_ret
    exact ⟨rfl, rfl⟩
  · have hb3 : ¬ s < 0 := by omega
    go_enter Tryz.func29, Tryz.ntmps29
    go_wp2
    go_ret
    exact ⟨rfl, rfl⟩

theorem arm_ok (s k : Int) (hs : s ≤ 9223372036854775807) (hk1 : -9223372036854775808 ≤ k) (hk2 : k ≤ 9223372036854775807) (h : DRep w d D F) (hd : D.down = false) (hb : ¬ (s < 0 ∨ (0 < s ∧ k < 0))) :
    Calls Tryz.prog 29 #[.pointer (some ⟨d, 0, none⟩), .int .i64 s, .int .i64 k] w fun e w' => e = .returned (.int .i64 0) ∧ DRep w' d { D with steps := s.toNat, keep := k } F ∧ Ev F F w w' := by
  obtain ⟨m, L, clock, h, rfl⟩ := h
  obtain ⟨c0, c1, c2, c3, c4, c5, fz⟩ := h.cells
  rw [hd] at c3
  have hs0 : 0 ≤ s := by omega
  have hend : DRep ((w.setCell ⟨d, 4, none⟩ (.int .i64 s)).setCell ⟨d, 5, none⟩ (.int .i64 k)) d { D with steps := s.toNat, keep := k } (d :: m :: blks L) ∧
      Ev (d :: m :: blks L) (d :: m :: blks L) w ((w.setCell ⟨d, 4, none⟩ (.int .i64 s)).setCell ⟨d, 5, none⟩ (.int .i64 k)) := by
    refine DRaw.ev_head h (((Chg.refl (· = d) w).setCell (p := ⟨d, 4, none⟩) (.inl rfl) _).setCell (p := ⟨d, 5, none⟩) (.inl rfl) _) ?_ rfl ?_
    · simp only [hset, if_true]; rw [h.head]
      simp [objSet, headCells, Dk.used]; omega
    · exact { h.ok with steps := by show s.toNat ≤ _; omega, keepLo := hk1, keepHi := hk2, armed := fun hne => by show 0 ≤ k; have : s.toNat ≠ 0 := hne; omega }
  have HE := Lib.hid hend
  have HB := Lib.hid hb
  clear c0 c1 c2 h hd hend hb
  by_cases hsp : 0 < s
  · have hk0 : 0 ≤ k := by have := HB.out; omega
    go_enter Tryz.func29, Tryz.ntmps29
    go_wp2
    go_ret
    exact ⟨rfl, HE.out⟩
  · go_enter Tryz.func29, Tryz.ntmps29
    go_wp2
    go_ret
    exact ⟨rfl, HE.out⟩

theorem arm_any (s k : Int) (hs : s ≤ 9223372036854775807) (hk1 : -9223372036854775808 ≤ k) (hk2 : k ≤ 9223372036854775807) (h : DRep w d D F) :
    Calls Tryz.prog 29 #[.pointer (some ⟨d, 0, none⟩), .int .i64 s, .int .i64 k] w fun e w' => e = .returned (.int .i64 ((D.arm s k).1 : Int)) ∧ DRep w' d (D.arm s k).2 F ∧ Ev F F w w' := by
  unfold Dk.arm
  by_cases hd : D.down = true
  · rw [if_pos hd]
    exact (arm_down s k h hd).mono fun e w' ⟨h1, h2⟩ => by subst h2; exact ⟨h1, h, Ev.refl _ _⟩
  · rw [if_neg hd]
    have hd' : D.down = false := by simpa using hd
    by_cases hb : s < 0 ∨ (0 < s ∧ k < 0)
    · rw [if_pos hb]
      exact (arm_place s k h hd' hb).mono fun e w' ⟨h1, h2⟩ => by subst h2; exact ⟨h1, h, Ev.refl _ _⟩
    · rw [if_neg hb]
      exact arm_ok s k hs hk1 hk2 h hd' hb

theorem crash_no (k : Int) (h : DRep w d D F) (hd : D.down = true) :
    Calls Tryz.prog 63 #[.pointer (some ⟨d, 0, none⟩), .int .i64 k] w fun e w' => e = .returned (.int .i64 110) ∧ w = w' := by
  obtain ⟨m, L, clock, h, rfl⟩ := h
  obtain ⟨c0, c1, c2, c3, c4, c5, fz⟩ := h.cells
  rw [hd] at c3
  clear c0 c1 c2 c4 c5 fz h hd
  go_enter Tryz.func63, Tryz.ntmps63
  go_wp2
  go_ret
  exact ⟨rfl, rfl⟩
theorem crash_neg (k : Int) (h : DRep w d D F) (hd : D.down = false) (hk : k < 0) :
    Calls Tryz.prog 63 #[.pointer (some ⟨d, 0, none⟩), .int .i64 k] w fun e w' => e = .returned (.int .i64 12) ∧ w = w' := by
  obtain ⟨m, L, clock, h, rfl⟩ := h
  obtain ⟨c0, c1, c2, c3, c4, c5, fz⟩ := h.cells
  rw [hd] at c3
  clear c0 c1 c2 c4 c5 fz h hd
  go_enter Tryz.func63, Tryz.ntmps63
  go_wp2
  go_ret
  exact ⟨rfl, rfl⟩
theorem crash_ok (n : Nat) (hn : (n : Int) ≤ 9223372036854775807) (h : DRep w d D F) (hd : D.down = false) :
    Calls Tryz.prog 63 #[.pointer (some ⟨d, 0, none⟩), .int .i64 (n : Int)] w fun e w' => e = .returned (.int .i64 0) ∧ ∃ F', DRep w' d (D.lose n) F' ∧ Ev F F' w w' := by
  obtain ⟨m, L, clock, h, rfl⟩ := h
  obtain ⟨c0, c1, c2, c3, c4, c5, fz⟩ := h.cells
  rw [hd] at c3
  have H := Lib.hid h
  have hk0 : ¬ (n : Int) < 0 := by omega
  clear c0 c1 c2 c4 c5 fz h hd
  go_enter Tryz.func63, Tryz.ntmps63
  go_wp2_with (first | (go_at_call 82; refine (lose_any n hn H.out).mono ?_; rintro e w' ⟨rfl, hc, L', h1, h2⟩))
  go_ret
  exact ⟨rfl, d :: m :: blks L', ⟨m, L', clock, h1, rfl⟩, ⟨hc, fun k hk => .inl (h2 k hk)⟩⟩

theorem crash_any (k : Int) (hk2 : k ≤ 9223372036854775807) (h : DRep w d D F) :
    Calls Tryz.prog 63 #[.pointer (some ⟨d, 0, none⟩), .int .i64 k] w fun e w' => e = .returned (.int .i64 ((D.crash k).1 : Int)) ∧ ∃ F', DRep w' d (D.crash k).2 F' ∧ Ev F F' w w' := by
  unfold Dk.crash
  by_cases hd : D.down = true
  · rw [if_pos hd]
    exact (crash_no k h hd).mono fun e w' ⟨h1, h2⟩ => by subst h2; exact ⟨h1, F, h, Ev.refl _ _⟩
  · rw [if_neg hd]
    have hd' : D.down = false := by simpa using hd
    by_cases hk : k < 0
    · rw [if_pos hk]
      exact (crash_neg k h hd' hk).mono fun e w' ⟨h1, h2⟩ => by subst h2; exact ⟨h1, F, h, Ev.refl _ _⟩
    · rw [if_neg hk]
      obtain ⟨n, rfl⟩ := Int.eq_ofNat_of_zero_le (by omega : 0 ≤ k)
      exact crash_ok n hk2 h hd'

/-- New -/
theorem new_bad (l : Int) (h : l < 0 ∨ 1099511627776 < l) : Calls Tryz.prog 30 #[.int .i64 l] w fun e w' => e = .returned (.tuple #[.pointer none, .int .i64 12]) ∧ w = w' := by
  rcases h with h | h
  · go_enter Tryz.func30, Tryz.ntmps30
    go_wp2
    go_ret2
    exact ⟨rfl, rfl⟩
  · have h' : ¬ l < 0 := by omega
    go_enter Tryz.func30, Tryz.ntmps30
    go_wp2
    go_ret2
    exact ⟨rfl, rfl⟩

theorem new_rep (n : Nat) (h : n ≤ 1099511627776) :
    DRep ((w.alloc (.map #[] 0)).alloc (.cells #[.int .i64 (n : Int), .int .i64 0, .map (some w.heap.size), .bool false, .int .i64 0, .int .i64 0] 114)) (w.heap.size + 1) ⟨n, [], false, 0, 0⟩ [w.heap.size + 1, w.heap.size] ∧
    Ev [] [w.heap.size + 1, w.heap.size] w ((w.alloc (.map #[] 0)).alloc (.cells #[.int .i64 (n : Int), .int .i64 0, .map (some w.heap.size), .bool false, .int .i64 0, .int .i64 0] 114)) := by
  refine ⟨⟨w.heap.size, [], 0, { head := ?_, map := ?_, raws := fun r hr => (by cases hr), nodup := by simp [blks], perm := List.Perm.refl _, stamps := by simp, young := fun r hr => (by cases hr), ok := ?_ }, rfl⟩, ((Chg.refl _ w).alloc _).alloc _, fun k hk => .inr ?_⟩
  · rw [halloc, if_pos (by simp)]; rfl
  · rw [halloc, if_neg (by simp), halloc, if_pos rfl]; rfl
  · exact { sorted := List.Pairwise.nil, sure := fun f hf => (by cases hf), used := Nat.zero_le _, limit := h, steps := by show 0 ≤ _; omega, keepLo := by show _ ≤ (0 : Int); omega, keepHi := by show (0 : Int) ≤ _; omega, armed := fun h => absurd rfl h }
  · simp at hk; omega

theorem new_ok (n : Nat) (h : n ≤ 1099511627776) : Calls Tryz.prog 30 #[.int .i64 (n : Int)] w fun e w' =>
    e = .returned (.tuple #[.pointer (some ⟨w.heap.size + 1, 0, none⟩), .int .i64 0]) ∧ DRep w' (w.heap.size + 1) ⟨n, [], false, 0, 0⟩ [w.heap.size + 1, w.heap.size] ∧ Ev [] [w.heap.size + 1, w.heap.size] w w' := by
  have hmm := @run_makeMap Tryz.prog
  have h0 : ¬ (n : Int) < 0 := by omega
  have h1 : ¬ (1099511627776 : Int) < n := by omega
  have HN := Lib.hid h
  clear h
  go_enter Tryz.func30, Tryz.ntmps30
  go_wp2
  go_ret2
  exact ⟨rfl, new_rep n HN.out⟩
end
end Go.Proofs
