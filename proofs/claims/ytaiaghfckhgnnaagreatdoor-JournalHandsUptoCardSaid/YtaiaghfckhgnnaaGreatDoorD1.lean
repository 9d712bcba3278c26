/- Package disk's small methods and its look for a file, by the plain disk. Conditions: the disk lies as DRaw says. -/
import Derived.Test.YtaiaghfckhgnnaaGreatDoorNm
import Derived.Test.YtaiaghfckhgnnaaGreatDoorDr
namespace Go.Proofs
open Go.RowKit Go.Hp Go.Dm Go.Dr
set_option linter.unusedVariables false

section
variable {w : World} {d m : Nat} {D : Dk} {L : List Raw} {clock : Nat} {r : Raw}

set_option maxHeartbeats 400000 in
theorem find_down (nm : ByteArray) (h : DRaw w d m D L clock) (hd : D.down = true) :
    Calls Tryz.prog 77 #[.pointer (some ⟨d, 0, none⟩), .string nm] w fun e w' => e = .returned (.tuple #[.pointer none, .int .i64 110]) ∧ w = w' := by
  obtain ⟨c0, c1, c2, c3, c4, c5, fz⟩ := h.cells
  rw [hd] at c3
  clear hd c0 c1 c2 c4 c5 fz h
  go_enter Tryz.func77, Tryz.ntmps77
  go_wp2
  go_ret2
  exact ⟨rfl, rfl⟩

set_option maxHeartbeats 400000 in
theorem find_name (nm : ByteArray) (hs : nm.size ≤ maxLen) (h : DRaw w d m D L clock) (hd : D.down = false) (hn : okName nm = false) :
    Calls Tryz.prog 77 #[.pointer (some ⟨d, 0, none⟩), .string nm] w fun e w' => e = .returned (.tuple #[.pointer none, .int .i64 113]) ∧ ∃ n, w' = w.drewN n := by
  obtain ⟨c0, c1, c2, c3, c4, c5, fz⟩ := h.cells
  rw [hd] at c3
  have hc := named_any nm w hs
  rw [hn] at hc
  have HC := Lib.hid hc
  clear hd c0 c1 c2 c4 c5 fz h hc hn hs
  go_enter Tryz.func77, Tryz.ntmps77
  go_wp2_with (first | (go_at_call 80; refine HC.out.mono ?_; rintro e w' ⟨rfl, n, rfl⟩))
  go_ret2
  exact ⟨rfl, _, rfl⟩

set_option maxHeartbeats 400000 in
theorem find_file (nm : ByteArray) (v : Value) (hs : nm.size ≤ maxLen) (h : DRaw w d m D L clock) (hd : D.down = false) (hn : okName nm = true)
    (hv : (match (L.map Raw.en).find? (·.key == nm) with | some e => e.val | none => Value.pointer none) = v) (b : Bool) (p : Option Addr) (hp : v = .pointer p) (hb : p.isNone = b) :
    Calls Tryz.prog 77 #[.pointer (some ⟨d, 0, none⟩), .string nm] w fun e w' => e = .returned (.tuple #[v, .int .i64 (if b then 112 else 0)]) ∧ ∃ n, w' = w.drewN n := by
  obtain ⟨c0, c1, c2, c3, c4, c5, fz⟩ := h.cells
  rw [hd] at c3
  have hc := named_any nm w hs
  rw [hn] at hc
  have HC := Lib.hid hc
  have hl : ∀ n, (Instr.lookup 112 (.map (some m)) (.string nm) false).run Tryz.prog (w.drewN n) = .ok v (w.drewN n) := fun n => by
    have := run_lookup_str (P := Tryz.prog) (w.drewN n) Tryz.underlying112 Tryz.underlying9 (m := m) (clock := clock) (L := L.map Raw.en) h.map (z := .pointer none) (by kernel_rfl) nm
    exact this.trans (congrArg (fun x => Result.ok x (w.drewN n)) hv)
  subst hp
  clear hd c0 c1 c4 c5 fz h hc hn hs hv
  cases p with
  | none =>
    obtain rfl : true = b := by simpa using hb
    clear hb
    go_enter Tryz.func77, Tryz.ntmps77
    go_wp2_with (first | (go_at_call 80; refine HC.out.mono ?_; rintro e w' ⟨rfl, n, rfl⟩))
    go_ret2
    exact ⟨rfl, _, rfl⟩
  | some a =>
    obtain rfl : false = b := by simpa using hb
    clear hb
    go_enter Tryz.func77, Tryz.ntmps77
    go_wp2_with (first | (go_at_call 80; refine HC.out.mono ?_; rintro e w' ⟨rfl, n, rfl⟩))
    go_ret2
    exact ⟨rfl, _, rfl⟩

theorem find_no (nm : ByteArray) (hs : nm.size ≤ maxLen) (h : DRaw w d m D L clock) (hl : D.look nm ≠ 0) :
    Calls Tryz.prog 77 #[.pointer (some ⟨d, 0, none⟩), .string nm] w fun e w' => e = .returned (.tuple #[.pointer none, .int .i64 (D.look nm : Int)]) ∧ ∃ n, w' = w.drewN n := by
  unfold Dk.look at hl ⊢
  cases hd : D.down with
  | true =>
    simp only [if_true]
    exact (find_down nm h hd).mono fun e w' ⟨h1, h2⟩ => ⟨h1, 0, h2.symm⟩
  | false =>
    rw [hd] at hl
    simp only [Bool.false_eq_true, if_false] at hl ⊢
    cases hn : okName nm with
    | false =>
      simp only [Bool.false_eq_true, if_false]
      exact find_name nm hs h hd hn
    | true =>
      rw [hn] at hl
      simp only [if_true] at hl ⊢
      cases hg : get D.files nm with
      | some f => rw [hg] at hl; exact absurd rfl hl
      | none =>
        have := find_file nm (.pointer none) hs h hd hn (by rw [find_en_none (h.get_none hg)]) true none rfl rfl
        exact this

theorem look_zero {nm : ByteArray} (hl : D.look nm = 0) : D.down = false ∧ okName nm = true ∧ ∃ f, get D.files nm = some f := by
  unfold Dk.look at hl
  cases hd : D.down with
  | true => rw [hd] at hl; simp at hl
  | false =>
    rw [hd] at hl
    cases hn : okName nm with
    | false => rw [hn] at hl; simp at hl
    | true =>
      rw [hn] at hl
      cases hg : get D.files nm with
      | none => rw [hg] at hl; simp at hl
      | some f => exact ⟨rfl, rfl, f, rfl⟩

theorem find_yes (hs : r.name.size ≤ maxLen) (h : DRaw w d m D L clock) (hl : D.look r.name = 0) (hr : r ∈ L) :
    Calls Tryz.prog 77 #[.pointer (some ⟨d, 0, none⟩), .string r.name] w fun e w' => e = .returned (.tuple #[.pointer (some ⟨r.f, 0, none⟩), .int .i64 0]) ∧ ∃ n, w' = w.drewN n := by
  obtain ⟨hd, hn, _⟩ := look_zero hl
  exact find_file r.name (.pointer (some ⟨r.f, 0, none⟩)) hs h hd hn (by rw [find_en h.names hr]; rfl) false _ rfl rfl

/-- 'crashes' -/
theorem crashes_any (h : DRaw w d m D L clock) :
    Calls Tryz.prog 81 #[.pointer (some ⟨d, 0, none⟩)] w fun e w' => e = .returned (.bool D.fires) ∧ DRaw w' d m D.tick L clock ∧ Chg (· = d) w w' := by
  obtain ⟨c0, c1, c2, c3, c4, c5, fz⟩ := h.cells
  by_cases hz : D.steps = 0
  · have e1 : D.fires = false := by unfold Dk.fires; rw [hz]; rfl
    have e2 : D.tick = D := by unfold Dk.tick; rw [hz]; cases D; simp_all
    rw [e1, e2]
    rw [hz] at c4
    clear c0 c1 c2 c3 c5 fz e1 e2 hz
    have H := Lib.hid h
    clear h
    go_enter Tryz.func81, Tryz.ntmps81
    go_wp2
    go_ret
    exact ⟨rfl, H.out, Chg.refl _ _⟩
  · have f4 := fz 4
    have hs := h.ok.steps
    have hz' : ((D.steps : Int) == 0) = false := by simpa using hz
    have hge : (1 : Int) ≤ D.steps := by omega
    have hle : (D.steps : Int) ≤ 9223372036854775807 := by omega
    have hfin : ((D.steps : Int) - 1 == 0) = D.fires := by
      unfold Dk.fires
      rw [Bool.eq_iff_iff]; simp; omega
    have hend : DRaw (w.setCell ⟨d, 4, none⟩ (.int .i64 ((D.steps : Int) - 1))) d m D.tick L clock ∧ Chg (· = d) w (w.setCell ⟨d, 4, none⟩ (.int .i64 ((D.steps : Int) - 1))) := by
      have hc : Chg (· = d) w (w.setCell ⟨d, 4, none⟩ (.int .i64 ((D.steps : Int) - 1))) := (Chg.refl (· = d) w).setCell (p := ⟨d, 4, none⟩) (.inl rfl) _
      refine ⟨h.setHead D.tick hc ?_ rfl ?_, hc⟩
      · rw [hset_same h.head]
        congr 2
        simp only [headCells, Dk.tick, Dk.used]
        rw [show ((D.steps - 1 : Nat) : Int) = (D.steps : Int) - 1 from by omega]
        rfl
      · exact { h.ok with steps := by show D.steps - 1 ≤ _; omega, armed := fun hne => h.ok.armed hz }
    have HF := Lib.hid hfin
    have HE := Lib.hid hend
    clear c0 c1 c2 c3 c5 fz h hs hz hfin hend
    go_enter Tryz.func81, Tryz.ntmps81
    go_wp2
    go_ret
    exact ⟨by rw [← HF.out]; rfl, HE.out.1, HE.out.2⟩
end
end Go.Proofs
