/- The document's disk: Arm, Used, copied, file, look, survives. Conditions: the disk lies as RRep says. -/
import Derived.Test.YthnemjnepnbjpaaR1
namespace Go.Proofs
open Go.RowKit Go.Hp Go.Dm Go.Dr
set_option linter.unusedVariables false
set_option maxRecDepth 10000
section
variable {w w' : World} {r : Nat} {D D' : Dk} {K K' L : Int} {v : Value} {l : List RF} {G : List Nat}

theorem rarm_down (s k : Int) (h : RRep w r D G) (hd : D.down = true) :
    Calls Try.prog 72 #[.pointer (some ⟨r, 0, none⟩), .int .i64 s, .int .i64 k] w fun e w' => e = .returned (.int .i64 110) ∧ w = w' := by
  obtain ⟨K, v, l, h, rfl⟩ := h
  obtain ⟨c0, c1, c2, c3, c4, fz⟩ := h.cells
  rw [hd] at c2
  clear c0 c1 c3 c4 fz h hd
  go_enter Try.func72, Try.ntmps72
  go_wp2
  go_ret
  exact ⟨rfl, rfl⟩
theorem rarm_place (s k : Int) (h : RRep w r D G) (hd : D.down = false) (hb : s < 0 ∨ (0 < s ∧ k < 0)) :
    Calls Try.prog 72 #[.pointer (some ⟨r, 0, none⟩), .int .i64 s, .int .i64 k] w fun e w' => e = .returned (.int .i64 12) ∧ w = w' := by
  obtain ⟨K, v, l, h, rfl⟩ := h
  obtain ⟨c0, c1, c2, c3, c4, fz⟩ := h.cells
  rw [hd] at c2
  have g0 : (s == 0) = false := beq_eq_false_iff_ne.2 (by omega)
  clear c0 c1 c3 c4 fz h hd
  rcases hb with hb | ⟨hb1, hb2⟩
  · skip
    go_enter Try.func72, Try.ntmps72
    go_wp2
    go_ret
    exact ⟨rfl, rfl⟩
  · have hb3 : ¬ s < 0 := by omega
    go_enter Try.func72, Try.ntmps72
    go_wp2
    go_ret
    exact ⟨rfl, rfl⟩
/-- Arm, as the document says it: what an unarmed disk would keep stays -/
def rArm (D : Dk) (s k : Int) : Nat × Dk :=
  if D.down then (110, D) else if s = 0 then (0, { D with steps := 0 }) else if s < 0 ∨ k < 0 then (12, D) else (0, { D with steps := s.toNat, keep := k })
set_option maxHeartbeats 400000 in
theorem rarm_zero (k : Int) (h : RRep w r D G) (hd : D.down = false) :
    Calls Try.prog 72 #[.pointer (some ⟨r, 0, none⟩), .int .i64 0, .int .i64 k] w fun e w' => e = .returned (.int .i64 0) ∧ RRep w' r { D with steps := 0 } G ∧ Ev G G w w' := by
  obtain ⟨K, v, l, h, rfl⟩ := h
  obtain ⟨c0, c1, c2, c3, c4, fz⟩ := h.cells
  rw [hd] at c2
  have hok : ({ D with steps := 0 } : Dk).Ok := { h.ok with steps := Nat.zero_le _, armed := fun hne => absurd rfl hne }
  have HE := Lib.hid (h.setHead (w' := w.setCell ⟨r, 3, none⟩ (.int .i64 0)) (D' := { D with steps := 0 }) (K' := K) ((Chg.refl (· = r) w).setCell (p := ⟨r, 3, none⟩) (.inl rfl) _) (by
      simp only [hset, if_true]; rw [h.head]; simp [objSet, rhead]) rfl hok h.keep)
  clear c0 c1 c4 h hd hok
  go_enter Try.func72, Try.ntmps72
  go_wp2
  go_ret
  exact ⟨rfl, HE.out⟩
set_option maxHeartbeats 400000 in
theorem rarm_ok (s k : Int) (hs : s ≤ 9223372036854775807) (hk2 : k ≤ 9223372036854775807) (h : RRep w r D G) (hd : D.down = false) (hs0 : s ≠ 0) (hb : ¬ (s < 0 ∨ k < 0)) :
    Calls Try.prog 72 #[.pointer (some ⟨r, 0, none⟩), .int .i64 s, .int .i64 k] w fun e w' => e = .returned (.int .i64 0) ∧ RRep w' r { D with steps := s.toNat, keep := k } G ∧ Ev G G w w' := by
  obtain ⟨K, v, l, h, rfl⟩ := h
  obtain ⟨c0, c1, c2, c3, c4, fz⟩ := h.cells
  rw [hd] at c2
  have hok : ({ D with steps := s.toNat, keep := k } : Dk).Ok := { h.ok with steps := by show s.toNat ≤ _; omega, keepLo := by show -9223372036854775808 ≤ k; omega, keepHi := hk2, armed := fun hne => by show 0 ≤ k; omega }
  have hs1 : ¬ s < 0 := by omega
  have hk0 : ¬ k < 0 := by omega
  have g0 : (s == 0) = false := beq_eq_false_iff_ne.2 hs0
  have HE := Lib.hid (h.setHead (w' := (w.setCell ⟨r, 3, none⟩ (.int .i64 s)).setCell ⟨r, 4, none⟩ (.int .i64 k)) (D' := { D with steps := s.toNat, keep := k }) (K' := k)
      (((Chg.refl (· = r) w).setCell (p := ⟨r, 3, none⟩) (.inl rfl) _).setCell (p := ⟨r, 4, none⟩) (.inl rfl) _) (by
      simp only [hset, if_true]; rw [h.head]; simp [objSet, rhead]; omega) rfl hok rfl)
  clear c0 c1 h hd hb hok hs0
  go_enter Try.func72, Try.ntmps72
  go_wp2
  go_ret
  exact ⟨rfl, HE.out⟩
theorem rarm_any (s k : Int) (hs : s ≤ 9223372036854775807) (hk2 : k ≤ 9223372036854775807) (h : RRep w r D G) :
    Calls Try.prog 72 #[.pointer (some ⟨r, 0, none⟩), .int .i64 s, .int .i64 k] w fun e w' => e = .returned (.int .i64 ((rArm D s k).1 : Int)) ∧ RRep w' r (rArm D s k).2 G ∧ Ev G G w w' := by
  unfold rArm
  by_cases hd : D.down = true
  · rw [if_pos hd]
    exact (rarm_down s k h hd).mono fun e w' ⟨h1, h2⟩ => by subst h2; exact ⟨h1, h, Ev.refl _ _⟩
  · rw [if_neg hd]
    have hd' : D.down = false := by simpa using hd
    by_cases hs0 : s = 0
    · rw [if_pos hs0]
      subst hs0
      exact rarm_zero k h hd'
    · rw [if_neg hs0]
      by_cases hb : s < 0 ∨ k < 0
      · rw [if_pos hb]
        exact (rarm_place s k h hd' (by omega)).mono fun e w' ⟨h1, h2⟩ => by subst h2; exact ⟨h1, h, Ev.refl _ _⟩
      · rw [if_neg hb]
        exact rarm_ok s k hs hk2 h hd' hs0 hb

theorem rcopied_any {v : Value} {l : List UInt8} (hl : l.length ≤ 140737488355328) (h : RB w v l) : Calls Try.prog 91 #[v] w (FreshB w l) := by
  have H := Lib.hid h
  have HL := Lib.hid hl
  clear h hl
  go_enter Try.func91, Try.ntmps91
  go_wp2_with (at_builtin; refine stop ?_)
  refine go ?_
  refine wpList_append_bytes rfl _ _ rfl (v := .slice none 0 0) rfl rfl (OB_nil w 5) H.out (by have := HL.out; simp; omega) ?_
  intro pv lv cv w' h1 h2 h3 h4
  have H1 := Lib.hid h1
  have H2 := Lib.hid h2
  have H3 := Lib.hid h3
  clear h1 h2 h3 h4
  go_wp2
  go_ret
  refine ⟨_, rfl, by simpa using H1.out, H2.out.mono fun k hk => (by simp at hk), fun b hb => (H3.out b hb).elim (fun h => by simp at h) id⟩

/-- the bytes in use -/
theorem rused_any (hN : D.files.length ≤ 1099511627776) (h : RRep w r D G) : Calls Try.prog 70 #[.pointer (some ⟨r, 0, none⟩)] w fun e w' => e = .returned (.int .i64 (D.used : Int)) ∧ w = w' := by
  obtain ⟨K, v, l, h, rfl⟩ := h
  obtain ⟨c0, c1, c2, c3, c4, fz⟩ := h.cells
  have hll : l.length = D.files.length := by have := congrArg List.length h.files; simpa using this
  have hlli : (l.length : Int) ≤ 1099511627776 := by omega
  have hul : D.used ≤ 1099511627776 := by have := h.ok.used; have := h.ok.limit; omega
  have huf : D.used = total (l.map RF.fl) := by rw [h.files]; rfl
  obtain ⟨p, c, rfl, hnc, -, -⟩ := id h.sl
  have hnci : (l.length : Int) ≤ c := by omega
  have H := Lib.hid h
  have HUL := Lib.hid hul
  have HUF := Lib.hid huf
  clear c0 c2 c3 c4 fz h hN hll hul huf hnc
  go_enter Try.func70, Try.ntmps70
  go_wp2
  go_loopw [3, 4] (fun t i wr => w = wr ∧ ∃ j : Nat, j ≤ l.length ∧ i = .int .i64 (j : Int) ∧ t = .int .i64 (total ((l.map RF.fl).take j) : Int)) (fun _ i _ => l.length - (Lib.intOf i).toNat)
  case atStart => exact ⟨rfl, 0, Nat.zero_le _, rfl, rfl⟩
  case round =>
    obtain ⟨hww, j, hj, rfl, rfl⟩ := hrel
    subst hww
    by_cases hjl : (j : Int) < l.length
    · obtain ⟨b, off, x, rfl, -, -, hx, z0, z1, z2, z3⟩ := RRaw.file H.out.sl (k := j) (by omega)
      have hts := total_take_succ (l := l.map RF.fl) (k := j) (x := x.fl) (by rw [List.getElem?_map, hx]; rfl)
      have htl := total_take_le (l.map RF.fl) (j + 1)
      rw [← HUF.out] at htl
      have hts : total ((l.map RF.fl).take (j + 1)) = total ((l.map RF.fl).take j) + x.bytes.length := hts
      obtain ⟨ap, ac, hxb, hxc, -⟩ := H.out.each x (List.mem_of_getElem? hx)
      have HTS := Lib.hid hts
      have hj0 : (0 : Int) ≤ (j : Int) := by omega
      have hb1 : (total ((l.map RF.fl).take j) : Int) + (x.bytes.length : Int) ≤ 1099511627776 := by have := HUL.out; omega
      generalize total ((l.map RF.fl).take j) = T at *
      rw [hxb] at z2
      clear hts htl hx z0 z1 z3 hxb hxc
      go_wp2
      go_roundw
      case rel => exact ⟨trivial, j + 1, by omega, by go_num, by rw [HTS.out]; go_num⟩
      case measure => simp [Lib.intOf]; omega
    · have hje : j = l.length := by omega
      have hte : total ((l.map RF.fl).take j) = D.used := by rw [hje, List.take_of_length_le (by simp), HUF.out]
      rw [hte]
      clear hte hje hj
      go_wp2
      go_ret
      exact ⟨rfl, rfl⟩
end
end Go.Proofs
