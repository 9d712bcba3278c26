/- What each call of package disk answers and leaves, in one contract for each. Conditions: the disk lies as DRep says; the bytes handed in are read and lie apart from the disk. -/
import Derived.Test.YtaiaghfckhgnnaaGreatDoorD7
namespace Go.Proofs
open Go.RowKit Go.Hp Go.Dm Go.Dr
set_option linter.unusedVariables false
set_option maxRecDepth 10000

section
variable {w : World} {d m : Nat} {D D' : Dk} {L : List Raw} {clock : Nat} {r : Raw} {F : List Nat} {nm : ByteArray}

set_option maxHeartbeats 1600000 in
theorem read_place (a b : Int) (hs : r.name.size ≤ maxLen) (h : DRaw w d m D L clock) (hl : D.look r.name = 0) (hr : r ∈ L) (hk : a < 0 ∨ b < 0 ∨ (r.bytes.length : Int) < a ∨ (r.bytes.length : Int) - a < b) :
    Calls Tryz.prog 37 #[.pointer (some ⟨d, 0, none⟩), .string r.name, .int .i64 a, .int .i64 b] w fun e w' => e = .returned (.tuple #[.slice none 0 0, .int .i64 12]) ∧ ∃ n, w' = w.drewN n := by
  have hrok := h.raws r hr
  have q0 := hrok.cell0
  obtain ⟨p, c, hsv, hnc, hcm, hlen, hown⟩ := hrok.own
  rw [hsv] at q0
  have hlb : r.bytes.length ≤ 1099511627776 := by
    have h1 := get_le (h.get_of hr)
    have h1 : r.bytes.length ≤ total D.files := h1
    have h2 := h.ok.used
    have h3 := h.ok.limit
    have h4 : D.used = total D.files := rfl
    omega
  have hlb : (r.bytes.length : Int) ≤ 1099511627776 := by omega
  clear hrok hsv hnc hcm hlen hown
  have H := Lib.hid h
  have HL := Lib.hid hl
  have HR := Lib.hid hr
  clear h hl hr
  by_cases ha0 : a < 0
  · clear hlb
    clear hk
    go_enter Tryz.func37, Tryz.ntmps37
    go_wp2_with (first | (go_at_call 77; refine (find_yes hs H.out HL.out HR.out).mono ?_; rintro e w' ⟨rfl, nd, rfl⟩))
    go_ret2
    exact ⟨rfl, nd, rfl⟩
  · by_cases hb0 : b < 0
    · clear hlb
      clear hk
      go_enter Tryz.func37, Tryz.ntmps37
      go_wp2_with (first | (go_at_call 77; refine (find_yes hs H.out HL.out HR.out).mono ?_; rintro e w' ⟨rfl, nd, rfl⟩))
      go_ret2
      exact ⟨rfl, nd, rfl⟩
    · by_cases ha1 : (r.bytes.length : Int) < a
      · clear hlb
        clear hk
        go_enter Tryz.func37, Tryz.ntmps37
        go_wp2_with (first | (go_at_call 77; refine (find_yes hs H.out HL.out HR.out).mono ?_; rintro e w' ⟨rfl, nd, rfl⟩))
        go_ret2
        exact ⟨rfl, nd, rfl⟩
      · have hk4 : (r.bytes.length : Int) - a < b := by omega
        clear hk
        go_enter Tryz.func37, Tryz.ntmps37
        go_wp2_with (first | (go_at_call 77; refine (find_yes hs H.out HL.out HR.out).mono ?_; rintro e w' ⟨rfl, nd, rfl⟩))
        go_ret2
        exact ⟨rfl, nd, rfl⟩

theorem look_raw (h : DRaw w d m D L clock) (hl : D.look nm = 0) : ∃ r ∈ L, r.name = nm := by
  unfold Dk.look at hl
  split at hl
  · omega
  · split at hl
    · split at hl
      · rename_i f hf
        obtain ⟨r, hr, e, _⟩ := h.get_some hf
        exact ⟨r, hr, e⟩
      · omega
    · omega

theorem _root_.Go.Dr.DRaw.len_of (h : DRaw w d m D L clock) (hr : r ∈ L) : lenOf D.files r.name = r.bytes.length := by unfold lenOf; rw [h.get_of hr]; rfl
theorem _root_.Go.Dr.DRaw.bytes_of (h : DRaw w d m D L clock) (hr : r ∈ L) : bytesOf D.files r.name = r.bytes := by unfold bytesOf; rw [h.get_of hr]; rfl
theorem _root_.Go.Dr.DRaw.sure_of (h : DRaw w d m D L clock) (hr : r ∈ L) : sureOf D.files r.name = r.sure := by unfold sureOf; rw [h.get_of hr]; rfl

/-- what a call leaves: the disk D', nothing else changed -/
def Left (w : World) (d : Nat) (F : List Nat) (D' : Dk) (w' : World) : Prop := ∃ F', DRep w' d D' F' ∧ Ev F F' w w'

theorem Left.same (h : DRep w d D F) (n : Nat) : Left w d F D (w.drewN n) := ⟨F, h.keep fun _ _ => rfl, (Ev.refl F w).drewN n⟩
theorem left_same {w' : World} (h : DRep w d D F) (hw : ∃ n, w' = w.drewN n) : Left w d F D w' := by obtain ⟨n, rfl⟩ := hw; exact Left.same h n

theorem sync_any (hs : nm.size ≤ maxLen) (h : DRep w d D F) :
    Calls Tryz.prog 50 #[.pointer (some ⟨d, 0, none⟩), .string nm] w fun e w' => e = .returned (.int .i64 ((D.sync nm).1 : Int)) ∧ Left w d F (D.sync nm).2 w' := by
  unfold Dk.sync
  by_cases hl : D.look nm = 0
  · rw [if_pos hl]
    obtain ⟨m, L, clock, h, rfl⟩ := h
    obtain ⟨r, hr, rfl⟩ := look_raw h hl
    unfold Dk.change
    by_cases hf : D.fires = true
    · rw [if_pos hf]
      exact sync_crash hs h hl hr hf
    · rw [if_neg hf]
      exact sync_ok hs h hl hr (by simpa using hf)
  · rw [if_neg hl]
    exact (sync_no hs h hl).mono fun e w' ⟨h1, h2⟩ => ⟨h1, left_same h h2⟩

theorem cut_any (k : Int) (hs : nm.size ≤ maxLen) (h : DRep w d D F) :
    Calls Tryz.prog 49 #[.pointer (some ⟨d, 0, none⟩), .string nm, .int .i64 k] w fun e w' => e = .returned (.int .i64 ((D.cut nm k).1 : Int)) ∧ Left w d F (D.cut nm k).2 w' := by
  unfold Dk.cut
  by_cases hl : D.look nm = 0
  · rw [if_pos hl]
    obtain ⟨m, L, clock, h, rfl⟩ := h
    obtain ⟨r, hr, rfl⟩ := look_raw h hl
    rw [h.len_of hr]
    by_cases hk : k < 0 ∨ (r.bytes.length : Int) < k
    · rw [if_pos hk]
      exact (cut_place k hs h hl hr hk).mono fun e w' ⟨h1, h2⟩ => ⟨h1, left_same ⟨m, L, clock, h, rfl⟩ h2⟩
    · rw [if_neg hk]
      obtain ⟨n, rfl⟩ : ∃ n : Nat, k = n := ⟨k.toNat, by omega⟩
      unfold Dk.change
      by_cases hf : D.fires = true
      · rw [if_pos hf]
        exact cut_crash n hs h hl hr (by omega) hf
      · rw [if_neg hf]
        exact cut_ok n hs h hl hr (by omega) (by simpa using hf)
  · rw [if_neg hl]
    exact (cut_no k hs h hl).mono fun e w' ⟨h1, h2⟩ => ⟨h1, left_same h h2⟩

theorem size_any (hs : nm.size ≤ maxLen) (h : DRep w d D F) :
    Calls Tryz.prog 38 #[.pointer (some ⟨d, 0, none⟩), .string nm] w fun e w' =>
      e = .returned (.tuple #[.int .i64 ((D.size nm).1 : Int), .int .i64 ((D.size nm).2.1 : Int), .int .i64 ((D.size nm).2.2 : Int)]) ∧ Left w d F D w' := by
  unfold Dk.size
  by_cases hl : D.look nm = 0
  · rw [if_pos hl]
    obtain ⟨m, L, clock, h, rfl⟩ := h
    obtain ⟨r, hr, rfl⟩ := look_raw h hl
    rw [h.len_of hr, h.sure_of hr]
    exact (size_yes hs h hl hr).mono fun e w' ⟨h1, h2⟩ => ⟨h1, left_same ⟨m, L, clock, h, rfl⟩ h2⟩
  · rw [if_neg hl]
    exact (size_no hs h hl).mono fun e w' ⟨h1, h2⟩ => ⟨h1, left_same h h2⟩

theorem turn_any (k : Int) (b : UInt8) (hs : nm.size ≤ maxLen) (h : DRep w d D F) :
    Calls Tryz.prog 101 #[.pointer (some ⟨d, 0, none⟩), .string nm, .int .i64 k, .int .u8 (b.toNat : Int)] w fun e w' => e = .returned (.int .i64 ((D.turn nm k b).1 : Int)) ∧ Left w d F (D.turn nm k b).2 w' := by
  unfold Dk.turn
  by_cases hl : D.look nm = 0
  · rw [if_pos hl]
    obtain ⟨m, L, clock, h, rfl⟩ := h
    obtain ⟨r, hr, rfl⟩ := look_raw h hl
    rw [h.len_of hr]
    by_cases hk : k < 0 ∨ (r.bytes.length : Int) ≤ k
    · rw [if_pos hk]
      exact (turn_place k _ hs h hl hr hk).mono fun e w' ⟨h1, h2⟩ => ⟨h1, left_same ⟨m, L, clock, h, rfl⟩ h2⟩
    · rw [if_neg hk]
      obtain ⟨n, rfl⟩ : ∃ n : Nat, k = n := ⟨k.toNat, by omega⟩
      exact turn_ok n b hs h hl hr (by omega)
  · rw [if_neg hl]
    exact (turn_no k _ hs h hl).mono fun e w' ⟨h1, h2⟩ => ⟨h1, left_same h h2⟩

/-- bytes are answered in memory of their own, beside the disk -/
def Tell (w : World) (d : Nat) (F : List Nat) (D : Dk) (l : List UInt8) (c : Nat) (e : Ending) (w' : World) : Prop :=
  ∃ v, e = .returned (.tuple #[v, .int .i64 (c : Int)]) ∧ OB w' 5 v l ∧ (∀ b, sblk v = some b → w.heap.size ≤ b) ∧ Chg (fun _ => False) w w' ∧ DRep w' d D F

theorem read_any (a b : Int) (hs : nm.size ≤ maxLen) (h : DRep w d D F) :
    Calls Tryz.prog 37 #[.pointer (some ⟨d, 0, none⟩), .string nm, .int .i64 a, .int .i64 b] w (Tell w d F D (D.read nm a b).1 (D.read nm a b).2) := by
  unfold Dk.read
  have hno : ∀ (c : Nat) e w', (e = .returned (.tuple #[.slice none 0 0, .int .i64 (c : Int)]) ∧ ∃ n, w' = w.drewN n) → Tell w d F D [] c e w' := fun c e w' ⟨h1, n, h2⟩ => by
    subst h2
    exact ⟨_, h1, OB_nil _ _, by simp [sblk], (Chg.refl _ w).drewN n, h.keep fun _ _ => rfl⟩
  by_cases hl : D.look nm = 0
  · rw [if_pos hl]
    have h0 := h
    obtain ⟨m, L, clock, h, rfl⟩ := h
    obtain ⟨r, hr, rfl⟩ := look_raw h hl
    rw [h.len_of hr, h.bytes_of hr]
    by_cases hk : a < 0 ∨ b < 0 ∨ (r.bytes.length : Int) < a ∨ (r.bytes.length : Int) - a < b
    · rw [if_pos hk]
      exact (read_place a b hs h hl hr hk).mono fun e w' hh => hno 12 e w' hh
    · rw [if_neg hk]
      obtain ⟨x, rfl⟩ : ∃ n : Nat, a = n := ⟨a.toNat, by omega⟩
      obtain ⟨y, rfl⟩ : ∃ n : Nat, b = n := ⟨b.toNat, by omega⟩
      refine (read_ok x y hs h hl hr (by omega)).mono ?_
      rintro e w' ⟨v, h1, h2, h3, h4⟩
      exact ⟨v, h1, h2, h4, h3, h0.chg h3 fun _ _ h => h⟩
  · rw [if_neg hl]
    exact (read_no a b hs h hl).mono fun e w' hh => hno _ e w' hh

theorem Ok_fires {D : Dk} : D.fires = true ∨ D.fires = false := by cases D.fires <;> simp

theorem append_eq {bs : List UInt8} {D1 : Dk} (hl : D.look nm = 0 ∨ D.look nm = 112) (h1 : { D with files := putB nm (bs.take (min bs.length (D.limit - D.used))) D.files } = D1) :
    D.append nm bs = if D.fires then ((0, 110), D1.tick.lose D.keep.toNat) else ((min bs.length (D.limit - D.used), if min bs.length (D.limit - D.used) < bs.length then 111 else 0), D1.tick) := by
  subst h1
  unfold Dk.append
  rw [if_pos hl]
  rfl

theorem append_any {bv : Value} {bs : List UInt8} (hs : nm.size ≤ maxLen) (h : DRep w d D F) (hb : RB w bv bs) (hap : ∀ k, sblk bv = some k → k ∉ F) :
    Calls Tryz.prog 58 #[.pointer (some ⟨d, 0, none⟩), .string nm, bv] w fun e w' =>
      e = .returned (.tuple #[.int .i64 ((D.append nm bs).1.1 : Int), .int .i64 ((D.append nm bs).1.2 : Int)]) ∧ Left w d F (D.append nm bs).2 w' := by
  by_cases hl : D.look nm = 0 ∨ D.look nm = 112
  · have hl0 := hl
    obtain ⟨m, L, clock, h, rfl⟩ := h
    obtain ⟨pb, cb, rfl, hlb, -⟩ := id hb
    rcases hl with hl | hl
    · obtain ⟨r, hr, rfl⟩ := look_raw h hl
      rw [append_eq (D1 := appD D r.name (bs.take (min bs.length (D.limit - D.used)))) hl0 (by unfold putB; rw [h.get_of hr]; rfl)]
      by_cases hf : D.fires = true
      · rw [if_pos hf]
        exact append_old_crash hs h hl hr hlb hb hf
      · rw [if_neg hf]
        exact append_old_ok hs h hl hr hlb hb (by simpa using hf) _ _ (Lib.hid rfl)
    · have hg := look_new hl
      have eu : ({ D with files := ins ⟨nm, [], 0⟩ D.files } : Dk).used = D.used := by simp [Dk.used, total_ins]
      have hapm : ∀ k, sblk (.slice pb bs.length cb) = some k → k ≠ m := fun k hk e => hap k hk (by subst e; simp)
      rw [append_eq (D1 := appD { D with files := ins ⟨nm, [], 0⟩ D.files } nm (bs.take (min bs.length (D.limit - D.used)))) hl0 (by
        unfold putB; rw [hg]; simp only [appD]; rw [upd_ins (g := fun f => { f with bytes := f.bytes ++ bs.take (min bs.length (D.limit - D.used)) }) (fun f => rfl) hg]; simp)]
      by_cases hf : D.fires = true
      · rw [if_pos hf]
        have := append_new_crash hs h hl hlb hb hapm (D1 := { D with files := ins ⟨nm, [], 0⟩ D.files }) (Lib.hid rfl) hf
        rw [eu] at this
        exact this
      · rw [if_neg hf]
        have := append_new_ok hs h hl hlb hb hapm (D1 := { D with files := ins ⟨nm, [], 0⟩ D.files }) (Lib.hid rfl) (show D.fires = false by simpa using hf) (min bs.length (D.limit - D.used)) (if min bs.length (D.limit - D.used) < bs.length then 111 else 0) (Lib.hid (by rw [eu]))
        rw [eu] at this
        exact this
  · have e : D.append nm bs = ((0, D.look nm), D) := by unfold Dk.append; rw [if_neg hl]
    rw [e]
    have hno := append_no (D := D) (nm := nm) bv hs h (by omega) (by omega)
    exact hno.mono fun e w' ⟨h1, h2⟩ => ⟨h1, left_same h h2⟩
end
end Go.Proofs
