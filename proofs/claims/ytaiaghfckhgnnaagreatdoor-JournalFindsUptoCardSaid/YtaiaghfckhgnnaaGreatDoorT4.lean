/- over: what a journal finds over a disk with just these bytes. Conditions: the bytes are read, at most 1048576; the listed variables lie as they were laid. -/
import Derived.Test.YtaiaghfckhgnnaaGreatDoorT0
import Derived.Test.YtaiaghfckhgnnaaGreatDoorJ2
import Derived.Test.YtaiaghfckhgnnaaGreatDoorJ1
namespace Go.Proofs
open Go.RowKit Go.Hp Go.Dm Go.Dr Go.Jn
set_option linter.unusedVariables false
set_option maxRecDepth 10000
theorem one_load {b : List UInt8} (h : b.length ≤ 1048576) : ldAll ((1048576 : Nat) : Int) [(⟨nL, b, (b.length : Int)⟩ : FI)] = (0, [⟨nL, b, b.length⟩]) := by
  have h1 : ldErr [] (⟨nL, b, (b.length : Int)⟩ : FI) = 0 := by
    unfold ldErr
    rw [if_pos (by exact okL)]
    simp [Dm.get]
  have h2 : ldGo [] [(⟨nL, b, (b.length : Int)⟩ : FI)] = (0, [⟨nL, b, b.length⟩]) := by
    rw [ldGo, if_pos h1, ldGo]
    rfl
  exact ldAll_ok (by decide) h2 (by simp [total]; omega)
section
variable {W w : World} {L : List Ent} {b : List UInt8} {p : Option Addr} {c : Nat} {l : List (List UInt8)} {g y : Nat}
set_option maxHeartbeats 16000000 in
theorem over_any (hg : Gl W) (hm : Many W w L) (hb : RB w (.slice p b.length c) b) (hl : b.length ≤ 1048576) (hp : jparse b = (l, g, y)) :
    Calls Tryz.prog 13 #[.slice p b.length c] w fun e w' => ∃ rv ls, e = .returned (.tuple #[rv, .int .i64 ((b.length - g : Nat) : Int), .int .i64 (g : Int), .bool true]) ∧ ls.map LF.bytes = l ∧ Many W w' (Ent.recs rv ls :: L) := by
  have HCP := Lib.hid (copied_any (by omega) hb)
  have hgl : g ≤ b.length := by have := parse_good_le b; rw [hp] at this; exact this
  have HM := Lib.hid (And.intro hg (And.intro hm (And.intro hl (And.intro hp hgl))))
  obtain ⟨n, hn⟩ : ∃ n, n = b.length := ⟨_, rfl⟩
  rw [← hn] at HCP ⊢
  have HN := Lib.hid hn
  have inn : (n : Int) ≤ 1048576 := by omega
  have hop := oneD_open b hp
  rw [← hn] at hop
  have HOR := Lib.hid hop
  clear hg hm hb hl hp hn hgl hop
  go_enter Tryz.func13, Tryz.ntmps13
  go_wp2_with (first | (go_at_call 11; refine stop ?_))
  refine go ?_
  refine HCP.out.mono ?_
  rintro e w1 ⟨v1, rfl, o1, c1, n1⟩
  obtain ⟨p1, cc1, rfl, -⟩ := id o1
  have m1 := HM.out.2.1.quiet c1
  have hbc : b.length ≤ cc1 := by obtain ⟨_, _, e, h1, -⟩ := id o1; simp only [Value.slice.injEq] at e; omega
  have hrow := (OC_new w1 3 99 #[.string nL, .slice p1 b.length cc1, .int .i64 (b.length : Int)] 1 1 (by decide) (by unfold maxLen; decide) rfl).rc
  have hif : IFiles (w1.alloc (.cells #[.string nL, .slice p1 b.length cc1, .int .i64 (b.length : Int)] 99)) (.slice (some ⟨w1.heap.size, 0, none⟩) 1 1) [(⟨nL, p1, cc1, b, (b.length : Int)⟩ : LI)] := by
    have hl := HM.out.2.2.1
    refine ⟨hrow, fun x hx => ?_, by simp, by simp [LI.fi, FI.fl, total]; omega⟩
    obtain rfl : x = _ := by simpa using hx
    exact ⟨⟨by show nL.size ≤ _; decide, by show b.length ≤ _; omega, hbc, by show _ ≤ (b.length : Int); omega, by show (b.length : Int) ≤ _; omega⟩, RC.chg (OB.rb o1) ((Chg.refl (fun _ => False) w1).alloc _) fun _ _ h => h⟩
  have hld := load_any (n := 1048576) (by decide) hif
  have e1 : ldAll ((1048576 : Nat) : Int) ([(⟨nL, p1, cc1, b, (b.length : Int)⟩ : LI)].map LI.fi) = (0, [⟨nL, b, b.length⟩]) := one_load HM.out.2.2.1
  rw [e1, ← HN.out] at hld
  simp only [show ((1048576 : Nat) : Int) = 1048576 from rfl] at hld
  have HLD := Lib.hid hld
  have M1 := Lib.hid (m1.alloc (.cells #[.string nL, .slice p1 n cc1, .int .i64 (n : Int)] 99))
  rw [← HN.out]
  clear o1 c1 n1 m1 hbc hrow hif hld
  go_wp2_with (first | (go_at_call 42; refine stop ?_))
  refine go ?_
  refine HLD.out.mono ?_
  rintro e w2 (⟨h, -⟩ | ⟨-, d, F, rfl, h2, v2⟩)
  case inl => exact absurd rfl h
  have m2 : Many W w2 (Ent.disk d (oneD b) F :: L) := by
    have h := M1.out.addDisk h2 v2
    rw [HN.out] at h
    exact h
  have HOP := Lib.hid (open_any HM.out.1 m2 (show nL.size ≤ maxLen by decide) (by rw [oneD_bytes]; have := HM.out.2.2.1; omega) HOR.out)
  clear h2 v2 m2
  go_wp2_with (first | (go_at_call 17; refine stop ?_))
  refine go ?_
  refine HOP.out.mono ?_
  rintro e w3 (⟨-, j, G, rv, ls, rfl, hls, m3⟩ | ⟨h, -⟩)
  case inr => exact absurd rfl h
  obtain ⟨F3, v3, hraw3, hG3⟩ := m3.first
  have hsz := size_any (nm := nL) (by decide) hraw3.disk
  rw [show ({ D := oneD (b.take g), nm := nL, es := endsOf l, du := l.length, er := .nilIface } : Hs).D = oneD (b.take g) from rfl, oneD_size, List.length_take, Nat.min_eq_left HM.out.2.2.2.2] at hsz
  have HSZ := Lib.hid hsz
  have M3 := Lib.hid (And.intro m3 (And.intro hG3 (And.intro hraw3 hls)))
  clear m3 hraw3 hG3 hsz hls
  go_wp2_with (first | (go_at_call 38; refine stop ?_))
  refine go ?_
  refine HSZ.out.mono ?_
  rintro e w4 ⟨rfl, hl4⟩
  obtain ⟨F4, hraw4, ev4⟩ := M3.out.2.2.1.left hl4
  obtain ⟨G4, m4⟩ := M3.out.1.housed (by rw [M3.out.2.1]; exact ⟨_, ⟨F4, v3, hraw4, rfl⟩, ev4⟩)
  have M4 := Lib.hid m4.tail
  clear hl4 hraw4 ev4 m4
  go_wp2
  (try simp only [Exit.inBlock, Exit.then])
  refine bodyPost_ret (results_tmp4 rfl _ _ _) rfl ?_
  exact ⟨rv, ls, by simp, M3.out.2.2.2, M4.out⟩
end
end Go.Proofs
