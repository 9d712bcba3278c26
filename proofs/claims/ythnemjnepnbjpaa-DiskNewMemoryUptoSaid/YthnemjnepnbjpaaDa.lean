/- What the disk's laws share: num, awake (a little play on a disk of its own: it answers true, nothing that was there has changed). No conditions. -/
import Derived.Test.YthnemjnepnbjpaaD9
import Derived.Lib.SmallJoins
namespace Go.Proofs
open Go.RowKit Go.Hp Go.Dm Go.Dr
set_option linter.unusedVariables false
set_option maxRecDepth 10000

theorem num_any (n : Int) (w : World) : Calls Try.prog 16 #[.int .i64 n] w fun e w' => e = .returned (.int .i64 n) ∧ w = w' := by
  go_enter Try.func16, Try.ntmps16
  go_wp2
  go_ret
  exact ⟨rfl, rfl⟩

/-- the name of awake's file -/
def nA : ByteArray := ⟨#[97]⟩
def dA0 : Dk := ⟨9, [], false, 0, 0⟩
def dA1 : Dk := ⟨9, [⟨nA, [120], 0⟩], false, 0, 0⟩
def dA2 : Dk := ⟨9, [⟨nA, [120], 1⟩], false, 0, 0⟩
def dA3 : Dk := ⟨9, [⟨nA, [120, 121, 122], 1⟩], false, 0, 0⟩
def dA4 : Dk := ⟨9, [⟨nA, [120, 121], 2⟩], true, 0, 0⟩
def dA5 : Dk := ⟨9, [⟨nA, [120, 121], 2⟩], false, 0, 0⟩
theorem eA1 : dA0.append nA [120] = ((1, 0), dA1) := by rfl
theorem eA2 : dA1.sync nA = (0, dA2) := by rfl
theorem eA3 : dA2.append nA [121, 122] = ((2, 0), dA3) := by rfl
theorem eA4 : dA3.crash 1 = (0, dA4) := by rfl
theorem eA5 : dA4.up = dA5 := by rfl
theorem eA6 : dA5.read nA 0 2 = ([120, 121], 0) := by rfl
theorem Left.step {w w1 w2 : World} {d : Nat} {F0 F : List Nat} {D : Dk} (h : Ev F0 F w w1) (k : Left w1 d F D w2) : Left w d F0 D w2 := by
  obtain ⟨F', h1, h2⟩ := k
  exact ⟨F', h1, h.trans h2⟩

/-- the bytes of a constant, laid in a new block -/
theorem rb_new (w : World) (l : List UInt8) (t : TypeId) (fz : Nat × Nat) : RB (w.alloc (.cells (l.map u8).toArray t fz)) (.slice (some ⟨w.heap.size, 0, none⟩) l.length l.length) l :=
  ⟨_, _, rfl, Nat.le_refl _, by simp, fun _ => ⟨_, 0, (l.map u8).toArray, t, fz, rfl, halloc_at w _, fun i u hu => by simpa using hu⟩⟩

theorem drep_alloc {w : World} {d : Nat} {D : Dk} {F : List Nat} (h : DRep w d D F) (o : Obj) : DRep (w.alloc o) d D F := h.keep fun k hk => halloc_lt (h.lt k hk)
theorem new_out {w : World} {d : Nat} {D : Dk} {F : List Nat} (h : DRep w d D F) {c : Nat} : ∀ k, sblk (.slice (some ⟨w.heap.size, 0, none⟩) c c) = some k → k ∉ F := fun k hk hkF => by
  have h1 := h.lt k hkF
  have h2 : w.heap.size = k := by
    cases c with
    | zero => cases hk
    | succ c => simpa [sblk] using hk
  omega

set_option maxHeartbeats 4000000 in
theorem awake_any (w : World) : Calls Try.prog 28 #[] w fun e w' => e = .returned (.bool true) ∧ Chg (fun _ => False) w w' := by
  go_enter Try.func28, Try.ntmps28
  go_wp2_with (first | (go_at_call 15; refine stop ?_))
  refine go ?_
  refine (new_ok 9 (by decide)).mono ?_
  rintro e w1 ⟨rfl, h1, v1⟩
  have H1 := Lib.hid h1
  have V1 := Lib.hid v1
  generalize w.heap.size + 1 = d at *
  clear h1 v1
  have hconv := Lib.run_convert_bytes_const (P := Try.prog) w1 22 5 #[.int .u8 120] 1 1 Try.underlying22 Try.underlying5
  go_wp2_with (first | (go_at_call 16; refine (num_any _ _).mono ?_; rintro e w' ⟨rfl, rfl⟩) | (go_at_call 17; refine stop ?_))
  clear hconv
  refine go ?_
  have h2 := append_any (nm := nA) (by decide) (drep_alloc H1.out _) (rb_new w1 [120] 5 (1, 2)) (new_out H1.out)
  rw [show (⟨9, [], false, 0, 0⟩ : Dk) = dA0 from rfl, eA1] at h2
  refine h2.mono ?_
  clear h2
  rintro e w2 ⟨rfl, F2, h2, v2⟩
  have H2 := Lib.hid h2
  have V2 := Lib.hid ((V1.out.alloc _).trans v2)
  clear h2 v2
  have h3 := sync_any (nm := nA) (by decide) H2.out
  rw [eA2] at h3
  go_wp2_with (first | (go_at_call 18; refine stop ?_))
  refine go ?_
  refine h3.mono ?_
  clear h3
  rintro e w3 ⟨rfl, F3, h3, v3⟩
  have H3 := Lib.hid h3
  have V3 := Lib.hid (V2.out.trans v3)
  clear h3 v3
  have hconv := Lib.run_convert_bytes_const (P := Try.prog) w3 22 5 #[.int .u8 121, .int .u8 122] 2 2 Try.underlying22 Try.underlying5
  go_wp2_with (first | (go_at_call 17; refine stop ?_))
  clear hconv
  refine go ?_
  have h4 := append_any (nm := nA) (by decide) (drep_alloc H3.out _) (rb_new w3 [121, 122] 5 (2, 3)) (new_out H3.out)
  rw [eA3] at h4
  refine h4.mono ?_
  clear h4
  rintro e w4 ⟨rfl, F4, h4, v4⟩
  have H4 := Lib.hid h4
  have V4 := Lib.hid ((V3.out.alloc _).trans v4)
  clear h4 v4
  have h5 := crash_any 1 (by decide) H4.out
  rw [eA4] at h5
  go_wp2_with (first | (go_at_call 21; refine stop ?_))
  refine go ?_
  refine h5.mono ?_
  clear h5
  rintro e w5 ⟨rfl, F5, h5, v5⟩
  have H5 := Lib.hid h5
  have V5 := Lib.hid (V4.out.trans v5)
  clear h5 v5
  have h6 := up_any H5.out
  rw [eA5] at h6
  go_wp2_with (first | (go_at_call 23; refine stop ?_))
  refine go ?_
  refine h6.mono ?_
  clear h6
  rintro e w6 ⟨rfl, h6, v6⟩
  have H6 := Lib.hid h6
  have V6 := Lib.hid (V5.out.trans v6)
  clear h6 v6
  have h7 := read_any (nm := nA) 0 2 (by decide) H6.out
  rw [eA6] at h7
  go_wp2_with (first | (go_at_call 26; refine stop ?_))
  refine go ?_
  refine h7.mono ?_
  clear h7
  rintro e w7 ⟨v, rfl, h7, -, c7, -⟩
  obtain ⟨pv, cv, rfl, -⟩ := id h7
  have hts : (convert 22 9 (.slice pv 2 cv)).run Try.prog w7 = .ok (.string ⟨#[120, 121]⟩) w7 := run_toString (P := Try.prog) w7 22 9 5 Try.underlying22 Try.underlying5 Try.underlying9 h7.rb
  have C7 := Lib.hid (V6.out.chg.trans c7 (fun k hk => hk.elim))
  clear h7 c7
  go_wp2_with (first | (go_at_call 16; refine (num_any _ _).mono ?_; rintro e w' ⟨rfl, rfl⟩))
  go_ret
  refine ⟨?_, C7.out.mono (fun k hk => by cases hk)⟩
  rfl
end Go.Proofs
