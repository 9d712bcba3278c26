/- frame.Checksum. Conditions: the bytes are read, at most 2^40; the table lies as it was laid. -/
import Derived.Test.YtaiaghfckhgnnaaGreatDoorJp
import Derived.Test.YtaiaghfckhgnnaaGreatDoorJm
import Derived.Laws.BitsAllLaws
namespace Go.Proofs
open Go.RowKit Go.Hp Go.Dm Go.Dr Go.Jn
set_option linter.unusedVariables false
set_option maxRecDepth 10000

/-- the program's laid variables as they lie: the handle of the type 'error', the table -/
structure Gl (w : World) : Prop where
  err : w.cell? ⟨1, 0, none⟩ = some (.iface 200 (.agg #[.pointer (some ⟨3, 47, none⟩)]))
  tab : ∀ i, i < 16 → w.cell? ⟨0, i, none⟩ = some (.int .u32 (jtab.getD i 0 : Nat))

theorem Gl.lt {w : World} (h : Gl w) : 1 < w.heap.size := by
  have h1 : 1 < w.heap.size := by
    rcases Nat.lt_or_ge 1 w.heap.size with h1 | h1
    · exact h1
    · have := h.err
      simp [World.cell?, Array.getElem?_eq_none h1] at this
  have h2 : 0 < w.heap.size := by
    rcases Nat.lt_or_ge 0 w.heap.size with h1 | h1
    · exact h1
    · have := h.tab 0 (by decide)
      simp [World.cell?, Array.getElem?_eq_none h1] at this
  omega
theorem cell_chg {w w' : World} {b i : Nat} (h : w'.heap[b]? = w.heap[b]?) : w'.cell? ⟨b, i, none⟩ = w.cell? ⟨b, i, none⟩ := by simp [World.cell?, h]
theorem Gl.chg {w w' : World} (h : Gl w) (hc : Chg (fun _ => False) w w') : Gl w' :=
  ⟨(cell_chg (hc.block 1 (by have := h.lt; omega) (fun h => h))).trans h.err, fun i hi => (cell_chg (hc.block 0 (by have := h.lt; omega) (fun h => h))).trans (h.tab i hi)⟩
theorem chg4 (w : World) (b : Nat) (v0 v1 v2 v3 : Value) : Chg (· = b) w ((((w.setCell ⟨b, 0, none⟩ v0).setCell ⟨b, 1, none⟩ v1).setCell ⟨b, 2, none⟩ v2).setCell ⟨b, 3, none⟩ v3) :=
  have e : ∀ {W : World} (i : Nat) (v : Value), Chg (· = b) w W → Chg (· = b) w (W.setCell ⟨b, i, none⟩ v) := fun i v h => h.setCell (p := ⟨b, i, none⟩) (.inl rfl) v
  e 3 v3 (e 2 v2 (e 1 v1 (e 0 v0 (Chg.refl (· = b) w))))
theorem info_sum : (Tryz.prog.info? 103).map (·.size) = some 4 := by kernel_rfl
theorem u8_nat (n : Nat) : u8 (UInt8.ofNat n) = .int .u8 ((n % 256 : Nat) : Int) := by show Value.int .u8 _ = _; rw [ofNat_mod]
theorem u32_and15 (A : Nat) (h : A < 4294967296) : bits BinOp.and IntKind.u32 (A : Int) 15 = ((A % 16 : Nat) : Int) := by
  have h1 := u32_and_nat A 15 h (by decide)
  rw [show A &&& 15 = A % 16 from Nat.and_two_pow_sub_one_eq_mod A 4] at h1
  exact h1

section
variable {w : World} {bs : List UInt8} {p : Option Addr} {c : Nat}
set_option maxHeartbeats 4000000 in
theorem checksum_any (hg : Gl w) (hb : RB w (.slice p bs.length c) bs) (hl : bs.length ≤ 1099511627776) :
    Calls Tryz.prog 43 #[.slice p bs.length c] w fun e w' => e = .returned (.agg ((jsum bs).map u8).toArray) ∧ Chg (fun _ => False) w w' := by
  have HG := Lib.hid hg
  have HB := Lib.hid hb
  have ibl : (bs.length : Int) ≤ 1099511627776 := by omega
  clear hg hb hl
  go_enter Tryz.func43, Tryz.ntmps43
  go_wp2
  obtain ⟨w1, hw1⟩ : ∃ w1, w1 = w.alloc (.cells #[.int .u8 0, .int .u8 0, .int .u8 0, .int .u8 0] 103) := ⟨_, rfl⟩
  rw [← hw1]
  have hc1 : Chg (fun _ => False) w w1 := by rw [hw1]; exact (Chg.refl _ w).alloc _
  have HW1 := Lib.hid (And.intro hw1 hc1)
  clear hw1 hc1
  go_loopw [3, 8] (fun t3 t8 wr => w1 = wr ∧ ∃ i : Nat, t8 = .int .i64 (i : Int) ∧ i ≤ bs.length ∧ t3 = .int .u32 (jreg (bs.take i) : Nat)) (fun _ t8 _ => bs.length - (Lib.intOf t8).toNat)
  case atStart => exact ⟨rfl, 0, rfl, Nat.zero_le _, by simp [jreg]⟩
  case round =>
    obtain ⟨rfl, i, rfl, hi, rfl⟩ := hrel
    by_cases hil : (i : Int) < bs.length
    · have hi0 : (0 : Int) ≤ (i : Int) := by omega
      obtain ⟨x, hx⟩ : ∃ x, bs[i]? = some x := ⟨_, List.getElem?_eq_getElem (by omega)⟩
      have hrt := reg_take hx
      obtain ⟨R, hR⟩ : ∃ R, R = jreg (bs.take i) := ⟨_, rfl⟩
      have hR2 : R < 4294967296 := by rw [hR]; exact reg_lt _
      obtain ⟨b0, o0, rfl, hc0, hgc⟩ : ∃ b o, p = some ⟨b, o, none⟩ ∧ w1.cell? ⟨b, o + i, none⟩ = some (.int .u8 (x.toNat : Int)) ∧ (bs.length : Int) ≤ (c : Int) := by
        obtain ⟨p0, c0, e0, h1, h2, h3⟩ := RC.chg HB.out HW1.out.2 fun _ _ h => h
        simp only [Value.slice.injEq] at e0
        obtain ⟨rfl, -, rfl⟩ := e0
        obtain ⟨b, o, arr, t, fz, rfl, hh, hxx⟩ := h3 (by omega)
        refine ⟨b, o, rfl, ?_, by omega⟩
        rw [hcell_of hh]
        exact hxx i _ (by rw [List.getElem?_map, hx]; rfl)
      rw [← hR] at hrt ⊢
      have HRT := Lib.hid (And.intro hrt (And.intro hR hR2))
      clear hrt hR hx
      have hstep : jstep R x = nib (nib (R ^^^ x.toNat)) := rfl
      have HX := Lib.hid hstep
      clear hstep
      obtain ⟨X8, hX8⟩ : ∃ X8, X8 = x.toNat := ⟨_, rfl⟩
      have hx8 : X8 < 256 := by rw [hX8]; exact x.toNat_lt
      rw [← hX8] at hc0
      have e0 : (X8 : Int) % 4294967296 = (X8 : Int) := by omega
      obtain ⟨A, hA⟩ : ∃ A, A = R ^^^ X8 := ⟨_, rfl⟩
      have hA2 : A < 4294967296 := by rw [hA]; exact Nat.xor_lt_two_pow (n := 32) hR2 (by omega)
      have e1 : bits BinOp.xor IntKind.u32 (R : Int) (X8 : Int) = (A : Int) := by rw [hA]; exact u32_xor_nat R X8 hR2 (by omega)
      obtain ⟨k, hk⟩ : ∃ k, k = A % 16 := ⟨_, rfl⟩
      obtain ⟨A4, hA4⟩ : ∃ A4, A4 = A / 16 := ⟨_, rfl⟩
      obtain ⟨T, hT⟩ : ∃ T, T = jtab.getD k 0 := ⟨_, rfl⟩
      obtain ⟨B, hB⟩ : ∃ B, B = A4 ^^^ T := ⟨_, rfl⟩
      have hT2 : T < 4294967296 := by rw [hT]; exact tab_lt _
      have hB2 : B < 4294967296 := by rw [hB]; exact Nat.xor_lt_two_pow (n := 32) (by omega) hT2
      have e2 : bits BinOp.and IntKind.u32 (A : Int) 15 = (k : Int) := by rw [hk]; exact u32_and15 A hA2
      have hk0 : (0 : Int) ≤ (k : Int) := by omega
      have hk1 : (k : Int) < 16 := by omega
      have q1 : w1.cell? ⟨0, k, none⟩ = some (.int .u32 (T : Int)) := by rw [hT]; exact (HG.out.chg HW1.out.2).tab k (by omega)
      have e3 : (A : Int) / 16 = (A4 : Int) := by omega
      have e4 : bits BinOp.xor IntKind.u32 (A4 : Int) (T : Int) = (B : Int) := by rw [hB]; exact u32_xor_nat A4 T (by omega) hT2
      obtain ⟨m, hm⟩ : ∃ m, m = B % 16 := ⟨_, rfl⟩
      obtain ⟨B4, hB4⟩ : ∃ B4, B4 = B / 16 := ⟨_, rfl⟩
      obtain ⟨U, hU⟩ : ∃ U, U = jtab.getD m 0 := ⟨_, rfl⟩
      obtain ⟨C, hC⟩ : ∃ C, C = B4 ^^^ U := ⟨_, rfl⟩
      have hU2 : U < 4294967296 := by rw [hU]; exact tab_lt _
      have e5 : bits BinOp.and IntKind.u32 (B : Int) 15 = (m : Int) := by rw [hm]; exact u32_and15 B hB2
      have hm0 : (0 : Int) ≤ (m : Int) := by omega
      have hm1 : (m : Int) < 16 := by omega
      have q2 : w1.cell? ⟨0, m, none⟩ = some (.int .u32 (U : Int)) := by rw [hU]; exact (HG.out.chg HW1.out.2).tab m (by omega)
      have e6 : (B : Int) / 16 = (B4 : Int) := by omega
      have e7 : bits BinOp.xor IntKind.u32 (B4 : Int) (U : Int) = (C : Int) := by rw [hC]; exact u32_xor_nat B4 U (by omega) hU2
      have hfin : jreg (bs.take (i + 1)) = C := by
        have hnA : nib A = B := by unfold nib; rw [← hk, ← hA4, ← hT, ← hB]
        have hnB : nib B = C := by unfold nib; rw [← hm, ← hB4, ← hU, ← hC]
        rw [HRT.out.1, HX.out, ← hX8, ← hA, hnA, hnB]
      have HF := Lib.hid hfin
      clear hfin hX8 hA hk hA4 hT hB hm hB4 hU hC hx8 hA2 hB2 hT2 hU2 hR2
      go_wp2
      go_roundw
      case rel => exact ⟨by trivial, i + 1, by go_num, by omega, by rw [HF.out]⟩
      case measure => simp [Lib.intOf]; omega
    · obtain ⟨R, hR⟩ : ∃ R, R = jreg (bs.take i) := ⟨_, rfl⟩
      have hR2 : R < 4294967296 := by rw [hR]; exact reg_lt _
      obtain ⟨K, hK⟩ : ∃ K, K = 4294967295 ^^^ R := ⟨_, rfl⟩
      have hK2 : K = crc bs := by rw [hK, hR, List.take_of_length_le (by omega)]; rfl
      have e1 : bits BinOp.xor IntKind.u32 IntKind.u32.max (R : Int) = (K : Int) := by
        rw [hK]; exact u32_xor_nat 4294967295 R (by decide) hR2
      rw [← hR]
      have hb1 : w1.heap[w.heap.size]? = some (.cells #[.int .u8 0, .int .u8 0, .int .u8 0, .int .u8 0] 103) := by rw [HW1.out.1]; exact halloc_at w _
      have z0 := hfree_of hb1 0
      have z1 := hfree_of hb1 1
      have z2 := hfree_of hb1 2
      have z3 := hfree_of hb1 3
      have y0 := hcell_of hb1 0
      have y1 := hcell_of hb1 1
      have y2 := hcell_of hb1 2
      have y3 := hcell_of hb1 3
      simp only [List.getElem?_toArray, List.getElem?_cons_zero, List.getElem?_cons_succ] at y0 y1 y2 y3
      have HK2 := Lib.hid hK2
      have HB1 := Lib.hid hb1
      clear hR hR2 hK hK2 hb1
      go_wp2
      (try simp only [Exit.inBlock, Exit.then])
      refine bodyPost_ret (results_cell1 (p := 2) (cs := #[.int .u8 ((K : Int) / 16777216 % 256), .int .u8 ((K : Int) / 65536 % 256), .int .u8 ((K : Int) / 256 % 256), .int .u8 ((K : Int) % 256)]) rfl _ _ w.heap.size 103 (0, 0) _ rfl ?_ Tryz.underlying103 rfl info_sum) rfl ?_
      · simp only [hset, if_true]
        rw [HB1.out]
        simp [objSet]
      · refine ⟨?_, HW1.out.2.trans (chg4 w1 w.heap.size _ _ _ _) fun k hk => .inr (by rw [hk]; exact Nat.le_refl _)⟩
        rw [jsum, ← HK2.out]
        show Ending.returned (.agg #[_, _, _, _]) = Ending.returned (.agg #[u8 _, u8 _, u8 _, u8 _])
        rw [u8_nat, u8_nat, u8_nat, u8_nat]
        simp
end
end Go.Proofs
