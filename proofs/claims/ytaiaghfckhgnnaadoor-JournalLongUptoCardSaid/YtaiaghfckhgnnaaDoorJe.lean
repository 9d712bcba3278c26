/- frame.Checksum. Conditions: the bytes are read, at most 2^40; the table lies as it was laid. journal.payload and frame.Wrap. Conditions: the bytes are read; numbers below 2^31. '==' between short arrays of bytes. No conditions. -/
import Derived.Test.YtaiaghfckhgnnaaDoorJn
import Derived.Test.YtaiaghfckhgnnaaDoorJm
import Derived.Laws.BitsAllLaws
import Derived.Lib.JoinLaws
namespace Go.Proofs
open Go.RowKit Go.Hp Go.Dm Go.Dr Go.Jn
set_option linter.unusedVariables false
set_option maxRecDepth 10000

/-- the program's laid variables as they lie: the handle of the type 'error', the table -/
structure Gl (w : World) : Prop where
  err : w.cell? ⟨0, 0, none⟩ = some (.iface 115 (.agg #[.pointer (some ⟨3, 30, none⟩)]))
  tab : ∀ i, i < 16 → w.cell? ⟨1, i, none⟩ = some (.int .u32 (jtab.getD i 0 : Nat))

theorem Gl.lt {w : World} (h : Gl w) : 1 < w.heap.size := by
  have h1 : 0 < w.heap.size := by
    rcases Nat.lt_or_ge 0 w.heap.size with h1 | h1
    · exact h1
    · have := h.err
      simp [World.cell?, Array.getElem?_eq_none h1] at this
  have h2 : 1 < w.heap.size := by
    rcases Nat.lt_or_ge 1 w.heap.size with h1 | h1
    · exact h1
    · have := h.tab 0 (by decide)
      simp [World.cell?, Array.getElem?_eq_none h1] at this
  omega
theorem cell_chg {w w' : World} {b i : Nat} (h : w'.heap[b]? = w.heap[b]?) : w'.cell? ⟨b, i, none⟩ = w.cell? ⟨b, i, none⟩ := by simp [World.cell?, h]
theorem Gl.chg {w w' : World} (h : Gl w) (hc : Chg (fun _ => False) w w') : Gl w' :=
  ⟨(cell_chg (hc.block 0 (by have := h.lt; omega) (fun h => h))).trans h.err, fun i hi => (cell_chg (hc.block 1 (by have := h.lt; omega) (fun h => h))).trans (h.tab i hi)⟩
theorem chg4 (w : World) (b : Nat) (v0 v1 v2 v3 : Value) : Chg (· = b) w ((((w.setCell ⟨b, 0, none⟩ v0).setCell ⟨b, 1, none⟩ v1).setCell ⟨b, 2, none⟩ v2).setCell ⟨b, 3, none⟩ v3) :=
  have e : ∀ {W : World} (i : Nat) (v : Value), Chg (· = b) w W → Chg (· = b) w (W.setCell ⟨b, i, none⟩ v) := fun i v h => h.setCell (p := ⟨b, i, none⟩) (.inl rfl) v
  e 3 v3 (e 2 v2 (e 1 v1 (e 0 v0 (Chg.refl (· = b) w))))
theorem info_sum : (Tryd.prog.info? 79).map (·.size) = some 4 := by kernel_rfl
theorem u8_nat (n : Nat) : u8 (UInt8.ofNat n) = .int .u8 ((n % 256 : Nat) : Int) := by show Value.int .u8 _ = _; rw [ofNat_mod]
theorem u32_and15 (A : Nat) (h : A < 4294967296) : bits BinOp.and IntKind.u32 (A : Int) 15 = ((A % 16 : Nat) : Int) := by
  have h1 := u32_and_nat A 15 h (by decide)
  rw [show A &&& 15 = A % 16 from Nat.and_two_pow_sub_one_eq_mod A 4] at h1
  exact h1

section
variable {w : World} {bs : List UInt8} {p : Option Addr} {c : Nat}
set_option maxHeartbeats 4000000 in
theorem checksum_any (hg : Gl w) (hb : RB w (.slice p bs.length c) bs) (hl : bs.length ≤ 1099511627776) :
    Calls Tryd.prog 41 #[.slice p bs.length c] w fun e w' => e = .returned (.agg ((jsum bs).map u8).toArray) ∧ Chg (fun _ => False) w w' := by
  have HG := Lib.hid hg
  have HB := Lib.hid hb
  have ibl : (bs.length : Int) ≤ 1099511627776 := by omega
  clear hg hb hl
  go_enter Tryd.func41, Tryd.ntmps41
  go_wp2
  obtain ⟨w1, hw1⟩ : ∃ w1, w1 = w.alloc (.cells #[.int .u8 0, .int .u8 0, .int .u8 0, .int .u8 0] 79) := ⟨_, rfl⟩
  rw [← hw1]
  have hc1 : Chg (fun _ => False) w w1 := by rw [hw1]; exact (Chg.refl _ w).alloc _
  have HW1 := Lib.hid (And.intro hw1 hc1)
  clear hw1 hc1
  go_loopw [3, 8] (fun t3 t8 wr => w1 = wr ∧ ∃ i : Nat, t8 = .int .i64 (i : Int) ∧ i ≤ bs.length ∧ t3 = .int .u32 (jreg (bs.take i) : Nat)) (fun _ t8 _ => bs.length - (Lib.intOf t8).toNat)
  case atStart => exact ⟨rfl, 0, rfl, Nat.zero_le _, by simp [jreg]⟩
  case round =>
    obtain ⟨rfl, i, rfl, hi, rfl⟩ := hrel
    by_cases hil : (i : Int) < bs.length
    · have hi0 : (0 : Int) ≤ (i : Int) := by omega
      obtain ⟨x, hx⟩ : ∃ x, bs[i]? = some x := ⟨_, List.getElem?_eq_getElem (by omega)⟩
      have hrt := reg_take hx
      obtain ⟨R, hR⟩ : ∃ R, R = jreg (bs.take i) := ⟨_, rfl⟩
      have hR2 : R < 4294967296 := by rw [hR]; exact reg_lt _
      obtain ⟨b0, o0, rfl, hc0, hgc⟩ : ∃ b o, p = some ⟨b, o, none⟩ ∧ w1.cell? ⟨b, o + i, none⟩ = some (.int .u8 (x.toNat : Int)) ∧ (bs.length : Int) ≤ (c : Int) := by
        obtain ⟨p0, c0, e0, h1, h2, h3⟩ := RC.chg HB.out HW1.out.2 fun _ _ h => h
        simp only [Value.slice.injEq] at e0
        obtain ⟨rfl, -, rfl⟩ := e0
        obtain ⟨b, o, arr, t, fz, rfl, hh, hxx⟩ := h3 (by omega)
        refine ⟨b, o, rfl, ?_, by omega⟩
        rw [hcell_of hh]
        exact hxx i _ (by rw [List.getElem?_map, hx]; rfl)
      rw [← hR] at hrt ⊢
      have HRT := Lib.hid (And.intro hrt (And.intro hR hR2))
      clear hrt hR hx
      have hstep : jstep R x = nib (nib (R ^^^ x.toNat)) := rfl
      have HX := Lib.hid hstep
      clear hstep
      obtain ⟨X8, hX8⟩ : ∃ X8, X8 = x.toNat := ⟨_, rfl⟩
      have hx8 : X8 < 256 := by rw [hX8]; exact x.toNat_lt
      rw [← hX8] at hc0
      have e0 : (X8 : Int) % 4294967296 = (X8 : Int) := by omega
      obtain ⟨A, hA⟩ : ∃ A, A = R ^^^ X8 := ⟨_, rfl⟩
      have hA2 : A < 4294967296 := by rw [hA]; exact Nat.xor_lt_two_pow (n := 32) hR2 (by omega)
      have e1 : bits BinOp.xor IntKind.u32 (R : Int) (X8 : Int) = (A : Int) := by rw [hA]; exact u32_xor_nat R X8 hR2 (by omega)
      obtain ⟨k, hk⟩ : ∃ k, k = A % 16 := ⟨_, rfl⟩
      obtain ⟨A4, hA4⟩ : ∃ A4, A4 = A / 16 := ⟨_, rfl⟩
      obtain ⟨T, hT⟩ : ∃ T, T = jtab.getD k 0 := ⟨_, rfl⟩
      obtain ⟨B, hB⟩ : ∃ B, B = A4 ^^^ T := ⟨_, rfl⟩
      have hT2 : T < 4294967296 := by rw [hT]; exact tab_lt _
      have hB2 : B < 4294967296 := by rw [hB]; exact Nat.xor_lt_two_pow (n := 32) (by omega) hT2
      have e2 : bits BinOp.and IntKind.u32 (A : Int) 15 = (k : Int) := by rw [hk]; exact u32_and15 A hA2
      have hk0 : (0 : Int) ≤ (k : Int) := by omega
      have hk1 : (k : Int) < 16 := by omega
      have q1 : w1.cell? ⟨1, k, none⟩ = some (.int .u32 (T : Int)) := by rw [hT]; exact (HG.out.chg HW1.out.2).tab k (by omega)
      have e3 : (A : Int) / 16 = (A4 : Int) := by omega
      have e4 : bits BinOp.xor IntKind.u32 (A4 : Int) (T : Int) = (B : Int) := by rw [hB]; exact u32_xor_nat A4 T (by omega) hT2
      obtain ⟨m, hm⟩ : ∃ m, m = B % 16 := ⟨_, rfl⟩
      obtain ⟨B4, hB4⟩ : ∃ B4, B4 = B / 16 := ⟨_, rfl⟩
      obtain ⟨U, hU⟩ : ∃ U, U = jtab.getD m 0 := ⟨_, rfl⟩
      obtain ⟨C, hC⟩ : ∃ C, C = B4 ^^^ U := ⟨_, rfl⟩
      have hU2 : U < 4294967296 := by rw [hU]; exact tab_lt _
      have e5 : bits BinOp.and IntKind.u32 (B : Int) 15 = (m : Int) := by rw [hm]; exact u32_and15 B hB2
      have hm0 : (0 : Int) ≤ (m : Int) := by omega
      have hm1 : (m : Int) < 16 := by omega
      have q2 : w1.cell? ⟨1, m, none⟩ = some (.int .u32 (U : Int)) := by rw [hU]; exact (HG.out.chg HW1.out.2).tab m (by omega)
      have e6 : (B : Int) / 16 = (B4 : Int) := by omega
      have e7 : bits BinOp.xor IntKind.u32 (B4 : Int) (U : Int) = (C : Int) := by rw [hC]; exact u32_xor_nat B4 U (by omega) hU2
      have hfin : jreg (bs.take (i + 1)) = C := by
        have hnA : nib A = B := by unfold nib; rw [← hk, ← hA4, ← hT, ← hB]
        have hnB : nib B = C := by unfold nib; rw [← hm, ← hB4, ← hU, ← hC]
        rw [HRT.out.1, HX.out, ← hX8, ← hA, hnA, hnB]
      have HF := Lib.hid hfin
      clear hfin hX8 hA hk hA4 hT hB hm hB4 hU hC hx8 hA2 hB2 hT2 hU2 hR2
      go_wp2
      go_roundw
      case rel => exact ⟨by trivial, i + 1, by go_num, by omega, by rw [HF.out]⟩
      case measure => simp [Lib.intOf]; omega
    · obtain ⟨R, hR⟩ : ∃ R, R = jreg (bs.take i) := ⟨_, rfl⟩
      have hR2 : R < 4294967296 := by rw [hR]; exact reg_lt _
      obtain ⟨K, hK⟩ : ∃ K, K = 4294967295 ^^^ R := ⟨_, rfl⟩
      have hK2 : K = crc bs := by rw [hK, hR, List.take_of_length_le (by omega)]; rfl
      have e1 : bits BinOp.xor IntKind.u32 IntKind.u32.max (R : Int) = (K : Int) := by
        rw [hK]; exact u32_xor_nat 4294967295 R (by decide) hR2
      rw [← hR]
      have hb1 : w1.heap[w.heap.size]? = some (.cells #[.int .u8 0, .int .u8 0, .int .u8 0, .int .u8 0] 79) := by rw [HW1.out.1]; exact halloc_at w _
      have z0 := hfree_of hb1 0
      have z1 := hfree_of hb1 1
      have z2 := hfree_of hb1 2
      have z3 := hfree_of hb1 3
      have y0 := hcell_of hb1 0
      have y1 := hcell_of hb1 1
      have y2 := hcell_of hb1 2
      have y3 := hcell_of hb1 3
      simp only [List.getElem?_toArray, List.getElem?_cons_zero, List.getElem?_cons_succ] at y0 y1 y2 y3
      have HK2 := Lib.hid hK2
      have HB1 := Lib.hid hb1
      clear hR hR2 hK hK2 hb1
      go_wp2
      (try simp only [Exit.inBlock, Exit.then])
      refine bodyPost_ret (results_cell1 (p := 2) (cs := #[.int .u8 ((K : Int) / 16777216 % 256), .int .u8 ((K : Int) / 65536 % 256), .int .u8 ((K : Int) / 256 % 256), .int .u8 ((K : Int) % 256)]) rfl _ _ w.heap.size 79 (0, 0) _ rfl ?_ Tryd.underlying79 rfl info_sum) rfl ?_
      · simp only [hset, if_true]
        rw [HB1.out]
        simp [objSet]
      · refine ⟨?_, HW1.out.2.trans (chg4 w1 w.heap.size _ _ _ _) fun k hk => .inr (by rw [hk]; exact Nat.le_refl _)⟩
        rw [jsum, ← HK2.out]
        show Ending.returned (.agg #[_, _, _, _]) = Ending.returned (.agg #[u8 _, u8 _, u8 _, u8 _])
        rw [u8_nat, u8_nat, u8_nat, u8_nat]
        simp
end
end Go.Proofs
namespace Go.Proofs
open Go.RowKit Go.Hp Go.Dm Go.Dr Go.Jn
set_option linter.unusedVariables false
set_option maxRecDepth 10000
theorem ob_new (w : World) (l : List UInt8) (hl : l.length ≤ maxLen) : OB (w.alloc (.cells (l.map u8).toArray 5)) 5 (.slice (some ⟨w.heap.size, 0, none⟩) l.length l.length) l := by
  have h := OC_new w 1 5 (l.map u8).toArray l.length l.length (Nat.le_refl _) hl (by simp)
  have e : ((l.map u8).toArray.toList.take (l.length * 1)) = l.map u8 := by rw [List.take_of_length_le (by simp)]
  rw [e] at h
  exact h
theorem be4_cells {k : Nat} (h : k ≤ 4294967295) : (#[.int .u8 ((k : Int) / 16777216), .int .u8 ((k : Int) / 65536 % 256), .int .u8 ((k : Int) / 256 % 256), .int .u8 ((k : Int) % 256)] : Array Value) = ((be4 k).map u8).toArray := by
  show _ = #[u8 _, u8 _, u8 _, u8 _]
  rw [u8_nat, u8_nat, u8_nat, u8_nat]
  have : k / 16777216 % 256 = k / 16777216 := by omega
  rw [this]
  simp
theorem be3_cells {k : Nat} (h : k ≤ 16777215) : (#[.int .u8 ((k : Int) / 65536), .int .u8 ((k : Int) / 256 % 256), .int .u8 ((k : Int) % 256)] : Array Value) = ((be3 k).map u8).toArray := by
  show _ = #[u8 _, u8 _, u8 _]
  rw [u8_nat, u8_nat, u8_nat]
  have : k / 65536 % 256 = k / 65536 := by omega
  rw [this]
  simp
theorem made_ob (w : World) {C : Nat} (hC : C ≤ 1099511627776) : OB (w.alloc (.cells (madeCells #[.int .u8 0] C) 5)) 5 (.slice (some ⟨w.heap.size, 0, none⟩) 0 C) [] := by
  have h := OC_new w 1 5 (madeCells #[.int .u8 0] C) 0 C (Nat.zero_le _) (by unfold maxLen; omega) (by rw [size_madeCells, Nat.mul_one])
  rw [Nat.zero_mul, List.take_zero] at h
  exact h
theorem sblk_new {b k n c : Nat} (h : sblk (.slice (some ⟨b, 0, none⟩) n c) = some k) : k = b := by
  by_cases hc : c = 0
  · subst hc; cases h
  · rw [sblk_some hc] at h
    exact (Option.some.inj h).symm
theorem comp_cell (x : UInt8) : Value.int .u8 (bits BinOp.xor IntKind.u8 IntKind.u8.max (x.toNat : Int)) = u8 (255 ^^^ x) := by
  have h := u8_xor_nat 255 x.toNat (by decide) x.toNat_lt
  show Value.int .u8 (bits BinOp.xor IntKind.u8 ((255 : Nat) : Int) (x.toNat : Int)) = _
  rw [h]
  show _ = Value.int .u8 ((255 ^^^ x).toNat : Int)
  rw [UInt8.toNat_xor]; rfl
theorem rb_box {w : World} {b : Nat} {l : List UInt8} {t : TypeId} {fz : Nat × Nat} (h : w.heap[b]? = some (.cells (l.map u8).toArray t fz)) : RB w (.slice (some ⟨b, 0, none⟩) l.length l.length) l :=
  ⟨_, _, rfl, Nat.le_refl _, by simp, fun _ => ⟨b, 0, _, t, fz, rfl, h, fun i u hu => by simpa using hu⟩⟩
section
variable {w : World} {bs : List UInt8} {p : Option Addr} {c : Nat}
set_option maxHeartbeats 4000000 in
theorem payload_any {k : Nat} (hk : k ≤ 2147483647) (hb : RB w (.slice p bs.length c) bs) (hl : bs.length ≤ 1099511627776) :
    Calls Tryd.prog 35 #[.int .i64 (k : Int), .slice p bs.length c] w (FreshB w (jpay k bs)) := by
  have HB := Lib.hid hb
  have HL := Lib.hid (And.intro hl hk)
  have ik : (k : Int) ≤ 2147483647 := by omega
  have ik0 : (0 : Int) ≤ (k : Int) := by omega
  clear hb hl hk
  go_enter Tryd.func35, Tryd.ntmps35
  go_wp2_with (first | (at_builtin; refine stop ?_))
  refine go ?_
  rw [be4_cells (by have := HL.out.2; omega)]
  have HB2 := Lib.hid (RC.chg HB.out ((Chg.refl (fun _ => False) w).alloc (.cells ((be4 k).map u8).toArray 5)) fun _ _ h => h)
  refine wpList_append_bytes rfl _ _ rfl (v := .slice (some ⟨w.heap.size, 0, none⟩) 4 4) (l := be4 k) rfl rfl (ob_new w (be4 k) (by rw [be4_len]; unfold maxLen; decide)) HB2.out (by have := HL.out.1; rw [be4_len]; omega) ?_
  intro pv lv cv w' h1 h2 h3 h4
  have H1 := Lib.hid h1
  have H2 := Lib.hid (((Chg.refl (fun _ => False) w).alloc (.cells ((be4 k).map u8).toArray 5)).trans h2 fun b hb => .inr (by
    have : w.heap.size = b := by simpa [sblk] using hb
    omega))
  have H3 := Lib.hid (show ∀ b, sblk (.slice pv lv cv) = some b → w.heap.size ≤ b from fun b hb => (h3 b hb).elim (fun h => by
    have : w.heap.size = b := by simpa [sblk] using h
    omega) fun h => by simp at h; omega)
  clear h1 h2 h3 h4
  go_wp2
  go_ret
  exact ⟨_, rfl, H1.out, H2.out, H3.out⟩
set_option maxHeartbeats 4000000 in
theorem wrap_any (hg : Gl w) (hb : RB w (.slice p bs.length c) bs) (hl : bs.length ≤ 131072) :
    Calls Tryd.prog 22 #[.slice p bs.length c] w fun e w' => ∃ v, e = .returned (.tuple #[v, .int .i64 0]) ∧ OB w' 5 v (jwrap bs) ∧ Chg (fun _ => False) w w' ∧ ∀ b, sblk v = some b → w.heap.size ≤ b := by
  have HB := Lib.hid hb
  have HG := Lib.hid hg
  have HCK := Lib.hid (fun (w' : World) (h : Chg (fun _ => False) w w') => checksum_any (hg.chg h) (RC.chg hb h fun _ _ h => h) (by omega))
  have HL := Lib.hid hl
  have ibl : (bs.length : Int) ≤ 131072 := by omega
  have ibl0 : (0 : Int) ≤ (bs.length : Int) := by omega
  clear hb hl hg
  go_enter Tryd.func22, Tryd.ntmps22
  go_wp2_with (first | (go_at_call 41; refine stop ?_))
  refine go ?_
  rw [be3_cells (by have := HL.out; omega)]
  have m1 := (Many.nil w).addBox (.cells ((be3 bs.length).map u8).toArray 77)
  obtain ⟨s0, s1, s2, s3, hs⟩ : ∃ s0 s1 s2 s3, jsum bs = [s0, s1, s2, s3] := ⟨_, _, _, _, rfl⟩
  have hck := HCK.out _ m1.chg
  rw [hs] at hck
  refine hck.mono ?_
  rintro e w1 ⟨rfl, c1⟩
  have m2 := (m1.quiet c1).addBox (.cells #[.int .u8 (s0.toNat : Int), .int .u8 (s1.toNat : Int), .int .u8 (s2.toNat : Int), .int .u8 (s3.toNat : Int)] 79)
  obtain ⟨C, hC⟩ : ∃ C, C = 12 + bs.length := ⟨_, rfl⟩
  have hC2 : C ≤ 1099511627776 := by have := HL.out; omega
  have hmk := run_make_room (P := Tryd.prog) 33 5 (.int .u8 0) 1 Tryd.underlying33 info_u8 rfl .i64 .i64 C (by omega) (by omega) (w1.alloc (.cells #[.int .u8 (s0.toNat : Int), .int .u8 (s1.toNat : Int), .int .u8 (s2.toNat : Int), .int .u8 (s3.toNat : Int)] 79))
  rw [show (C : Int) = 12 + (bs.length : Int) by omega] at hmk
  have m3 := Many.addBytes m2 (made_ob _ hC2) ((Chg.refl _ _).alloc _) (fun b hb => by rw [sblk_new hb]; exact Nat.le_refl _)
  rw [halloc_size] at m3
  have HC := Lib.hid hC
  have M3 := Lib.hid m3
  have HS := Lib.hid hs
  clear m1 c1 m2 m3 hck hs hC hC2
  simp only [List.map_cons, List.map_nil]
  go_wp2_with (first | (at_builtin; refine stop ?_))
  refine go ?_
  have hsz : ((w1.alloc (.cells #[.int .u8 (s0.toNat : Int), .int .u8 (s1.toNat : Int), .int .u8 (s2.toNat : Int), .int .u8 (s3.toNat : Int)] 79)).alloc (.cells (madeCells #[.int .u8 0] C) 5)).heap.size = w1.heap.size + 1 + 1 := by rw [halloc_size, halloc_size]
  generalize (w1.alloc (.cells #[.int .u8 (s0.toNat : Int), .int .u8 (s1.toNat : Int), .int .u8 (s2.toNat : Int), .int .u8 (s3.toNat : Int)] 79)).alloc (.cells (madeCells #[.int .u8 0] C) 5) = w3 at M3 hsz ⊢
  obtain ⟨b4, hb4⟩ : ∃ b4, b4 = w1.heap.size := ⟨_, rfl⟩
  obtain ⟨b3, hb3⟩ : ∃ b3, b3 = w.heap.size := ⟨_, rfl⟩
  rw [← hb4] at hsz
  rw [← hb4, ← hb3] at M3 ⊢
  have hr1 := rb_new w3 [199, 157] 5 (0, 0)
  rw [hsz] at hr1
  clear hmk
  obtain ⟨lb, hlb⟩ : ∃ lb, lb = be3 bs.length := ⟨_, rfl⟩
  rw [← hlb] at M3
  have HLB := Lib.hid hlb
  have hll : lb.length = 3 := by rw [hlb]; rfl
  obtain ⟨l0, l1, l2, hl3⟩ : ∃ l0 l1 l2, lb = [l0, l1, l2] := ⟨_, _, _, hlb⟩
  subst hl3
  clear hlb hll hb4 hb3 hsz
  have M4 := Lib.hid (M3.out.alloc (.cells #[.int .u8 199, .int .u8 157] 5))
  refine wpList_append_bytes rfl _ _ rfl (v := .slice (some ⟨b4 + 1, 0, none⟩) 0 C) (l := []) (m := [199, 157]) rfl rfl M4.out.first hr1 (by simp) ?_
  intro pv lv cv w4 a1 a2 a3 a4
  have M5 := Lib.hid (M4.out.growBytes a1 a2 a3)
  clear a1 a2 a3 a4
  go_wp2_with (first | (at_builtin; refine stop ?_))
  refine go ?_
  refine wpList_append_bytes rfl _ _ rfl (v := .slice pv lv cv) (l := [] ++ [199, 157]) (m := [l0, l1, l2]) rfl rfl M5.out.first (rb_box (b := b3) (l := [l0, l1, l2]) (M5.out.get (x := Ent.box b3 (.cells ([l0, l1, l2].map u8).toArray 77)) (by simp))) (by simp) ?_
  intro pv5 lv5 cv5 w5 a1 a2 a3 a4
  have M6 := Lib.hid (M5.out.growBytes a1 a2 a3)
  have hbx := M6.out.get (x := Ent.box b3 (.cells ([l0, l1, l2].map u8).toArray 77)) (by simp)
  have q0 := hcell_of hbx 0
  have q1 := hcell_of hbx 1
  have q2 := hcell_of hbx 2
  simp only [List.map_cons, List.map_nil, List.getElem?_toArray, List.getElem?_cons_zero, List.getElem?_cons_succ] at q0 q1 q2
  clear a1 a2 a3 a4 hbx
  go_wp2_with (first | (at_builtin; refine stop ?_))
  refine go ?_
  rw [comp_cell, comp_cell, comp_cell]
  have M7 := Lib.hid (M6.out.alloc (.cells #[u8 (255 ^^^ l0), u8 (255 ^^^ l1), u8 (255 ^^^ l2)] 5))
  refine wpList_append_bytes rfl _ _ rfl (v := .slice pv5 lv5 cv5) (l := [] ++ [199, 157] ++ [l0, l1, l2]) (m := [255 ^^^ l0, 255 ^^^ l1, 255 ^^^ l2]) rfl rfl M7.out.first (rb_new w5 [255 ^^^ l0, 255 ^^^ l1, 255 ^^^ l2] 5 (0, 0)) (by simp) ?_
  intro pv6 lv6 cv6 w6 a1 a2 a3 a4
  have M8 := Lib.hid (M7.out.growBytes a1 a2 a3)
  clear a1 a2 a3 a4 q0 q1 q2
  go_wp2_with (first | (at_builtin; refine stop ?_))
  refine go ?_
  refine wpList_append_bytes rfl _ _ rfl (v := .slice pv6 lv6 cv6) (l := [] ++ [199, 157] ++ [l0, l1, l2] ++ [255 ^^^ l0, 255 ^^^ l1, 255 ^^^ l2]) (m := [s0, s1, s2, s3]) rfl rfl M8.out.first (rb_box (b := b4) (l := [s0, s1, s2, s3]) (M8.out.get (x := Ent.box b4 (.cells ([s0, s1, s2, s3].map u8).toArray 79)) (by simp [u8]))) (by simp) ?_
  intro pv7 lv7 cv7 w7 a1 a2 a3 a4
  have M9 := Lib.hid (M8.out.growBytes a1 a2 a3)
  clear a1 a2 a3 a4
  go_wp2_with (first | (at_builtin; refine stop ?_))
  refine go ?_
  refine wpList_append_bytes rfl _ _ rfl (v := .slice pv7 lv7 cv7) (l := [] ++ [199, 157] ++ [l0, l1, l2] ++ [255 ^^^ l0, 255 ^^^ l1, 255 ^^^ l2] ++ [s0, s1, s2, s3]) (m := bs) rfl rfl M9.out.first (RC.chg HB.out M9.out.chg fun _ _ h => h) (by have := HL.out; simp; omega) ?_
  intro pv8 lv8 cv8 w8 a1 a2 a3 a4
  have m10 := M9.out.growBytes a1 a2 a3
  have e : [] ++ [199, 157] ++ [l0, l1, l2] ++ [255 ^^^ l0, 255 ^^^ l1, 255 ^^^ l2] ++ [s0, s1, s2, s3] ++ bs = jwrap bs := by
    unfold jwrap
    rw [← HLB.out, HS.out]
    rfl
  rw [e] at m10
  have M10 := Lib.hid m10
  clear a1 a2 a3 a4 m10 e
  go_wp2
  go_ret2
  exact ⟨_, rfl, M10.out.first, M10.out.chg, fun b hb => M10.out.new _ (List.mem_cons_self ..) b (by simpa [Ent.bytes] using hb)⟩
end
end Go.Proofs
namespace Go.Proofs
open Go.RowKit Go.Hp
set_option linter.unusedVariables false
set_option maxRecDepth 10000
theorem info8 : (sizeOf 5).run Tryd.prog = fun w => .ok 1 w := by kernel_rfl
theorem eqb (d : Nat) (a b : Int) (w : World) : (Op.equalIn (d + 1) 5 (.int .u8 a) (.int .u8 b)).run Tryd.prog w = .ok (a == b) w := run_equalIn_int w d _ .u8 .u8 a b Tryd.underlying5
theorem und3 : Tryd.prog.underlying 77 = some (.array 3 5) := by kernel_rfl
theorem und4 : Tryd.prog.underlying 78 = some (.array 4 5) := by kernel_rfl
theorem undS : Tryd.prog.underlying 79 = some (.array 4 5) := by kernel_rfl
theorem eq3 (a b c p q r : Int) (w : World) : (Op.equalIn 10000 77 (.agg #[.int .u8 a, .int .u8 b, .int .u8 c]) (.agg #[.int .u8 p, .int .u8 q, .int .u8 r])).run Tryd.prog w = .ok (a == p && b == q && c == r) w := by
  have hh : ∀ (x y : Int) (w : World), (Op.equalIn 9999 5 (.int .u8 x) (.int .u8 y)).run Tryd.prog w = .ok (x == y) w := fun x y w => eqb 9998 x y w
  rw [show (10000 : Nat) = 9999 + 1 from rfl]
  unfold Op.equalIn
  simp only [Sem.run_bind, run_underlying und3, Result.andThen_ok, info8]
  rw [Std.Legacy.Range.forIn_eq_forIn_range']
  simp [List.range'_succ, part, hh]
  by_cases h0 : a = p <;> by_cases h1 : b = q <;> by_cases h2 : c = r <;> simp [h0, h1, h2]
theorem eq4 (a b c d p q r s : Int) (w : World) : (Op.equalIn 10000 78 (.agg #[.int .u8 a, .int .u8 b, .int .u8 c, .int .u8 d]) (.agg #[.int .u8 p, .int .u8 q, .int .u8 r, .int .u8 s])).run Tryd.prog w = .ok (a == p && b == q && c == r && d == s) w := by
  have hh : ∀ (x y : Int) (w : World), (Op.equalIn 9999 5 (.int .u8 x) (.int .u8 y)).run Tryd.prog w = .ok (x == y) w := fun x y w => eqb 9998 x y w
  rw [show (10000 : Nat) = 9999 + 1 from rfl]
  unfold Op.equalIn
  simp only [Sem.run_bind, run_underlying und4, Result.andThen_ok, info8]
  rw [Std.Legacy.Range.forIn_eq_forIn_range']
  simp [List.range'_succ, part, hh]
  by_cases h0 : a = p <;> by_cases h1 : b = q <;> by_cases h2 : c = r <;> by_cases h3 : d = s <;> simp [h0, h1, h2, h3]
theorem eqS (a b c d p q r s : Int) (w : World) : (Op.equalIn 10000 79 (.agg #[.int .u8 a, .int .u8 b, .int .u8 c, .int .u8 d]) (.agg #[.int .u8 p, .int .u8 q, .int .u8 r, .int .u8 s])).run Tryd.prog w = .ok (a == p && b == q && c == r && d == s) w := by
  have hh : ∀ (x y : Int) (w : World), (Op.equalIn 9999 5 (.int .u8 x) (.int .u8 y)).run Tryd.prog w = .ok (x == y) w := fun x y w => eqb 9998 x y w
  rw [show (10000 : Nat) = 9999 + 1 from rfl]
  unfold Op.equalIn
  simp only [Sem.run_bind, run_underlying undS, Result.andThen_ok, info8]
  rw [Std.Legacy.Range.forIn_eq_forIn_range']
  simp [List.range'_succ, part, hh]
  by_cases h0 : a = p <;> by_cases h1 : b = q <;> by_cases h2 : c = r <;> by_cases h3 : d = s <;> simp [h0, h1, h2, h3]
theorem i64_or_nat (a b : Nat) (ha : a < 4611686018427387904) (hb : b < 4611686018427387904) : bits .or .i64 (a : Int) (b : Int) = ((a ||| b : Nat) : Int) := by
  have hx : a ||| b < 2 ^ 62 := Nat.or_lt_two_pow (by omega) (by omega)
  have h1 : (BitVec.ofInt 64 (a : Int)).toNat = a := by rw [BitVec.ofInt_natCast, BitVec.toNat_ofNat]; exact Nat.mod_eq_of_lt (by omega)
  have h2 : (BitVec.ofInt 64 (b : Int)).toNat = b := by rw [BitVec.ofInt_natCast, BitVec.toNat_ofNat]; exact Nat.mod_eq_of_lt (by omega)
  show IntKind.i64.wrap ((BitVec.ofInt 64 (a : Int) ||| BitVec.ofInt 64 (b : Int)).toNat : Int) = _
  rw [BitVec.toNat_or, h1, h2]
  simp [IntKind.wrap, IntKind.bits, IntKind.signed]
  omega
theorem val_bits (y0 y1 y2 : UInt8) : bits BinOp.or IntKind.i64 (bits BinOp.or IntKind.i64 (wrap64 (wrap64 (y0.toNat : Int) * 65536)) (wrap64 (wrap64 (y1.toNat : Int) * 256))) (wrap64 (y2.toNat : Int)) = ((Go.Jn.val3 y0 y1 y2 : Nat) : Int) := by
  have h0 := y0.toNat_lt
  have h1 := y1.toNat_lt
  have h2 := y2.toNat_lt
  have w0 : wrap64 (wrap64 (y0.toNat : Int) * 65536) = ((y0.toNat * 65536 : Nat) : Int) := by unfold wrap64; omega
  have w1 : wrap64 (wrap64 (y1.toNat : Int) * 256) = ((y1.toNat * 256 : Nat) : Int) := by unfold wrap64; omega
  have w2 : wrap64 (y2.toNat : Int) = ((y2.toNat : Nat) : Int) := by unfold wrap64; omega
  rw [w0, w1, w2, i64_or_nat _ _ (by omega) (by omega)]
  have e1 : y0.toNat * 65536 ||| y1.toNat * 256 = y0.toNat * 65536 + y1.toNat * 256 := by
    have := Nat.two_pow_add_eq_or_of_lt (i := 16) (b := y1.toNat * 256) (by rw [show (2 : Nat) ^ 16 = 65536 from rfl]; omega) y0.toNat
    rw [show (2 : Nat) ^ 16 = 65536 from rfl, Nat.mul_comm 65536] at this
    exact this.symm
  rw [e1, i64_or_nat _ _ (by omega) (by omega)]
  have e2 : (y0.toNat * 65536 + y1.toNat * 256) ||| y2.toNat = y0.toNat * 65536 + y1.toNat * 256 + y2.toNat := by
    have := Nat.two_pow_add_eq_or_of_lt (i := 8) (b := y2.toNat) (by rw [show (2 : Nat) ^ 8 = 256 from rfl]; omega) (y0.toNat * 256 + y1.toNat)
    have e3 : (2 : Nat) ^ 8 * (y0.toNat * 256 + y1.toNat) = y0.toNat * 65536 + y1.toNat * 256 := by rw [show (2 : Nat) ^ 8 = 256 from rfl]; omega
    rw [e3] at this
    exact this.symm
  rw [e2, Go.Jn.val3]
end Go.Proofs
