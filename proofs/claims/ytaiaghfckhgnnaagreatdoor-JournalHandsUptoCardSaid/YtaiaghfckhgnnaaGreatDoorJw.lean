/- journal.payload and frame.Wrap. Conditions: the bytes are read; numbers below 2^31. -/
import Derived.Test.YtaiaghfckhgnnaaGreatDoorJc
import Derived.Lib.JoinLaws
namespace Go.Proofs
open Go.RowKit Go.Hp Go.Dm Go.Dr Go.Jn
set_option linter.unusedVariables false
set_option maxRecDepth 10000
theorem ob_new (w : World) (l : List UInt8) (hl : l.length ≤ maxLen) : OB (w.alloc (.cells (l.map u8).toArray 5)) 5 (.slice (some ⟨w.heap.size, 0, none⟩) l.length l.length) l := by
  have h := OC_new w 1 5 (l.map u8).toArray l.length l.length (Nat.le_refl _) hl (by simp)
  have e : ((l.map u8).toArray.toList.take (l.length * 1)) = l.map u8 := by rw [List.take_of_length_le (by simp)]
  rw [e] at h
  exact h
theorem be4_cells {k : Nat} (h : k ≤ 4294967295) : (#[.int .u8 ((k : Int) / 16777216), .int .u8 ((k : Int) / 65536 % 256), .int .u8 ((k : Int) / 256 % 256), .int .u8 ((k : Int) % 256)] : Array Value) = ((be4 k).map u8).toArray := by
  show _ = #[u8 _, u8 _, u8 _, u8 _]
  rw [u8_nat, u8_nat, u8_nat, u8_nat]
  have : k / 16777216 % 256 = k / 16777216 := by omega
  rw [this]
  simp
theorem be3_cells {k : Nat} (h : k ≤ 16777215) : (#[.int .u8 ((k : Int) / 65536), .int .u8 ((k : Int) / 256 % 256), .int .u8 ((k : Int) % 256)] : Array Value) = ((be3 k).map u8).toArray := by
  show _ = #[u8 _, u8 _, u8 _]
  rw [u8_nat, u8_nat, u8_nat]
  have : k / 65536 % 256 = k / 65536 := by omega
  rw [this]
  simp
theorem made_ob (w : World) {C : Nat} (hC : C ≤ 1099511627776) : OB (w.alloc (.cells (madeCells #[.int .u8 0] C) 5)) 5 (.slice (some ⟨w.heap.size, 0, none⟩) 0 C) [] := by
  have h := OC_new w 1 5 (madeCells #[.int .u8 0] C) 0 C (Nat.zero_le _) (by unfold maxLen; omega) (by rw [size_madeCells, Nat.mul_one])
  rw [Nat.zero_mul, List.take_zero] at h
  exact h
theorem sblk_new {b k n c : Nat} (h : sblk (.slice (some ⟨b, 0, none⟩) n c) = some k) : k = b := by
  by_cases hc : c = 0
  · subst hc; cases h
  · rw [sblk_some hc] at h
    exact (Option.some.inj h).symm
theorem comp_cell (x : UInt8) : Value.int .u8 (bits BinOp.xor IntKind.u8 IntKind.u8.max (x.toNat : Int)) = u8 (255 ^^^ x) := by
  have h := u8_xor_nat 255 x.toNat (by decide) x.toNat_lt
  show Value.int .u8 (bits BinOp.xor IntKind.u8 ((255 : Nat) : Int) (x.toNat : Int)) = _
  rw [h]
  show _ = Value.int .u8 ((255 ^^^ x).toNat : Int)
  rw [UInt8.toNat_xor]; rfl
theorem rb_box {w : World} {b : Nat} {l : List UInt8} {t : TypeId} {fz : Nat × Nat} (h : w.heap[b]? = some (.cells (l.map u8).toArray t fz)) : RB w (.slice (some ⟨b, 0, none⟩) l.length l.length) l :=
  ⟨_, _, rfl, Nat.le_refl _, by simp, fun _ => ⟨b, 0, _, t, fz, rfl, h, fun i u hu => by simpa using hu⟩⟩
section
variable {w : World} {bs : List UInt8} {p : Option Addr} {c : Nat}
set_option maxHeartbeats 4000000 in
theorem payload_any {k : Nat} (hk : k ≤ 2147483647) (hb : RB w (.slice p bs.length c) bs) (hl : bs.length ≤ 1099511627776) :
    Calls Tryz.prog 57 #[.int .i64 (k : Int), .slice p bs.length c] w (FreshB w (jpay k bs)) := by
  have HB := Lib.hid hb
  have HL := Lib.hid (And.intro hl hk)
  have ik : (k : Int) ≤ 2147483647 := by omega
  have ik0 : (0 : Int) ≤ (k : Int) := by omega
  clear hb hl hk
  go_enter Tryz.func57, Tryz.ntmps57
  go_wp2_with (first | (at_builtin; refine stop ?_))
  refine go ?_
  rw [be4_cells (by have := HL.out.2; omega)]
  have HB2 := Lib.hid (RC.chg HB.out ((Chg.refl (fun _ => False) w).alloc (.cells ((be4 k).map u8).toArray 5)) fun _ _ h => h)
  refine wpList_append_bytes rfl _ _ rfl (v := .slice (some ⟨w.heap.size, 0, none⟩) 4 4) (l := be4 k) rfl rfl (ob_new w (be4 k) (by rw [be4_len]; unfold maxLen; decide)) HB2.out (by have := HL.out.1; rw [be4_len]; omega) ?_
  intro pv lv cv w' h1 h2 h3 h4
  have H1 := Lib.hid h1
  have H2 := Lib.hid (((Chg.refl (fun _ => False) w).alloc (.cells ((be4 k).map u8).toArray 5)).trans h2 fun b hb => .inr (by
    have : w.heap.size = b := by simpa [sblk] using hb
    omega))
  have H3 := Lib.hid (show ∀ b, sblk (.slice pv lv cv) = some b → w.heap.size ≤ b from fun b hb => (h3 b hb).elim (fun h => by
    have : w.heap.size = b := by simpa [sblk] using h
    omega) fun h => by simp at h; omega)
  clear h1 h2 h3 h4
  go_wp2
  go_ret
  exact ⟨_, rfl, H1.out, H2.out, H3.out⟩
set_option maxHeartbeats 4000000 in
theorem wrap_any (hg : Gl w) (hb : RB w (.slice p bs.length c) bs) (hl : bs.length ≤ 131072) :
    Calls Tryz.prog 14 #[.slice p bs.length c] w fun e w' => ∃ v, e = .returned (.tuple #[v, .int .i64 0]) ∧ OB w' 5 v (jwrap bs) ∧ Chg (fun _ => False) w w' ∧ ∀ b, sblk v = some b → w.heap.size ≤ b := by
  have HB := Lib.hid hb
  have HG := Lib.hid hg
  have HCK := Lib.hid (fun (w' : World) (h : Chg (fun _ => False) w w') => checksum_any (hg.chg h) (RC.chg hb h fun _ _ h => h) (by omega))
  have HL := Lib.hid hl
  have ibl : (bs.length : Int) ≤ 131072 := by omega
  have ibl0 : (0 : Int) ≤ (bs.length : Int) := by omega
  clear hb hl hg
  go_enter Tryz.func14, Tryz.ntmps14
  go_wp2_with (first | (go_at_call 43; refine stop ?_))
  refine go ?_
  rw [be3_cells (by have := HL.out; omega)]
  have m1 := (Many.nil w).addBox (.cells ((be3 bs.length).map u8).toArray 101)
  obtain ⟨s0, s1, s2, s3, hs⟩ : ∃ s0 s1 s2 s3, jsum bs = [s0, s1, s2, s3] := ⟨_, _, _, _, rfl⟩
  have hck := HCK.out _ m1.chg
  rw [hs] at hck
  refine hck.mono ?_
  rintro e w1 ⟨rfl, c1⟩
  have m2 := (m1.quiet c1).addBox (.cells #[.int .u8 (s0.toNat : Int), .int .u8 (s1.toNat : Int), .int .u8 (s2.toNat : Int), .int .u8 (s3.toNat : Int)] 103)
  obtain ⟨C, hC⟩ : ∃ C, C = 12 + bs.length := ⟨_, rfl⟩
  have hC2 : C ≤ 1099511627776 := by have := HL.out; omega
  have hmk := run_make_room (P := Tryz.prog) 23 5 (.int .u8 0) 1 Tryz.underlying23 info_u8 rfl .i64 .i64 C (by omega) (by omega) (w1.alloc (.cells #[.int .u8 (s0.toNat : Int), .int .u8 (s1.toNat : Int), .int .u8 (s2.toNat : Int), .int .u8 (s3.toNat : Int)] 103))
  rw [show (C : Int) = 12 + (bs.length : Int) by omega] at hmk
  have m3 := Many.addBytes m2 (made_ob _ hC2) ((Chg.refl _ _).alloc _) (fun b hb => by rw [sblk_new hb]; exact Nat.le_refl _)
  rw [halloc_size] at m3
  have HC := Lib.hid hC
  have M3 := Lib.hid m3
  have HS := Lib.hid hs
  clear m1 c1 m2 m3 hck hs hC hC2
  simp only [List.map_cons, List.map_nil]
  go_wp2_with (first | (at_builtin; refine stop ?_))
  refine go ?_
  have hsz : ((w1.alloc (.cells #[.int .u8 (s0.toNat : Int), .int .u8 (s1.toNat : Int), .int .u8 (s2.toNat : Int), .int .u8 (s3.toNat : Int)] 103)).alloc (.cells (madeCells #[.int .u8 0] C) 5)).heap.size = w1.heap.size + 1 + 1 := by rw [halloc_size, halloc_size]
  generalize (w1.alloc (.cells #[.int .u8 (s0.toNat : Int), .int .u8 (s1.toNat : Int), .int .u8 (s2.toNat : Int), .int .u8 (s3.toNat : Int)] 103)).alloc (.cells (madeCells #[.int .u8 0] C) 5) = w3 at M3 hsz ⊢
  obtain ⟨b4, hb4⟩ : ∃ b4, b4 = w1.heap.size := ⟨_, rfl⟩
  obtain ⟨b3, hb3⟩ : ∃ b3, b3 = w.heap.size := ⟨_, rfl⟩
  rw [← hb4] at hsz
  rw [← hb4, ← hb3] at M3 ⊢
  have hr1 := rb_new w3 [199, 157] 5 (0, 0)
  rw [hsz] at hr1
  clear hmk
  obtain ⟨lb, hlb⟩ : ∃ lb, lb = be3 bs.length := ⟨_, rfl⟩
  rw [← hlb] at M3
  have HLB := Lib.hid hlb
  have hll : lb.length = 3 := by rw [hlb]; rfl
  obtain ⟨l0, l1, l2, hl3⟩ : ∃ l0 l1 l2, lb = [l0, l1, l2] := ⟨_, _, _, hlb⟩
  subst hl3
  clear hlb hll hb4 hb3 hsz
  have M4 := Lib.hid (M3.out.alloc (.cells #[.int .u8 199, .int .u8 157] 5))
  refine wpList_append_bytes rfl _ _ rfl (v := .slice (some ⟨b4 + 1, 0, none⟩) 0 C) (l := []) (m := [199, 157]) rfl rfl M4.out.first hr1 (by simp) ?_
  intro pv lv cv w4 a1 a2 a3 a4
  have M5 := Lib.hid (M4.out.growBytes a1 a2 a3)
  clear a1 a2 a3 a4
  go_wp2_with (first | (at_builtin; refine stop ?_))
  refine go ?_
  refine wpList_append_bytes rfl _ _ rfl (v := .slice pv lv cv) (l := [] ++ [199, 157]) (m := [l0, l1, l2]) rfl rfl M5.out.first (rb_box (b := b3) (l := [l0, l1, l2]) (M5.out.get (x := Ent.box b3 (.cells ([l0, l1, l2].map u8).toArray 101)) (by simp))) (by simp) ?_
  intro pv5 lv5 cv5 w5 a1 a2 a3 a4
  have M6 := Lib.hid (M5.out.growBytes a1 a2 a3)
  have hbx := M6.out.get (x := Ent.box b3 (.cells ([l0, l1, l2].map u8).toArray 101)) (by simp)
  have q0 := hcell_of hbx 0
  have q1 := hcell_of hbx 1
  have q2 := hcell_of hbx 2
  simp only [List.map_cons, List.map_nil, List.getElem?_toArray, List.getElem?_cons_zero, List.getElem?_cons_succ] at q0 q1 q2
  clear a1 a2 a3 a4 hbx
  go_wp2_with (first | (at_builtin; refine stop ?_))
  refine go ?_
  rw [comp_cell, comp_cell, comp_cell]
  have M7 := Lib.hid (M6.out.alloc (.cells #[u8 (255 ^^^ l0), u8 (255 ^^^ l1), u8 (255 ^^^ l2)] 5))
  refine wpList_append_bytes rfl _ _ rfl (v := .slice pv5 lv5 cv5) (l := [] ++ [199, 157] ++ [l0, l1, l2]) (m := [255 ^^^ l0, 255 ^^^ l1, 255 ^^^ l2]) rfl rfl M7.out.first (rb_new w5 [255 ^^^ l0, 255 ^^^ l1, 255 ^^^ l2] 5 (0, 0)) (by simp) ?_
  intro pv6 lv6 cv6 w6 a1 a2 a3 a4
  have M8 := Lib.hid (M7.out.growBytes a1 a2 a3)
  clear a1 a2 a3 a4 q0 q1 q2
  go_wp2_with (first | (at_builtin; refine stop ?_))
  refine go ?_
  refine wpList_append_bytes rfl _ _ rfl (v := .slice pv6 lv6 cv6) (l := [] ++ [199, 157] ++ [l0, l1, l2] ++ [255 ^^^ l0, 255 ^^^ l1, 255 ^^^ l2]) (m := [s0, s1, s2, s3]) rfl rfl M8.out.first (rb_box (b := b4) (l := [s0, s1, s2, s3]) (M8.out.get (x := Ent.box b4 (.cells ([s0, s1, s2, s3].map u8).toArray 103)) (by simp [u8]))) (by simp) ?_
  intro pv7 lv7 cv7 w7 a1 a2 a3 a4
  have M9 := Lib.hid (M8.out.growBytes a1 a2 a3)
  clear a1 a2 a3 a4
  go_wp2_with (first | (at_builtin; refine stop ?_))
  refine go ?_
  refine wpList_append_bytes rfl _ _ rfl (v := .slice pv7 lv7 cv7) (l := [] ++ [199, 157] ++ [l0, l1, l2] ++ [255 ^^^ l0, 255 ^^^ l1, 255 ^^^ l2] ++ [s0, s1, s2, s3]) (m := bs) rfl rfl M9.out.first (RC.chg HB.out M9.out.chg fun _ _ h => h) (by have := HL.out; simp; omega) ?_
  intro pv8 lv8 cv8 w8 a1 a2 a3 a4
  have m10 := M9.out.growBytes a1 a2 a3
  have e : [] ++ [199, 157] ++ [l0, l1, l2] ++ [255 ^^^ l0, 255 ^^^ l1, 255 ^^^ l2] ++ [s0, s1, s2, s3] ++ bs = jwrap bs := by
    unfold jwrap
    rw [← HLB.out, HS.out]
    rfl
  rw [e] at m10
  have M10 := Lib.hid m10
  clear a1 a2 a3 a4 m10 e
  go_wp2
  go_ret2
  exact ⟨_, rfl, M10.out.first, M10.out.chg, fun b hb => M10.out.new _ (List.mem_cons_self ..) b (by simpa [Ent.bytes] using hb)⟩
end
end Go.Proofs
