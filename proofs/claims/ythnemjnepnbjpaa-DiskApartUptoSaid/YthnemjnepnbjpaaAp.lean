/- DiskApart's walk. Conditions: both scripts' ops lie as OpsAt says. -/
import Derived.Test.YthnemjnepnbjpaaAl
import Derived.Test.YthnemjnepnbjpaaMy
namespace Go.Proofs
open Go.RowKit Go.Hp Go.Dm Go.Dr
set_option linter.unusedVariables false
set_option maxRecDepth 10000
section
variable {w : World} {ops tops : List (OpP × Value)} {fv ov fv' ov' : Value}

set_option maxHeartbeats 8000000 in
theorem apart_bad_bad (n m : Int) (hn : n < 0 ∨ 1099511627776 < n) (hm : m < 0 ∨ 1099511627776 < m) :
    Calls Try.prog 8 #[.agg #[.int .i64 n, fv, ov], .agg #[.int .i64 m, fv', ov']] w fun e w' => e = .returned (.bool true) ∧ Chg (fun _ => False) w w' := by
  have HN := Lib.hid fun W => new_bad (w := W) n hn
  have HM := Lib.hid fun W => new_bad (w := W) m hm
  by_cases h0 : n < 0
  · by_cases g0 : m < 0
    · clear hn hm
      go_enter Try.func8, Try.ntmps8
      go_wp2_with (first | (go_at_call 16; refine (num_any _ _).mono ?_; rintro e w' ⟨rfl, rfl⟩) | (go_at_call 15; ((with_reducible refine (HN.out _).mono ?_); rintro e w' ⟨rfl, rfl⟩)) | (go_at_call 15; ((with_reducible refine (HM.out _).mono ?_); rintro e w' ⟨rfl, rfl⟩)) | (go_at_call 28; refine (awake_any _).mono ?_; rintro e w' ⟨rfl, hc⟩))
      go_ret
      exact ⟨rfl, (((Chg.refl (fun _ => False) w).alloc _).alloc _).trans hc (fun k hk => hk.elim)⟩
    · have g1 : 1099511627776 < m := by omega
      clear hn hm
      go_enter Try.func8, Try.ntmps8
      go_wp2_with (first | (go_at_call 16; refine (num_any _ _).mono ?_; rintro e w' ⟨rfl, rfl⟩) | (go_at_call 15; ((with_reducible refine (HN.out _).mono ?_); rintro e w' ⟨rfl, rfl⟩)) | (go_at_call 15; ((with_reducible refine (HM.out _).mono ?_); rintro e w' ⟨rfl, rfl⟩)) | (go_at_call 28; refine (awake_any _).mono ?_; rintro e w' ⟨rfl, hc⟩))
      go_ret
      exact ⟨rfl, (((Chg.refl (fun _ => False) w).alloc _).alloc _).trans hc (fun k hk => hk.elim)⟩
  · have h1 : 1099511627776 < n := by omega
    by_cases g0 : m < 0
    · clear hn hm
      go_enter Try.func8, Try.ntmps8
      go_wp2_with (first | (go_at_call 16; refine (num_any _ _).mono ?_; rintro e w' ⟨rfl, rfl⟩) | (go_at_call 15; ((with_reducible refine (HN.out _).mono ?_); rintro e w' ⟨rfl, rfl⟩)) | (go_at_call 15; ((with_reducible refine (HM.out _).mono ?_); rintro e w' ⟨rfl, rfl⟩)) | (go_at_call 28; refine (awake_any _).mono ?_; rintro e w' ⟨rfl, hc⟩))
      go_ret
      exact ⟨rfl, (((Chg.refl (fun _ => False) w).alloc _).alloc _).trans hc (fun k hk => hk.elim)⟩
    · have g1 : 1099511627776 < m := by omega
      clear hn hm
      go_enter Try.func8, Try.ntmps8
      go_wp2_with (first | (go_at_call 16; refine (num_any _ _).mono ?_; rintro e w' ⟨rfl, rfl⟩) | (go_at_call 15; ((with_reducible refine (HN.out _).mono ?_); rintro e w' ⟨rfl, rfl⟩)) | (go_at_call 15; ((with_reducible refine (HM.out _).mono ?_); rintro e w' ⟨rfl, rfl⟩)) | (go_at_call 28; refine (awake_any _).mono ?_; rintro e w' ⟨rfl, hc⟩))
      go_ret
      exact ⟨rfl, (((Chg.refl (fun _ => False) w).alloc _).alloc _).trans hc (fun k hk => hk.elim)⟩


set_option maxHeartbeats 8000000 in
theorem apart_bad_ok (n : Int) (m : Nat) (hn : n < 0 ∨ 1099511627776 < n) (hm : m ≤ 1099511627776) :
    Calls Try.prog 8 #[.agg #[.int .i64 n, fv, ov], .agg #[.int .i64 (m : Int), fv', ov']] w fun e w' => e = .returned (.bool true) ∧ Chg (fun _ => False) w w' := by
  have HN := Lib.hid fun W => new_bad (w := W) n hn
  have HM := Lib.hid fun W => new_ok (w := W) m hm
  have HB0 := Lib.hid ((halloc_lt (o := .cells #[.int .i64 (m : Int), fv', ov'] 50) (hlt_of (halloc_at w (.cells #[.int .i64 n, fv, ov] 50)))).trans (halloc_at w (.cells #[.int .i64 n, fv, ov] 50)))
  have hb1 := halloc_at (w.alloc (.cells #[.int .i64 n, fv, ov] 50)) (.cells #[.int .i64 (m : Int), fv', ov'] 50)
  rw [halloc_size] at hb1
  have HB1 := Lib.hid hb1
  clear hb1
  have g1 : ¬ (1099511627776 : Int) < (m : Int) := by omega
  have g2 : ¬ (m : Int) < 0 := by omega
  by_cases h0 : n < 0
  · clear hn hm
    go_enter Try.func8, Try.ntmps8
    go_wp2_with (first | (go_at_call 16; refine (num_any _ _).mono ?_; rintro e w' ⟨rfl, rfl⟩) | (go_at_call 15; ((with_reducible refine (HN.out _).mono ?_); rintro e w' ⟨rfl, rfl⟩)) | (go_at_call 15; refine stop ?_))
    refine go ?_
    refine (HM.out _).mono ?_
    rintro e w1 ⟨rfl, -, v1⟩
    have V1 := Lib.hid v1.chg
    have q0 := hcell_of ((v1.block (by simp; omega) (by simp)).trans HB0.out) 0
    have q1 := hcell_of ((v1.block (by simp) (by simp)).trans HB1.out) 0
    simp only [List.getElem?_toArray, List.getElem?_cons_zero] at q0 q1
    clear v1
    go_wp2_with (first | (go_at_call 16; refine (num_any _ _).mono ?_; rintro e w' ⟨rfl, rfl⟩) | (go_at_call 28; refine (awake_any _).mono ?_; rintro e w' ⟨rfl, hc⟩))
    go_ret
    exact ⟨congrArg (fun b => Ending.returned (.bool b)) (show (!decide ((m : Int) < 0) && !decide ((1099511627776 : Int) < (m : Int))) = true by simp; omega), ((((Chg.refl (fun _ => False) w).alloc _).alloc _).trans V1.out (fun k hk => by cases hk)).trans hc (fun k hk => hk.elim)⟩
  · have h1 : 1099511627776 < n := by omega
    clear hn hm
    go_enter Try.func8, Try.ntmps8
    go_wp2_with (first | (go_at_call 16; refine (num_any _ _).mono ?_; rintro e w' ⟨rfl, rfl⟩) | (go_at_call 15; ((with_reducible refine (HN.out _).mono ?_); rintro e w' ⟨rfl, rfl⟩)) | (go_at_call 15; refine stop ?_))
    refine go ?_
    refine (HM.out _).mono ?_
    rintro e w1 ⟨rfl, -, v1⟩
    have V1 := Lib.hid v1.chg
    have q0 := hcell_of ((v1.block (by simp; omega) (by simp)).trans HB0.out) 0
    have q1 := hcell_of ((v1.block (by simp) (by simp)).trans HB1.out) 0
    simp only [List.getElem?_toArray, List.getElem?_cons_zero] at q0 q1
    clear v1
    go_wp2_with (first | (go_at_call 16; refine (num_any _ _).mono ?_; rintro e w' ⟨rfl, rfl⟩) | (go_at_call 28; refine (awake_any _).mono ?_; rintro e w' ⟨rfl, hc⟩))
    go_ret
    exact ⟨congrArg (fun b => Ending.returned (.bool b)) (show (!decide ((m : Int) < 0) && !decide ((1099511627776 : Int) < (m : Int))) = true by simp; omega), ((((Chg.refl (fun _ => False) w).alloc _).alloc _).trans V1.out (fun k hk => by cases hk)).trans hc (fun k hk => hk.elim)⟩

set_option maxHeartbeats 8000000 in
theorem apart_ok_bad (n : Nat) (m : Int) (hn : n ≤ 1099511627776) (hm : m < 0 ∨ 1099511627776 < m) :
    Calls Try.prog 8 #[.agg #[.int .i64 (n : Int), fv, ov], .agg #[.int .i64 m, fv', ov']] w fun e w' => e = .returned (.bool true) ∧ Chg (fun _ => False) w w' := by
  have HN := Lib.hid fun W => new_ok (w := W) n hn
  have HM := Lib.hid fun W => new_bad (w := W) m hm
  have HB0 := Lib.hid ((halloc_lt (o := .cells #[.int .i64 m, fv', ov'] 50) (hlt_of (halloc_at w (.cells #[.int .i64 (n : Int), fv, ov] 50)))).trans (halloc_at w (.cells #[.int .i64 (n : Int), fv, ov] 50)))
  have hb1 := halloc_at (w.alloc (.cells #[.int .i64 (n : Int), fv, ov] 50)) (.cells #[.int .i64 m, fv', ov'] 50)
  rw [halloc_size] at hb1
  have HB1 := Lib.hid hb1
  clear hb1
  have g1 : ¬ (1099511627776 : Int) < (n : Int) := by omega
  have g2 : ¬ (n : Int) < 0 := by omega
  by_cases h0 : m < 0
  · clear hn hm
    go_enter Try.func8, Try.ntmps8
    go_wp2_with (first | (go_at_call 16; refine (num_any _ _).mono ?_; rintro e w' ⟨rfl, rfl⟩) | (go_at_call 15; refine stop ?_))
    refine go ?_
    refine (HN.out _).mono ?_
    rintro e w1 ⟨rfl, -, v1⟩
    have V1 := Lib.hid v1.chg
    have hz0 := (v1.block (by simp; omega) (by simp)).trans HB0.out
    have hz1 := (v1.block (by simp) (by simp)).trans HB1.out
    have q0 := hcell_of hz0 0
    have q1 := hcell_of hz1 0
    simp only [List.getElem?_toArray, List.getElem?_cons_zero] at q0 q1
    have HZ0 := Lib.hid hz0
    have HZ1 := Lib.hid hz1
    clear v1 hz0 hz1
    go_wp2_with (first | (go_at_call 16; refine (num_any _ _).mono ?_; rintro e w' ⟨rfl, rfl⟩) | (go_at_call 15; refine stop ?_))
    refine go ?_
    refine (HN.out _).mono ?_
    rintro e w2 ⟨rfl, -, v2⟩
    have V2 := Lib.hid v2.chg
    have q0 := hcell_of ((v2.block (hlt_of HZ0.out) (by simp)).trans HZ0.out) 0
    have q1 := hcell_of ((v2.block (hlt_of HZ1.out) (by simp)).trans HZ1.out) 0
    simp only [List.getElem?_toArray, List.getElem?_cons_zero] at q0 q1
    clear v2
    go_wp2_with (first | (go_at_call 16; refine (num_any _ _).mono ?_; rintro e w' ⟨rfl, rfl⟩) | (go_at_call 15; ((with_reducible refine (HM.out _).mono ?_); rintro e w' ⟨rfl, rfl⟩)) | (go_at_call 28; refine (awake_any _).mono ?_; rintro e w' ⟨rfl, hc⟩))
    go_ret
    exact ⟨congrArg (fun b => Ending.returned (.bool b)) (show (!decide ((n : Int) < 0) && !decide ((1099511627776 : Int) < (n : Int))) = true by simp; omega), (((((Chg.refl (fun _ => False) w).alloc _).alloc _).trans V1.out (fun k hk => by cases hk)).trans V2.out (fun k hk => by cases hk)).trans hc (fun k hk => hk.elim)⟩
  · have h1 : 1099511627776 < m := by omega
    clear hn hm
    go_enter Try.func8, Try.ntmps8
    go_wp2_with (first | (go_at_call 16; refine (num_any _ _).mono ?_; rintro e w' ⟨rfl, rfl⟩) | (go_at_call 15; refine stop ?_))
    refine go ?_
    refine (HN.out _).mono ?_
    rintro e w1 ⟨rfl, -, v1⟩
    have V1 := Lib.hid v1.chg
    have hz0 := (v1.block (by simp; omega) (by simp)).trans HB0.out
    have hz1 := (v1.block (by simp) (by simp)).trans HB1.out
    have q0 := hcell_of hz0 0
    have q1 := hcell_of hz1 0
    simp only [List.getElem?_toArray, List.getElem?_cons_zero] at q0 q1
    have HZ0 := Lib.hid hz0
    have HZ1 := Lib.hid hz1
    clear v1 hz0 hz1
    go_wp2_with (first | (go_at_call 16; refine (num_any _ _).mono ?_; rintro e w' ⟨rfl, rfl⟩) | (go_at_call 15; refine stop ?_))
    refine go ?_
    refine (HN.out _).mono ?_
    rintro e w2 ⟨rfl, -, v2⟩
    have V2 := Lib.hid v2.chg
    have q0 := hcell_of ((v2.block (hlt_of HZ0.out) (by simp)).trans HZ0.out) 0
    have q1 := hcell_of ((v2.block (hlt_of HZ1.out) (by simp)).trans HZ1.out) 0
    simp only [List.getElem?_toArray, List.getElem?_cons_zero] at q0 q1
    clear v2
    go_wp2_with (first | (go_at_call 16; refine (num_any _ _).mono ?_; rintro e w' ⟨rfl, rfl⟩) | (go_at_call 15; ((with_reducible refine (HM.out _).mono ?_); rintro e w' ⟨rfl, rfl⟩)) | (go_at_call 28; refine (awake_any _).mono ?_; rintro e w' ⟨rfl, hc⟩))
    go_ret
    exact ⟨congrArg (fun b => Ending.returned (.bool b)) (show (!decide ((n : Int) < 0) && !decide ((1099511627776 : Int) < (n : Int))) = true by simp; omega), (((((Chg.refl (fun _ => False) w).alloc _).alloc _).trans V1.out (fun k hk => by cases hk)).trans V2.out (fun k hk => by cases hk)).trans hc (fun k hk => hk.elim)⟩

/-- ahead of a round of the first loop: disk d has played k ops, its answers are listed -/
structure R1 (W wr : World) (d c x : Nat) (ops : List OpP) (D0 X0 : Dk) (k : Nat) (v : Value) : Prop where
  le : k ≤ ops.length
  ex : ∃ F G H xs, Many W wr [Ent.disk d (Dk.after D0 (ops.take k)) F, Ent.avs v xs, Ent.disk x X0 H, Ent.disk c D0 G] ∧ xs.map AV.a = Dk.says D0 (ops.take k)
/-- ahead of a round of the second loop: disk c has played k ops, disk x some of its own -/
structure R2 (W wr : World) (d c x : Nat) (ops : List OpP) (D0 : Dk) (k : Nat) (v : Value) (xs : List AV) : Prop where
  le : k ≤ ops.length
  ex : ∃ F G H X, Many W wr [Ent.disk c (Dk.after D0 (ops.take k)) G, Ent.disk x X H, Ent.disk d (Dk.after D0 ops) F, Ent.avs v xs] ∧ X.files.length ≤ k

theorem info_ans2 : (Try.prog.info? 58).map (fun i => (i.zero, i.size, i.bytes)) = some (some (.agg #[.int .i64 0, .int .i64 0, .int .i64 0, .slice none 0 0, .slice none 0 0, .bool false]), 6, 80) := by kernel_rfl

set_option maxHeartbeats 16000000 in
theorem apart_main (n m : Nat) (hn : n ≤ 1099511627776) (hm : m ≤ 1099511627776) (ho : OpsAt w ov ops) (ht : OpsAt w ov' tops) :
    Calls Try.prog 8 #[.agg #[.int .i64 (n : Int), fv, ov], .agg #[.int .i64 (m : Int), fv', ov']] w fun e w' => e = .returned (.bool true) ∧ Chg (fun _ => False) w w' := by
  obtain ⟨p, cap, rfl, hnc, -, -⟩ := id ho.row
  obtain ⟨p', cap', rfl, hnc', -, -⟩ := id ht.row
  have HO := Lib.hid ho
  have HT := Lib.hid ht
  have hlen := ho.len
  have htlen := ht.len
  have HN := Lib.hid fun W => new_ok (w := W) n hn
  have HM := Lib.hid fun W => new_ok (w := W) m hm
  have HLEN := Lib.hid hlen
  have HTLEN := Lib.hid htlen
  have HNC := Lib.hid hnc
  have HNC' := Lib.hid hnc'
  have HB0 := Lib.hid ((halloc_lt (o := .cells #[.int .i64 (m : Int), fv', .slice p' tops.length cap'] 50) (hlt_of (halloc_at w (.cells #[.int .i64 (n : Int), fv, .slice p ops.length cap] 50)))).trans (halloc_at w (.cells #[.int .i64 (n : Int), fv, .slice p ops.length cap] 50)))
  have hb1 := halloc_at (w.alloc (.cells #[.int .i64 (n : Int), fv, .slice p ops.length cap] 50)) (.cells #[.int .i64 (m : Int), fv', .slice p' tops.length cap'] 50)
  rw [halloc_size] at hb1
  have HB1 := Lib.hid hb1
  have HWC := Lib.hid (((Chg.refl (fun _ => False) w).alloc (.cells #[.int .i64 (n : Int), fv, .slice p ops.length cap] 50)).alloc (.cells #[.int .i64 (m : Int), fv', .slice p' tops.length cap'] 50))
  clear hn hm hlen htlen hnc hnc' ho ht hb1
  go_enter Try.func8, Try.ntmps8
  go_wp2_with (first | (go_at_call 16; refine (num_any _ _).mono ?_; rintro e w' ⟨rfl, rfl⟩) | (go_at_call 15; refine stop ?_))
  refine go ?_
  refine (HN.out _).mono ?_
  rintro e w1 ⟨he, h1, v1⟩
  simp only [halloc_size] at he h1 v1
  generalize w.heap.size + 1 + 1 + 1 = d at he h1 v1
  subst he
  have m1 := (Many.nil _).addDisk h1 v1
  clear h1 v1
  generalize (w.alloc (.cells #[.int .i64 (n : Int), fv, .slice p ops.length cap] 50)).alloc (.cells #[.int .i64 (m : Int), fv', .slice p' tops.length cap'] 50) = W at m1 HB0 HB1 HWC
  have q0 := hcell_of ((m1.chg.block _ (hlt_of HB0.out) (fun h => h)).trans HB0.out) 0
  simp only [List.getElem?_toArray, List.getElem?_cons_zero] at q0
  have M1 := Lib.hid m1
  clear m1
  go_wp2_with (first | (go_at_call 16; refine (num_any _ _).mono ?_; rintro e w' ⟨rfl, rfl⟩) | (go_at_call 15; refine stop ?_))
  refine go ?_
  refine (HN.out _).mono ?_
  rintro e w2 ⟨he, h1, v1⟩
  generalize w1.heap.size + 1 = c at he h1 v1
  subst he
  have m2 := M1.out.addDisk h1 v1
  have q1 := hcell_of ((m2.chg.block _ (hlt_of HB1.out) (fun h => h)).trans HB1.out) 0
  simp only [List.getElem?_toArray, List.getElem?_cons_zero] at q1
  have M2 := Lib.hid m2
  clear m2 h1 v1
  go_wp2_with (first | (go_at_call 16; refine (num_any _ _).mono ?_; rintro e w' ⟨rfl, rfl⟩) | (go_at_call 15; refine stop ?_))
  refine go ?_
  refine (HM.out _).mono ?_
  rintro e w3 ⟨he, h1, v1⟩
  generalize w2.heap.size + 1 = x at he h1 v1
  subst he
  have M3 := Lib.hid (M2.out.addDisk h1 v1)
  clear h1 v1 q0 q1
  go_wp2_with (first | (go_at_call 16; refine (num_any _ _).mono ?_; rintro e w' ⟨rfl, rfl⟩))
  generalize hD0 : (⟨n, [], false, 0, 0⟩ : Dk) = D0 at *
  generalize hX0 : (⟨m, [], false, 0, 0⟩ : Dk) = X0 at *
  have HD0 := Lib.hid (show D0.files.length ≤ 0 by rw [← hD0]; exact Nat.le_refl _)
  have HX0 := Lib.hid (show X0.files.length ≤ 0 by rw [← hX0]; exact Nat.le_refl _)
  clear hD0 hX0
  go_loopw [13, 14] (fun v i wr => ∃ pv nv cv, v = .slice pv nv cv ∧ ∃ k : Nat, i = .int .i64 (k : Int) ∧ R1 W wr d c x (ops.map (·.1)) D0 X0 k v) (fun _ i _ => ops.length - (Lib.intOf i).toNat)
  case atStart =>
    exact ⟨none, 0, 0, rfl, 0, rfl, Nat.zero_le _, _, _, _, [], (M3.out.add (y := Ent.avs (.slice none 0 0) []) (Chg.refl _ _) ⟨OC_nil _ _ _, fun _ h => (by cases h), fun _ h => (by cases h)⟩ (good_avs _ _) (fun k hk => by simp [Ent.avs, avblk] at hk)).front4, rfl⟩
  case round =>
    obtain ⟨pv, nv, cv, rfl, k, rfl, hle, F, G, H, xs, hM, hxs⟩ := hrel
    have hbx := (hM.chg.block _ (hlt_of HB0.out) (fun h => h)).trans HB0.out
    have q2 := hcell_of hbx 2
    simp only [List.getElem?_toArray, List.getElem?_cons_zero, List.getElem?_cons_succ] at q2
    have HMM := Lib.hid hM
    have HXS := Lib.hid hxs
    clear hM hxs hbx
    by_cases hk : (k : Int) < ops.length
    · obtain ⟨b, off, y, py, cy, rfl, hbl, hy, hyv, hcy, hyok, hyb, p0, p1, p2, p3, p4⟩ := (HO.out.chg (HWC.out.trans HMM.out.chg (fun k hk => hk.elim))).op (k := k) (by omega)
      have hnc := HNC.out
      have hyb0 := (HO.out.each y (List.mem_of_getElem? hy)).2
      have hk0 : (0 : Int) ≤ (k : Int) := by omega
      have hkl : (k : Int) + 1 ≤ 1099511627776 := by have := HLEN.out; omega
      have hty : (ops.map (·.1)).take (k + 1) = (ops.map (·.1)).take k ++ [y.1] := by
        rw [List.take_add_one, List.getElem?_map, hy]; rfl
      have HTY := Lib.hid hty
      rw [hyv] at p2
      have hnc' : (ops.length : Int) ≤ cap := by omega
      have hfl := (after_files D0 ((ops.map (·.1)).take k)).1
      have hdo := does_any hyok (by have := HD0.out; have := HLEN.out; simp at hfl; omega) (HMM.out.first) (RC.chg hyb0 (HWC.out.trans HMM.out.chg (fun k hk => hk.elim)) fun _ _ h => h)
      simp only [OpP.val, opV, hyv] at hdo
      have HDO := Lib.hid hdo
      clear hyok hyb hyb0 hyv hy hnc hdo hcy hbl hty hfl
      go_wp2_with (first | (go_at_call 29; refine stop ?_))
      refine go ?_
      refine HDO.out.mono ?_
      rintro e w4 ⟨v, rfl, hdid⟩
      obtain ⟨F', ⟨a, bv, fv2, l2⟩, hxa, rfl, m4⟩ := HMM.out.did hdid
      have hat : AV.At w4 ⟨a, bv, fv2, l2⟩ := m4.swap12.first
      obtain ⟨hatb, hatf, -⟩ := hat
      simp only at hatb hatf hxa
      have HXA := Lib.hid hxa
      clear hxa
      obtain ⟨pb, cb, rfl, -⟩ := id hatb
      obtain ⟨pf, cf, rfl, -⟩ := id hatf.sl
      have M4 := Lib.hid m4
      unfold AV.val ansV
      clear hdid m4 hatb hatf q2 p0 p1 p2 p3 p4
      simp only
      have hsl := OC.keep (w' := (w4.alloc (.cells #[.int .i64 (a.e : Int), .int .i64 (a.n : Int), .int .i64 (a.m : Int), .slice pb a.b.length cb, .slice pf l2.length cf, .bool a.down] 58)).alloc (.cells #[.int .i64 (a.e : Int), .int .i64 (a.n : Int), .int .i64 (a.m : Int), .slice pb a.b.length cb, .slice pf l2.length cf, .bool a.down] 58))
        (show AVs w4 (.slice pv nv cv) xs from M4.out.front3.first).sl (fun b hb => by
          have := OC.lt (show AVs w4 (.slice pv nv cv) xs from M4.out.front3.first).sl hb
          rw [halloc_lt (by simp; omega), halloc_lt this])
      have hrc := (OC_new (w4.alloc (.cells #[.int .i64 (a.e : Int), .int .i64 (a.n : Int), .int .i64 (a.m : Int), .slice pb a.b.length cb, .slice pf l2.length cf, .bool a.down] 58)) 6 58 #[.int .i64 (a.e : Int), .int .i64 (a.n : Int), .int .i64 (a.m : Int), .slice pb a.b.length cb, .slice pf l2.length cf, .bool a.down] 1 1 (by decide) (by unfold maxLen; decide) rfl).rc
      rw [halloc_size] at hrc
      have hxl : xs.length = k := by
        have e1 := congrArg List.length HXS.out
        rw [says_len, List.length_map, List.length_take, List.length_map] at e1
        omega
      have HSL := Lib.hid hsl
      have HRC := Lib.hid hrc
      have HXL := Lib.hid hxl
      clear hsl hrc hxl
      go_wp2_with (first | (at_builtin; refine stop ?_))
      refine go ?_
      obtain ⟨i0, hi, hz0, hz1, hz2⟩ := info_parts info_ans2
      refine wpList_append_oc rfl _ _ 70 rfl 58 i0 _ 6 80 Try.underlying70 hi hz0 hz1 hz2 rfl (by decide) rfl rfl HSL.out HRC.out (by intro u hu; simp at hu; rcases hu with rfl | rfl | rfl | rfl | rfl | rfl <;> rfl) (by decide) (by have := HXL.out; have := HLEN.out; omega) ?_
      intro v' w5 b1 b2 b3 b4
      have m5 := ((M4.out.back3.alloc (.cells #[.int .i64 (a.e : Int), .int .i64 (a.n : Int), .int .i64 (a.m : Int), .slice pb a.b.length cb, .slice pf l2.length cf, .bool a.down] 58)).alloc (.cells #[.int .i64 (a.e : Int), .int .i64 (a.n : Int), .int .i64 (a.m : Int), .slice pb a.b.length cb, .slice pf l2.length cf, .bool a.down] 58)).push b1 b2 b3
      obtain ⟨pv', cv', rfl, -⟩ := id b1
      have M5 := Lib.hid m5.swap12
      have hend : R1 W w5 d c x (ops.map (·.1)) D0 X0 (k + 1) (.slice pv' (xs.length + 1) cv') := by
        refine ⟨by simp; omega, F', G, H, xs ++ [⟨a, .slice pb a.b.length cb, .slice pf l2.length cf, l2⟩], ?_, ?_⟩
        · rw [HTY.out, after_snoc]; exact M5.out
        · rw [HTY.out, says_snoc, List.map_append, HXS.out, ← HXA.out]; rfl
      have HEND := Lib.hid hend
      clear b1 b2 b3 b4 hi hz0 hz1 hz2 m5 hend
      go_wp2
      go_roundw
      case rel => exact ⟨pv', xs.length + 1, cv', rfl, k + 1, by go_num, HEND.out⟩
      case measure => simp [Lib.intOf]; omega
    · have hke : k = ops.length := by simp at hle; omega
      subst hke
      rw [List.take_of_length_le (by simp)] at *
      obtain ⟨wo, rfl⟩ : ∃ wo : World, wo = wr := ⟨_, rfl⟩
      have hxl : xs.length = ops.length := by
        have e1 := congrArg List.length HXS.out
        rw [says_len, List.length_map, List.length_map] at e1
        exact e1
      have HXL := Lib.hid hxl
      clear hxl
      go_wp2
      clear hk
      go_loopw [16] (fun i wr => ∃ k : Nat, i = .int .i64 (k : Int) ∧ R2 W wr d c x (ops.map (·.1)) D0 k (.slice pv nv cv) xs) (fun i _ => ops.length - (Lib.intOf i).toNat)
      case atStart => exact ⟨0, rfl, Nat.zero_le _, _, _, _, X0, HMM.out.front4.front4.swap12, HX0.out⟩
      case round =>
        obtain ⟨k, rfl, hle2, F2, G2, H2, X, hM2, hX⟩ := hrel
        have hbx := (hM2.chg.block _ (hlt_of HB0.out) (fun h => h)).trans HB0.out
        have hbt := (hM2.chg.block _ (hlt_of HB1.out) (fun h => h)).trans HB1.out
        have q2 := hcell_of hbx 2
        have r2 := hcell_of hbt 2
        simp only [List.getElem?_toArray, List.getElem?_cons_zero, List.getElem?_cons_succ] at q2 r2
        have HM2 := Lib.hid hM2
        have HX := Lib.hid hX
        clear hM2 hX hbx hbt
        by_cases hk : (k : Int) < ops.length
        · have hkl : (k : Int) + 1 ≤ 1099511627776 := by have := HLEN.out; omega
          have hk0 : (0 : Int) ≤ (k : Int) := by omega
          by_cases hkt : (k : Int) < tops.length
          · obtain ⟨bt, offt, yt, pyt, cyt, rfl, -, hyt, hyvt, -, hytok, -, t0, t1, t2, t3, t4⟩ := (HT.out.chg (HWC.out.trans HM2.out.chg (fun k hk => hk.elim))).op (k := k) (by omega)
            have hytb := (HT.out.each yt (List.mem_of_getElem? hyt)).2
            have hnct : (tops.length : Int) ≤ cap' := by have := HNC'.out; omega
            rw [hyvt] at t2
            have hdx := does_any hytok (by have := HX.out; have := HLEN.out; omega) (HM2.out.swap12.first) (RC.chg hytb (HWC.out.trans HM2.out.chg (fun k hk => hk.elim)) fun _ _ h => h)
            simp only [OpP.val, opV, hyvt] at hdx
            have HDX := Lib.hid hdx
            clear hytok hytb hyvt hyt hdx
            go_wp2_with (first | (go_at_call 29; refine stop ?_))
            refine go ?_
            refine HDX.out.mono ?_
            rintro e w4 ⟨v, rfl, hdid⟩
            have hfx := (does_files_le X yt.1).1
            obtain ⟨H3, xa, -, -, m4⟩ := HM2.out.swap12.did hdid
            have M4 := Lib.hid m4.drop2.swap12
            have HX4 := Lib.hid (Nat.le_trans hfx (Nat.add_le_add_right HX.out 1))
            have hbx := (m4.chg.block _ (hlt_of HB0.out) (fun h => h)).trans HB0.out
            have q2 := hcell_of hbx 2
            simp only [List.getElem?_toArray, List.getElem?_cons_zero, List.getElem?_cons_succ] at q2
            clear hdid hfx m4 t0 t1 t2 t3 t4 r2 hnct hbx
            obtain ⟨b, off, y, py, cy, rfl, -, hy, hyv, -, hyok, -, p0, p1, p2, p3, p4⟩ := (HO.out.chg (HWC.out.trans M4.out.chg (fun k hk => hk.elim))).op (k := k) (by omega)
            have hyb0 := (HO.out.each y (List.mem_of_getElem? hy)).2
            have hnc : (ops.length : Int) ≤ cap := by have := HNC.out; omega
            have hty : (ops.map (·.1)).take (k + 1) = (ops.map (·.1)).take k ++ [y.1] := by
              rw [List.take_add_one, List.getElem?_map, hy]; rfl
            have hsay := says_get (ops.map (·.1)) D0 k y.1 (by rw [List.getElem?_map, hy]; rfl)
            rw [hyv] at p2
            have hfl := (after_files D0 ((ops.map (·.1)).take k)).1
            have hcf : (Dk.after D0 ((ops.map (·.1)).take k)).files.length ≤ 1099511627776 := by have := HD0.out; have := HLEN.out; simp at hfl; omega
            have hdo := does_any hyok hcf (M4.out.first) (RC.chg hyb0 (HWC.out.trans M4.out.chg (fun k hk => hk.elim)) fun _ _ h => h)
            simp only [OpP.val, opV, hyv] at hdo
            have HDO := Lib.hid hdo
            have HTY := Lib.hid hty
            have HSAY := Lib.hid hsay
            have HCF := Lib.hid hcf
            clear hyok hyb0 hyv hy hdo hty hfl hsay hcf
            go_wp2_with (first | (go_at_call 29; refine stop ?_))
            refine go ?_
            refine HDO.out.mono ?_
            rintro e w5 ⟨v, rfl, hdid⟩
            obtain ⟨G3, ⟨a, bv, fv2, l2⟩, hxa, rfl, m5⟩ := M4.out.did hdid
            have hat : AV.At w5 ⟨a, bv, fv2, l2⟩ := m5.swap12.first
            have M5 := Lib.hid m5
            have HAT := Lib.hid hat
            obtain ⟨hatb, hatf, -⟩ := hat
            simp only at hatb hatf hxa
            have HXA := Lib.hid hxa
            clear hxa
            obtain ⟨pb, cb, rfl, -⟩ := id hatb
            obtain ⟨pf, cf, rfl, -⟩ := id hatf.sl
            unfold AV.val ansV
            have hav := (M5.out.tail.tail.tail.tail.alloc (.cells #[.int .i64 (a.e : Int), .int .i64 (a.n : Int), .int .i64 (a.m : Int), .slice pb a.b.length cb, .slice pf l2.length cf, .bool a.down] 58)).first
            obtain ⟨pv2, cv2, hsl2, hnv2, -⟩ := hav.sl
            obtain ⟨rfl, rfl, rfl⟩ : pv = pv2 ∧ nv = xs.length ∧ cv = cv2 := by simpa only [Value.slice.injEq] using hsl2
            obtain ⟨bk, ⟨a2, bv3, fv3, l3⟩, rfl, hxk, hxat, z0, z1, z2, z3, z4, z5⟩ := hav.at_ (k := k) (by have := HXL.out; omega)
            have ha2 : a2 = a := by
              have e1 : (xs.map AV.a)[k]? = some a2 := by rw [List.getElem?_map, hxk]; rfl
              rw [HXS.out, HSAY.out] at e1
              exact (Option.some.inj e1).symm.trans HXA.out.symm
            subst ha2
            obtain ⟨hb3, hf3, -⟩ := id hxat
            simp only at hb3 hf3 z0 z1 z2 z3 z4 z5
            obtain ⟨pb3, cb3, rfl, -⟩ := id hb3
            obtain ⟨pf3, cf3, rfl, -⟩ := id hf3.sl
            have hal := fun U (hU : Chg (fun _ => False) (w5.alloc (.cells #[.int .i64 (a2.e : Int), .int .i64 (a2.n : Int), .int .i64 (a2.m : Int), .slice pb a2.b.length cb, .slice pf l2.length cf, .bool a2.down] 58)) U) =>
              alike_true (w := U) (by rw [HXA.out]; exact Nat.le_trans (does_ans_files _ y.1) HCF.out) ((HAT.out.ans.chg ((Chg.refl (fun _ => False) w5).alloc (.cells #[.int .i64 (a2.e : Int), .int .i64 (a2.n : Int), .int .i64 (a2.m : Int), .slice pb a2.b.length cb, .slice pf l2.length cf, .bool a2.down] 58)) fun _ _ h => h).chg hU fun _ _ h => h) (hxat.ans.chg hU fun _ _ h => h)
            simp only [AV.val, ansV] at hal
            have HAL := Lib.hid hal
            have hkn : (k : Int) < (xs.length : Int) := by have := HXL.out; omega
            have hnc2 : (xs.length : Int) ≤ cv := by omega
            clear hdid m5 hatb hatf q2 p0 p1 p2 p3 p4 hav hxk hxat hb3 hf3 hal hsl2 hnv2
            simp only
            go_wp2
            refine Rx.wp_region_sched (fun _ => True) [(0, .r), (1, .r), (2, .r), (3, .r), (4, .r), (5, .e), (6, .r)] (by kernel_rfl) (by kernel_rfl) trivial (fun _ _ x _ _ h => (by cases x <;> exact h)) ?_
            iterate 5 (refine Rx.wpSched_q rfl rfl ?_; go_wp2; refine ⟨rfl, ?_⟩)
            refine Rx.wpSched_e rfl ?_
            go_wp2_with (first | (go_at_call 36; refine stop ?_))
            refine go ?_
            refine (HAL.out _ ((Chg.refl (fun _ => False) _).drew)).mono ?_
            rintro e w6 ⟨rfl, hc6⟩
            have M6 := Lib.hid (((M5.out.drop2.alloc (.cells #[.int .i64 (a2.e : Int), .int .i64 (a2.n : Int), .int .i64 (a2.m : Int), .slice pb a2.b.length cb, .slice pf l2.length cf, .bool a2.down] 58)).drewN 1).quiet hc6)
            clear hc6
            go_wp2
            refine ⟨trivial, ?_⟩
            (refine Rx.wpSched_q rfl rfl ?_; go_wp2; refine ⟨rfl, ?_⟩)
            refine Rx.wpSched_nil ?_
            go_wp2
            go_roundw
            case rel =>
              have m6 := M6.out
              rw [← after_snoc, ← HTY.out] at m6
              exact ⟨k + 1, by go_num, by simp; omega, _, _, _, _, m6, HX4.out⟩
            case measure => simp [Lib.intOf]; omega
          · have M4 := HM2
            obtain ⟨b, off, y, py, cy, rfl, -, hy, hyv, -, hyok, -, p0, p1, p2, p3, p4⟩ := (HO.out.chg (HWC.out.trans M4.out.chg (fun k hk => hk.elim))).op (k := k) (by omega)
            have hyb0 := (HO.out.each y (List.mem_of_getElem? hy)).2
            have hnc : (ops.length : Int) ≤ cap := by have := HNC.out; omega
            have hty : (ops.map (·.1)).take (k + 1) = (ops.map (·.1)).take k ++ [y.1] := by
              rw [List.take_add_one, List.getElem?_map, hy]; rfl
            have hsay := says_get (ops.map (·.1)) D0 k y.1 (by rw [List.getElem?_map, hy]; rfl)
            rw [hyv] at p2
            have hfl := (after_files D0 ((ops.map (·.1)).take k)).1
            have hcf : (Dk.after D0 ((ops.map (·.1)).take k)).files.length ≤ 1099511627776 := by have := HD0.out; have := HLEN.out; simp at hfl; omega
            have hdo := does_any hyok hcf (M4.out.first) (RC.chg hyb0 (HWC.out.trans M4.out.chg (fun k hk => hk.elim)) fun _ _ h => h)
            simp only [OpP.val, opV, hyv] at hdo
            have HDO := Lib.hid hdo
            have HTY := Lib.hid hty
            have HSAY := Lib.hid hsay
            have HCF := Lib.hid hcf
            clear hyok hyb0 hyv hy hdo hty hfl hsay hcf
            go_wp2_with (first | (go_at_call 29; refine stop ?_))
            refine go ?_
            refine HDO.out.mono ?_
            rintro e w5 ⟨v, rfl, hdid⟩
            obtain ⟨G3, ⟨a, bv, fv2, l2⟩, hxa, rfl, m5⟩ := M4.out.did hdid
            have hat : AV.At w5 ⟨a, bv, fv2, l2⟩ := m5.swap12.first
            have M5 := Lib.hid m5
            have HAT := Lib.hid hat
            obtain ⟨hatb, hatf, -⟩ := hat
            simp only at hatb hatf hxa
            have HXA := Lib.hid hxa
            clear hxa
            obtain ⟨pb, cb, rfl, -⟩ := id hatb
            obtain ⟨pf, cf, rfl, -⟩ := id hatf.sl
            unfold AV.val ansV
            have hav := (M5.out.tail.tail.tail.tail.alloc (.cells #[.int .i64 (a.e : Int), .int .i64 (a.n : Int), .int .i64 (a.m : Int), .slice pb a.b.length cb, .slice pf l2.length cf, .bool a.down] 58)).first
            obtain ⟨pv2, cv2, hsl2, hnv2, -⟩ := hav.sl
            obtain ⟨rfl, rfl, rfl⟩ : pv = pv2 ∧ nv = xs.length ∧ cv = cv2 := by simpa only [Value.slice.injEq] using hsl2
            obtain ⟨bk, ⟨a2, bv3, fv3, l3⟩, rfl, hxk, hxat, z0, z1, z2, z3, z4, z5⟩ := hav.at_ (k := k) (by have := HXL.out; omega)
            have ha2 : a2 = a := by
              have e1 : (xs.map AV.a)[k]? = some a2 := by rw [List.getElem?_map, hxk]; rfl
              rw [HXS.out, HSAY.out] at e1
              exact (Option.some.inj e1).symm.trans HXA.out.symm
            subst ha2
            obtain ⟨hb3, hf3, -⟩ := id hxat
            simp only at hb3 hf3 z0 z1 z2 z3 z4 z5
            obtain ⟨pb3, cb3, rfl, -⟩ := id hb3
            obtain ⟨pf3, cf3, rfl, -⟩ := id hf3.sl
            have hal := fun U (hU : Chg (fun _ => False) (w5.alloc (.cells #[.int .i64 (a2.e : Int), .int .i64 (a2.n : Int), .int .i64 (a2.m : Int), .slice pb a2.b.length cb, .slice pf l2.length cf, .bool a2.down] 58)) U) =>
              alike_true (w := U) (by rw [HXA.out]; exact Nat.le_trans (does_ans_files _ y.1) HCF.out) ((HAT.out.ans.chg ((Chg.refl (fun _ => False) w5).alloc (.cells #[.int .i64 (a2.e : Int), .int .i64 (a2.n : Int), .int .i64 (a2.m : Int), .slice pb a2.b.length cb, .slice pf l2.length cf, .bool a2.down] 58)) fun _ _ h => h).chg hU fun _ _ h => h) (hxat.ans.chg hU fun _ _ h => h)
            simp only [AV.val, ansV] at hal
            have HAL := Lib.hid hal
            have hkn : (k : Int) < (xs.length : Int) := by have := HXL.out; omega
            have hnc2 : (xs.length : Int) ≤ cv := by omega
            clear hdid m5 hatb hatf q2 p0 p1 p2 p3 p4 hav hxk hxat hb3 hf3 hal hsl2 hnv2
            simp only
            go_wp2
            refine Rx.wp_region_sched (fun _ => True) [(0, .r), (1, .r), (2, .r), (3, .r), (4, .r), (5, .e), (6, .r)] (by kernel_rfl) (by kernel_rfl) trivial (fun _ _ x _ _ h => (by cases x <;> exact h)) ?_
            iterate 5 (refine Rx.wpSched_q rfl rfl ?_; go_wp2; refine ⟨rfl, ?_⟩)
            refine Rx.wpSched_e rfl ?_
            go_wp2_with (first | (go_at_call 36; refine stop ?_))
            refine go ?_
            refine (HAL.out _ ((Chg.refl (fun _ => False) _).drew)).mono ?_
            rintro e w6 ⟨rfl, hc6⟩
            have M6 := Lib.hid (((M5.out.drop2.alloc (.cells #[.int .i64 (a2.e : Int), .int .i64 (a2.n : Int), .int .i64 (a2.m : Int), .slice pb a2.b.length cb, .slice pf l2.length cf, .bool a2.down] 58)).drewN 1).quiet hc6)
            clear hc6
            go_wp2
            refine ⟨trivial, ?_⟩
            (refine Rx.wpSched_q rfl rfl ?_; go_wp2; refine ⟨rfl, ?_⟩)
            refine Rx.wpSched_nil ?_
            go_wp2
            go_roundw
            case rel =>
              have m6 := M6.out
              rw [← after_snoc, ← HTY.out] at m6
              exact ⟨k + 1, by go_num, by simp; omega, _, _, _, _, m6, (Nat.le_succ_of_le HX.out)⟩
            case measure => simp [Lib.intOf]; omega
        · have hke : k = ops.length := by simp at hle2; omega
          have htk : (ops.map (·.1)).take k = ops.map (·.1) := List.take_of_length_le (by simp; omega)
          have hm3 := HM2.out
          rw [htk] at hm3
          have hff : (Dk.after D0 (ops.map (·.1))).files.length ≤ 1099511627776 := by have h1 := (after_files D0 (ops.map (·.1))).1; have h2 := HD0.out; have h3 := HLEN.out; rw [List.length_map] at h1; omega
          have HM3 := Lib.hid hm3
          have HFF := Lib.hid hff
          clear hm3 hff hke htk
          go_wp2_with (first | (go_at_call 24; refine stop ?_))
          refine go ?_
          refine (files_any HFF.out HM3.out.tail.tail.first).mono ?_
          rintro e w5 ⟨v5, l5, rfl, f1, f2, f3, f4⟩
          have F1 := Lib.hid f1
          have F2' := Lib.hid f2
          have M4 := Lib.hid (HM3.out.quiet f4)
          clear f1 f2 f3 f4
          go_wp2_with (first | (go_at_call 24; refine stop ?_))
          refine go ?_
          refine (files_any HFF.out M4.out.first).mono ?_
          rintro e w6 ⟨v6, l6, rfl, g1, g2, g3, g4⟩
          have hsf := sameFiles_true (w := w6) (by have e1 := congrArg List.length F2'.out; have := HFF.out; simp at e1; omega) (F1.out.chg g4 fun _ _ h => h) g1 (F2'.out.trans g2.symm)
          have HSF := Lib.hid hsf
          have M5 := Lib.hid (M4.out.quiet g4)
          clear g1 g2 g3 g4 hsf
          go_wp2_with (first | (go_at_call 37; refine HSF.out.mono ?_; rintro e w' ⟨rfl, nd, rfl⟩) | (go_at_call 28; refine (awake_any _).mono ?_; rintro e w' ⟨rfl, hc⟩))
          go_ret
          exact ⟨rfl, ((HWC.out.trans M5.out.chg (fun k hk => hk.elim)).drewN nd).trans hc (fun k hk => hk.elim)⟩
end
end Go.Proofs
