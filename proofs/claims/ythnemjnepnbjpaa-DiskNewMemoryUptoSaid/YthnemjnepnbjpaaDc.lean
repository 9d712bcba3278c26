/- does: the kinds that answer bytes or files, or take bytes; and any other kind. Conditions: the disk lies as DRep says; the op's bytes are read and lie apart from the disk; at most 2^40 files. -/
import Derived.Test.YthnemjnepnbjpaaDb
namespace Go.Proofs
open Go.RowKit Go.Hp Go.Dm Go.Dr
set_option linter.unusedVariables false
set_option maxRecDepth 10000
section
variable {w : World} {d : Nat} {D : Dk} {F : List Nat} {nm : ByteArray} {bv : Value}

set_option maxHeartbeats 4000000 in
/-- an op of no kind -/
theorem does_none (k n m : Int) (hk : ¬ (1 ≤ k ∧ k ≤ 11)) (h : DRep w d D F) (hb : ∃ p l c, bv = .slice p l c) :
    Calls Try.prog 29 #[.pointer (some ⟨d, 0, none⟩), opV k nm bv n m] w fun e w' => e = .returned (ansV 0 0 0 (.slice none 0 0) (.slice none 0 0) false) ∧ Left w d F D w' := by
  obtain ⟨p, l, c, rfl⟩ := hb
  have H0 := Lib.hid h
  have h1 : (k == 1) = false := beq_eq_false_iff_ne.2 (by omega)
  have h2 : (k == 2) = false := beq_eq_false_iff_ne.2 (by omega)
  have h3 : (k == 3) = false := beq_eq_false_iff_ne.2 (by omega)
  have h4 : (k == 4) = false := beq_eq_false_iff_ne.2 (by omega)
  have h5 : (k == 5) = false := beq_eq_false_iff_ne.2 (by omega)
  have h6 : (k == 6) = false := beq_eq_false_iff_ne.2 (by omega)
  have h7 : (k == 7) = false := beq_eq_false_iff_ne.2 (by omega)
  have h8 : (k == 8) = false := beq_eq_false_iff_ne.2 (by omega)
  have h9 : (k == 9) = false := beq_eq_false_iff_ne.2 (by omega)
  have h10 : (k == 10) = false := beq_eq_false_iff_ne.2 (by omega)
  have h11 : (k == 11) = false := beq_eq_false_iff_ne.2 (by omega)
  have H1 : Hid (Left (W2 w k nm (.slice p l c) n m) d F D (W2 w k nm (.slice p l c) n m)) := Lib.hid ⟨F, drep_W2 h k nm _ n m, Ev.refl _ _⟩
  have hz := ans_block h H1.out
  have hl := does_end h H1.out (Chg.refl _ _)
  unfold W2 zeros at hz hl
  have HZ := Lib.hid hz
  have HL := Lib.hid hl
  clear hz hl
  unfold opV ansV
  clear h hk
  go_enter Try.func29, Try.ntmps29
  go_wp2
  (try simp only [Exit.inBlock, Exit.then])
  refine bodyPost_ret (results_cell1 (p := 4) (cs := #[.int .i64 0, .int .i64 0, .int .i64 0, .slice none 0 0, .slice none 0 0, .bool false]) rfl _ _ (w.heap.size + 1) 58 (0, 0) _ rfl HZ.out Try.underlying58 rfl info_ans) rfl ?_
  exact ⟨rfl, HL.out⟩

/-- the mask of a Turn: the low byte of m -/
def maskOf (m : Int) : UInt8 := UInt8.ofNat (bits BinOp.and IntKind.i64 m 255 % 256).toNat
theorem maskOf_eq (m : Int) : bits BinOp.and IntKind.i64 m 255 % 256 = ((maskOf m).toNat : Int) := by
  unfold maskOf
  generalize bits BinOp.and IntKind.i64 m 255 = z
  have h : 0 ≤ z % 256 ∧ z % 256 < 256 := by omega
  rw [UInt8.toNat_ofNat']
  omega

set_option maxHeartbeats 4000000 in
theorem does_turn (n m : Int) (hs : nm.size ≤ maxLen) (h : DRep w d D F) (hb : ∃ p l c, bv = .slice p l c) :
    Calls Try.prog 29 #[.pointer (some ⟨d, 0, none⟩), opV 11 nm bv n m] w fun e w' => e = .returned (ansV ((D.turn nm n (maskOf m)).1 : Int) 0 0 (.slice none 0 0) (.slice none 0 0) false) ∧ Left w d F (D.turn nm n (maskOf m)).2 w' := by
  obtain ⟨p, l, c, rfl⟩ := hb
  have hc := turn_any n (maskOf m) hs (drep_W2 h 11 nm (.slice p l c) n m)
  have HC := Lib.hid hc
  have H0 := Lib.hid h
  clear hc h
  unfold opV ansV
  generalize (D.turn nm n (maskOf m)).1 = r at *
  generalize (D.turn nm n (maskOf m)).2 = D' at *
  go_enter Try.func29, Try.ntmps29
  go_wp2_with (first | (go_at_call 16; refine (num_any _ _).mono ?_; rintro e w' ⟨rfl, rfl⟩) | (go_at_call 51; refine stop ?_))
  refine go ?_
  rw [maskOf_eq m]
  refine HC.out.mono ?_
  rintro e w1 ⟨rfl, h1⟩
  have H1 := Lib.hid h1
  clear h1
  have hz := ans_block H0.out H1.out
  have HZ := Lib.hid hz
  have kc0 := hcell_of hz 0
  have kc1 := hcell_of hz 1
  have kc2 := hcell_of hz 2
  have kc3 := hcell_of hz 3
  have kc4 := hcell_of hz 4
  have kc5 := hcell_of hz 5
  have kf := hfree_of hz
  simp only [List.getElem?_toArray, List.getElem?_cons_zero, List.getElem?_cons_succ] at kc0 kc1 kc2 kc3 kc4 kc5
  clear hz
  go_wp2_with (first | (go_at_call 16; refine (num_any _ _).mono ?_; rintro e w' ⟨rfl, rfl⟩))
  (try simp only [Exit.inBlock, Exit.then])
  refine bodyPost_ret (results_cell1 (p := 4) (cs := #[.int .i64 (r : Int), .int .i64 0, .int .i64 0, .slice none 0 0, .slice none 0 0, .bool false]) rfl _ _ (w.heap.size + 1) 58 (0, 0) _ rfl ?_ Try.underlying58 rfl info_ans) rfl ?_
  · simp only [hset, if_true]
    rw [HZ.out]
    simp [objSet]
  exact ⟨rfl, does_end H0.out H1.out (chg6 w1 _ _ _ _ _ _ _)⟩

theorem does_end0 {w1 W' : World} {k n m : Int} (h : DRep w d D F) (hl : Chg (fun _ => False) (W2 w k nm bv n m) w1) (hW : Chg (· = w.heap.size + 1) w1 W') : DRep W' d D F ∧ Chg (fun _ => False) w W' := by
  have hc : Chg (fun _ => False) w W' := (((Chg.refl (fun _ => False) w).alloc _).alloc _).trans hl (fun k hk => hk.elim) |>.trans hW (fun k hk => .inr (by omega))
  exact ⟨h.chg hc fun _ _ h => h, hc⟩
theorem left_false {w w1 : World} (h : DRep w1 d D F) (hc : Chg (fun _ => False) w w1) : Left w d F D w1 := ⟨F, h, hc.mono (fun k hk => hk.elim), fun k hk => .inl hk⟩

set_option maxHeartbeats 4000000 in
theorem does_read (n m : Int) (hs : nm.size ≤ maxLen) (h : DRep w d D F) (hb : ∃ p l c, bv = .slice p l c) :
    Calls Try.prog 29 #[.pointer (some ⟨d, 0, none⟩), opV 5 nm bv n m] w fun e w' => ∃ v, e = .returned (ansV ((D.read nm n m).2 : Int) 0 0 v (.slice none 0 0) false) ∧
      OB w' 5 v (D.read nm n m).1 ∧ (∀ b, sblk v = some b → w.heap.size ≤ b) ∧ DRep w' d D F ∧ Chg (fun _ => False) w w' := by
  obtain ⟨p, l, c, rfl⟩ := hb
  have hc := read_any n m hs (drep_W2 h 5 nm (.slice p l c) n m)
  have HC := Lib.hid hc
  have H0 := Lib.hid h
  clear hc h
  unfold opV ansV
  generalize (D.read nm n m).1 = bs at *
  generalize (D.read nm n m).2 = r at *
  go_enter Try.func29, Try.ntmps29
  go_wp2_with (first | (go_at_call 16; refine (num_any _ _).mono ?_; rintro e w' ⟨rfl, rfl⟩) | (go_at_call 26; refine stop ?_))
  refine go ?_
  refine HC.out.mono ?_
  rintro e w1 ⟨v, rfl, h1, h2, h3, h4⟩
  obtain ⟨pv, cv, rfl, -⟩ := id h1
  have HO := Lib.hid h1
  have HB := Lib.hid h2
  have H1 := Lib.hid (left_false h4 h3)
  have HC1 := Lib.hid h3
  clear h1 h2 h3 h4
  have hz := ans_block H0.out H1.out
  have HZ := Lib.hid hz
  have kc0 := hcell_of hz 0
  have kc1 := hcell_of hz 1
  have kc2 := hcell_of hz 2
  have kc3 := hcell_of hz 3
  have kc4 := hcell_of hz 4
  have kc5 := hcell_of hz 5
  have kf := hfree_of hz
  simp only [List.getElem?_toArray, List.getElem?_cons_zero, List.getElem?_cons_succ] at kc0 kc1 kc2 kc3 kc4 kc5
  clear hz
  go_wp2_with (first | (go_at_call 16; refine (num_any _ _).mono ?_; rintro e w' ⟨rfl, rfl⟩))
  (try simp only [Exit.inBlock, Exit.then])
  refine bodyPost_ret (results_cell1 (p := 4) (cs := #[.int .i64 (r : Int), .int .i64 0, .int .i64 0, .slice pv bs.length cv, .slice none 0 0, .bool false]) rfl _ _ (w.heap.size + 1) 58 (0, 0) _ rfl ?_ Try.underlying58 rfl info_ans) rfl ?_
  · simp only [hset, if_true]
    rw [HZ.out]
    simp [objSet]
  have hch := chg6 w1 (w.heap.size + 1) (.int .i64 (r : Int)) (.int .i64 0) (.int .i64 0) (.slice pv bs.length cv) (.slice none 0 0) (.bool false)
  have hw2 : ∀ b, sblk (.slice pv bs.length cv) = some b → w.heap.size + 2 ≤ b := fun b hb => by have := HB.out b hb; simp [W2] at this; omega
  exact ⟨_, rfl, OC.chg HO.out hch (fun b hb e => by have := hw2 b hb; omega), fun b hb => by have := hw2 b hb; omega, does_end0 H0.out HC1.out hch⟩

theorem FilesAt.chg {w w' : World} {v : Value} {l : List LF} {G : Nat → Prop} (h : FilesAt w v l) (hc : Chg G w w') (hG : ∀ k ∈ lblks v l, ¬ G k) : FilesAt w' v l :=
  ⟨OC.chg h.sl hc fun b hb => hG b (mem_lblks hb), fun x hx => OC.chg (h.each x hx) hc fun b hb => hG b (List.mem_append.2 (.inr (List.mem_flatMap.2 ⟨x, hx, by simp [LF.blk, hb]⟩))), h.nodup⟩

set_option maxHeartbeats 4000000 in
theorem does_files (n m : Int) (hN : D.files.length ≤ 1099511627776) (h : DRep w d D F) (hb : ∃ p l c, bv = .slice p l c) :
    Calls Try.prog 29 #[.pointer (some ⟨d, 0, none⟩), opV 7 nm bv n m] w fun e w' => ∃ v l, e = .returned (ansV 0 (D.used : Int) 0 (.slice none 0 0) v D.down) ∧
      FilesAt w' v l ∧ l.map LF.fl = D.files ∧ (∀ k ∈ lblks v l, w.heap.size ≤ k) ∧ DRep w' d D F ∧ Chg (fun _ => False) w w' := by
  obtain ⟨p, l, c, rfl⟩ := hb
  have hc := files_any hN (drep_W2 h 7 nm (.slice p l c) n m)
  have HC := Lib.hid hc
  have H0 := Lib.hid h
  clear hc h
  unfold opV ansV
  go_enter Try.func29, Try.ntmps29
  go_wp2_with (first | (go_at_call 24; refine stop ?_))
  refine go ?_
  refine HC.out.mono ?_
  rintro e w1 ⟨v, fl, rfl, h1, h2, h3, h4⟩
  obtain ⟨pv, cv, rfl, -⟩ := id h1.sl
  have hrep := (drep_W2 H0.out 7 nm (.slice p l c) n m).chg h4 fun _ _ h => h
  have HR := Lib.hid hrep
  have HO := Lib.hid h1
  have HM := Lib.hid h2
  have HB := Lib.hid h3
  have H1 := Lib.hid (left_false hrep h4)
  have HC1 := Lib.hid h4
  clear h1 h2 h3 h4 hrep
  have hz := ans_block H0.out H1.out
  have HZ := Lib.hid hz
  have kc0 := hcell_of hz 0
  have kc1 := hcell_of hz 1
  have kc2 := hcell_of hz 2
  have kc3 := hcell_of hz 3
  have kc4 := hcell_of hz 4
  have kc5 := hcell_of hz 5
  have kf := hfree_of hz
  simp only [List.getElem?_toArray, List.getElem?_cons_zero, List.getElem?_cons_succ] at kc0 kc1 kc2 kc3 kc4 kc5
  clear hz
  go_wp2_with (first | (go_at_call 35; refine (used_any HR.out).mono ?_; rintro e w' ⟨rfl, rfl⟩) | (go_at_call 22; refine (down_any HR.out).mono ?_; rintro e w' ⟨rfl, rfl⟩))
  (try simp only [Exit.inBlock, Exit.then])
  refine bodyPost_ret (results_cell1 (p := 4) (cs := #[.int .i64 0, .int .i64 (D.used : Int), .int .i64 0, .slice none 0 0, .slice pv fl.length cv, .bool D.down]) rfl _ _ (w.heap.size + 1) 58 (0, 0) _ rfl ?_ Try.underlying58 rfl info_ans) rfl ?_
  · simp only [hset, if_true]
    rw [HZ.out]
    simp [objSet]
  have hch := chg6 w1 (w.heap.size + 1) (.int .i64 0) (.int .i64 (D.used : Int)) (.int .i64 0) (.slice none 0 0) (.slice pv fl.length cv) (.bool D.down)
  have hw2 : ∀ b ∈ lblks (.slice pv fl.length cv) fl, w.heap.size + 2 ≤ b := fun b hb => by have := HB.out b hb; simp [W2] at this; omega
  exact ⟨_, fl, rfl, HO.out.chg hch (fun b hb e => by have := hw2 b hb; omega), HM.out, fun b hb => by have := hw2 b hb; omega, does_end0 H0.out HC1.out hch⟩

set_option maxHeartbeats 4000000 in
theorem does_append (n m : Int) {bs : List UInt8} (hl : bs.length ≤ 140737488355328) (hs : nm.size ≤ maxLen) (h : DRep w d D F) (hrb : RB w bv bs) (hb : ∃ p l c, bv = .slice p l c) :
    Calls Try.prog 29 #[.pointer (some ⟨d, 0, none⟩), opV 1 nm bv n m] w fun e w' => e = .returned (ansV ((D.append nm bs).1.2 : Int) ((D.append nm bs).1.1 : Int) 0 (.slice none 0 0) (.slice none 0 0) false) ∧ Left w d F (D.append nm bs).2 w' := by
  obtain ⟨p, l, c, rfl⟩ := hb
  have hrb2 : RB (W2 w 1 nm (.slice p l c) n m) (.slice p l c) bs := RC.keep hrb fun b hb => by
    have := RC.lt hrb hb
    unfold W2
    rw [halloc_lt (by simp; omega), halloc_lt this]
  have HRB2 := Lib.hid hrb2
  have HL := Lib.hid hl
  have H0 := Lib.hid h
  have HS := Lib.hid hs
  have hn0 : (W2 w 1 nm (.slice p l c) n m).cell? ⟨w.heap.size, 1, none⟩ = some (.string nm) := by
    have e : (W2 w 1 nm (.slice p l c) n m).heap[w.heap.size]? = some (.cells #[.int .i64 1, .string nm, .slice p l c, .int .i64 n, .int .i64 m] 56 (0, 0)) := by
      unfold W2
      rw [halloc_lt (by simp)]
      exact halloc_at w _
    rw [hcell_of e]; rfl
  have HN0 := Lib.hid hn0
  clear h hrb hrb2 hl hs hn0
  unfold opV ansV
  go_enter Try.func29, Try.ntmps29
  go_wp2_with (first | (go_at_call 16; refine (num_any _ _).mono ?_; rintro e w' ⟨rfl, rfl⟩))
  refine Rx.wp_region_sched (fun w' => w'.cell? ⟨w.heap.size, 1, none⟩ = some (.string nm)) [(3, .r), (4, .r), (0, .h), (1, .h), (2, .h), (5, .e), (6, .e), (7, .r), (8, .r), (9, .r), (10, .r), (11, .r)] (by kernel_rfl) (by kernel_rfl) HN0.out (fun _ _ x _ _ h => (by cases x <;> exact h)) ?_
  iterate 2 (refine Rx.wpSched_q rfl rfl ?_; go_wp2; refine ⟨rfl, ?_⟩)
  iterate 3 (refine Rx.wpSched_h (v := ?_) rfl rfl ?_ ?_; rotate_left; (intro w' hS'; go_simp; try with_reducible rfl))
  refine Rx.wpSched_e rfl ?_
  go_wp2_with (first | (go_at_call 20; refine stop ?_))
  refine go ?_
  refine (copied_any (w := (W2 w 1 nm (.slice p l c) n m).drew) HL.out (RC.keep HRB2.out fun _ _ => rfl)).mono ?_
  rintro e w1 ⟨v, rfl, a1, a2, a3⟩
  obtain ⟨pv, cv, rfl, -⟩ := id a1
  have a2 : Chg (fun _ => False) (W2 w 1 nm (.slice p l c) n m) w1 := ((Chg.refl (fun _ => False) (W2 w 1 nm (.slice p l c) n m)).drew).trans a2 (fun k hk => hk.elim)
  have hn1 : w1.cell? ⟨w.heap.size, 1, none⟩ = some (.string nm) := (a2.cell (by simp [W2]; omega) (fun h => h)).trans HN0.out
  have hrep := (drep_W2 H0.out 1 nm (.slice p l c) n m).chg a2 fun _ _ h => h
  have hap := append_any HS.out hrep (OB.rb a1) (fun k hk hkF => by
    have h1 := a3 k hk
    have h2 := H0.out.lt k hkF
    have h3 : (W2 w 1 nm (.slice p l c) n m).heap.size = w.heap.size + 2 := by simp [W2]
    have h1 : (W2 w 1 nm (.slice p l c) n m).heap.size ≤ k := h1
    omega)
  have HAP := Lib.hid hap
  have HE1 : Hid (Ev F F (W2 w 1 nm (.slice p l c) n m) w1) := Lib.hid ⟨a2.mono (fun k hk => hk.elim), fun k hk => .inl hk⟩
  have HS1 := Lib.hid (show w.heap.size < w1.heap.size from Nat.lt_of_lt_of_le (by simp [W2]; omega) a2.size)
  have HN1 := Lib.hid hn1
  have hgen : ∃ r1 r2 D', Hid ((D.append nm bs).1.1 = r1) ∧ Hid ((D.append nm bs).1.2 = r2) ∧ Hid ((D.append nm bs).2 = D') := ⟨_, _, _, rfl, rfl, rfl⟩
  clear a1 a2 a3 hap hrep
  go_wp2
  refine ⟨(by exact HN1.out), ?_⟩
  refine Rx.wpSched_e rfl ?_
  go_wp2_with (first | (go_at_call 17; refine stop ?_))
  refine go ?_
  refine HAP.out.mono ?_
  rintro e w2 ⟨rfl, b1⟩
  have H1 := Lib.hid (Left.step HE1.out b1)
  have hn2 : w2.cell? ⟨w.heap.size, 1, none⟩ = some (.string nm) := by
    obtain ⟨F', -, hv⟩ := b1
    exact (hv.chg.cell HS1.out (fun hk => by have := H0.out.lt _ hk; omega)).trans HN1.out
  have HN2 := Lib.hid hn2
  clear b1 hn2
  go_wp2
  refine ⟨(by exact HN2.out), ?_⟩
  iterate 5 (refine Rx.wpSched_q rfl rfl ?_; go_wp2; refine ⟨rfl, ?_⟩)
  refine Rx.wpSched_nil ?_
  obtain ⟨r1, r2, D', g1, g2, g3⟩ := hgen
  rw [g1.out, g2.out]
  clear HAP
  have hz := ans_block H0.out H1.out
  have HZ := Lib.hid hz
  have kc0 := hcell_of hz 0
  have kc1 := hcell_of hz 1
  have kc2 := hcell_of hz 2
  have kc3 := hcell_of hz 3
  have kc4 := hcell_of hz 4
  have kc5 := hcell_of hz 5
  have kf := hfree_of hz
  simp only [List.getElem?_toArray, List.getElem?_cons_zero, List.getElem?_cons_succ] at kc0 kc1 kc2 kc3 kc4 kc5
  clear hz
  go_wp2_with (first | (go_at_call 16; refine (num_any _ _).mono ?_; rintro e w' ⟨rfl, rfl⟩))
  (try simp only [Exit.inBlock, Exit.then])
  refine bodyPost_ret (results_cell1 (p := 4) (cs := #[.int .i64 (r2 : Int), .int .i64 (r1 : Int), .int .i64 0, .slice none 0 0, .slice none 0 0, .bool false]) rfl _ _ (w.heap.size + 1) 58 (0, 0) _ rfl ?_ Try.underlying58 rfl info_ans) rfl ?_
  · simp only [hset, if_true]
    rw [HZ.out]
    simp [objSet]
  exact ⟨by rw [g1.out, g2.out], does_end H0.out H1.out (chg6 w2 _ _ _ _ _ _ _)⟩
end
end Go.Proofs
