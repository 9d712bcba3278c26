/- should: one call of the document's disk, chosen by the law's script. Conditions: the disk lies as RRep says; the op's bytes are read and lie apart; at most 2^40 files. -/
import Derived.Test.YthnemjnepnbjpaaRd
namespace Go.Proofs
open Go.RowKit Go.Hp Go.Dm Go.Dr
set_option linter.unusedVariables false
set_option maxRecDepth 10000
section
variable {w : World} {d : Nat} {D : Dk} {F : List Nat} {nm : ByteArray} {bv : Value}
theorem rrep_W2 (h : RRep w d D F) (k : Int) (nm : ByteArray) (bv : Value) (n m : Int) : RRep (W2 w k nm bv n m) d D F := rrep_alloc (rrep_alloc h _) _
theorem rans_block {w1 : World} {D' : Dk} {k n m : Int} (h : RRep w d D F) (hl : RLeft (W2 w k nm bv n m) d F D' w1) : w1.heap[w.heap.size + 1]? = some (.cells #[.int .i64 0, .int .i64 0, .int .i64 0, .slice none 0 0, .slice none 0 0, .bool false] 58 (0, 0)) := by
  obtain ⟨F', h1, h2⟩ := hl
  rw [h2.block (by simp [W2]) (fun hk => by have := h.lt _ hk; omega)]
  have := halloc_at (w.alloc (.cells #[.int .i64 k, .string nm, bv, .int .i64 n, .int .i64 m] 56)) (.cells zeros 58)
  simpa [W2, zeros] using this
theorem should_end {w1 W' : World} {D' : Dk} {k n m : Int} (h : RRep w d D F) (hl : RLeft (W2 w k nm bv n m) d F D' w1) (hW : Chg (· = w.heap.size + 1) w1 W') : RLeft w d F D' W' := by
  obtain ⟨F', h1, h2⟩ := hl
  have hn : w.heap.size + 1 ∉ F' := h2.out (by simp [W2]) (fun hk => by have := h.lt _ hk; omega)
  have e0 : Ev F F w (W2 w k nm bv n m) := ((Ev.refl F w).alloc _).alloc _
  have e1 := e0.trans h2
  exact ⟨F', h1.chg hW fun k hk e => hn (e ▸ hk), e1.chg.trans hW fun k hk => .inr (by omega), e1.new⟩

theorem rleft_false {w w1 : World} (h : RRep w1 d D F) (hc : Chg (fun _ => False) w w1) : RLeft w d F D w1 := ⟨F, h, hc.mono (fun k hk => hk.elim), fun k hk => .inl hk⟩
theorem rsize_left (hs : nm.size ≤ maxLen) (hN : D.files.length ≤ 1099511627776) (h : RRep w d D F) :
    Calls Try.prog 68 #[.pointer (some ⟨d, 0, none⟩), .string nm] w fun e w' => e = .returned (.tuple #[.int .i64 ((D.size nm).1 : Int), .int .i64 ((D.size nm).2.1 : Int), .int .i64 ((D.size nm).2.2 : Int)]) ∧ RLeft w d F D w' :=
  (rsize_any hs hN h).mono fun e w' ⟨h1, h2⟩ => ⟨h1, rleft_false (h.chg h2 fun _ _ h => h) h2⟩
set_option maxHeartbeats 4000000 in
theorem should_sync (n m : Int) (hN : D.files.length ≤ 1099511627776) (hs : nm.size ≤ maxLen) (h : RRep w d D F) (hb : ∃ p l c, bv = .slice p l c) :
    Calls Try.prog 56 #[.pointer (some ⟨d, 0, none⟩), opV 2 nm bv n m] w fun e w' => e = .returned (ansV ((D.sync nm).1 : Int) 0 0 (.slice none 0 0) (.slice none 0 0) false) ∧ RLeft w d F (D.sync nm).2 w' := by
  obtain ⟨p, l, c, rfl⟩ := hb
  have hc := rsync_any hs hN (rrep_W2 h 2 nm (.slice p l c) n m)
  have HC := Lib.hid hc
  have H0 := Lib.hid h
  clear hc h
  unfold opV ansV
  generalize (D.sync nm).1 = r at *
  generalize (D.sync nm).2 = D' at *
  go_enter Try.func56, Try.ntmps56
  go_wp2_with (first | (go_at_call 64; refine stop ?_))
  refine go ?_
  refine HC.out.mono ?_
  rintro e w1 ⟨rfl, h1⟩
  have H1 := Lib.hid h1
  clear h1
  have hz := rans_block H0.out H1.out
  have HZ := Lib.hid hz
  have kc0 := hcell_of hz 0
  have kc1 := hcell_of hz 1
  have kc2 := hcell_of hz 2
  have kc3 := hcell_of hz 3
  have kc4 := hcell_of hz 4
  have kc5 := hcell_of hz 5
  have kf := hfree_of hz
  simp only [List.getElem?_toArray, List.getElem?_cons_zero, List.getElem?_cons_succ] at kc0 kc1 kc2 kc3 kc4 kc5
  clear hz
  go_wp2
  (try simp only [Exit.inBlock, Exit.then])
  refine bodyPost_ret (results_cell1 (p := 4) (cs := #[.int .i64 (r : Int), .int .i64 0, .int .i64 0, .slice none 0 0, .slice none 0 0, .bool false]) rfl _ _ (w.heap.size + 1) 58 (0, 0) _ rfl ?_ Try.underlying58 rfl info_ans) rfl ?_
  · simp only [hset, if_true]
    rw [HZ.out]
    simp [objSet]
  exact ⟨rfl, should_end H0.out H1.out (chg6 w1 _ _ _ _ _ _ _)⟩

set_option maxHeartbeats 4000000 in
theorem should_cut (n m : Int) (hN : D.files.length ≤ 1099511627776) (hs : nm.size ≤ maxLen) (h : RRep w d D F) (hb : ∃ p l c, bv = .slice p l c) :
    Calls Try.prog 56 #[.pointer (some ⟨d, 0, none⟩), opV 3 nm bv n m] w fun e w' => e = .returned (ansV ((D.cut nm n).1 : Int) 0 0 (.slice none 0 0) (.slice none 0 0) false) ∧ RLeft w d F (D.cut nm n).2 w' := by
  obtain ⟨p, l, c, rfl⟩ := hb
  have hc := rcut_any n hs hN (rrep_W2 h 3 nm (.slice p l c) n m)
  have HC := Lib.hid hc
  have H0 := Lib.hid h
  clear hc h
  unfold opV ansV
  generalize (D.cut nm n).1 = r at *
  generalize (D.cut nm n).2 = D' at *
  go_enter Try.func56, Try.ntmps56
  go_wp2_with (first | (go_at_call 65; refine stop ?_))
  refine go ?_
  refine HC.out.mono ?_
  rintro e w1 ⟨rfl, h1⟩
  have H1 := Lib.hid h1
  clear h1
  have hz := rans_block H0.out H1.out
  have HZ := Lib.hid hz
  have kc0 := hcell_of hz 0
  have kc1 := hcell_of hz 1
  have kc2 := hcell_of hz 2
  have kc3 := hcell_of hz 3
  have kc4 := hcell_of hz 4
  have kc5 := hcell_of hz 5
  have kf := hfree_of hz
  simp only [List.getElem?_toArray, List.getElem?_cons_zero, List.getElem?_cons_succ] at kc0 kc1 kc2 kc3 kc4 kc5
  clear hz
  go_wp2
  (try simp only [Exit.inBlock, Exit.then])
  refine bodyPost_ret (results_cell1 (p := 4) (cs := #[.int .i64 (r : Int), .int .i64 0, .int .i64 0, .slice none 0 0, .slice none 0 0, .bool false]) rfl _ _ (w.heap.size + 1) 58 (0, 0) _ rfl ?_ Try.underlying58 rfl info_ans) rfl ?_
  · simp only [hset, if_true]
    rw [HZ.out]
    simp [objSet]
  exact ⟨rfl, should_end H0.out H1.out (chg6 w1 _ _ _ _ _ _ _)⟩

set_option maxHeartbeats 4000000 in
theorem should_remove (n m : Int) (hN : D.files.length ≤ 1099511627776) (hs : nm.size ≤ maxLen) (h : RRep w d D F) (hb : ∃ p l c, bv = .slice p l c) :
    Calls Try.prog 56 #[.pointer (some ⟨d, 0, none⟩), opV 4 nm bv n m] w fun e w' => e = .returned (ansV ((D.remove nm).1 : Int) 0 0 (.slice none 0 0) (.slice none 0 0) false) ∧ RLeft w d F (D.remove nm).2 w' := by
  obtain ⟨p, l, c, rfl⟩ := hb
  have hc := rremove_any hs hN (rrep_W2 h 4 nm (.slice p l c) n m)
  have HC := Lib.hid hc
  have H0 := Lib.hid h
  clear hc h
  unfold opV ansV
  generalize (D.remove nm).1 = r at *
  generalize (D.remove nm).2 = D' at *
  go_enter Try.func56, Try.ntmps56
  go_wp2_with (first | (go_at_call 66; refine stop ?_))
  refine go ?_
  refine HC.out.mono ?_
  rintro e w1 ⟨rfl, h1⟩
  have H1 := Lib.hid h1
  clear h1
  have hz := rans_block H0.out H1.out
  have HZ := Lib.hid hz
  have kc0 := hcell_of hz 0
  have kc1 := hcell_of hz 1
  have kc2 := hcell_of hz 2
  have kc3 := hcell_of hz 3
  have kc4 := hcell_of hz 4
  have kc5 := hcell_of hz 5
  have kf := hfree_of hz
  simp only [List.getElem?_toArray, List.getElem?_cons_zero, List.getElem?_cons_succ] at kc0 kc1 kc2 kc3 kc4 kc5
  clear hz
  go_wp2
  (try simp only [Exit.inBlock, Exit.then])
  refine bodyPost_ret (results_cell1 (p := 4) (cs := #[.int .i64 (r : Int), .int .i64 0, .int .i64 0, .slice none 0 0, .slice none 0 0, .bool false]) rfl _ _ (w.heap.size + 1) 58 (0, 0) _ rfl ?_ Try.underlying58 rfl info_ans) rfl ?_
  · simp only [hset, if_true]
    rw [HZ.out]
    simp [objSet]
  exact ⟨rfl, should_end H0.out H1.out (chg6 w1 _ _ _ _ _ _ _)⟩

set_option maxHeartbeats 4000000 in
theorem should_crash (n m : Int) (hN : D.files.length ≤ 1099511627776) (hn : n ≤ 9223372036854775807) (hs : nm.size ≤ maxLen) (h : RRep w d D F) (hb : ∃ p l c, bv = .slice p l c) :
    Calls Try.prog 56 #[.pointer (some ⟨d, 0, none⟩), opV 9 nm bv n m] w fun e w' => e = .returned (ansV ((D.crash n).1 : Int) 0 0 (.slice none 0 0) (.slice none 0 0) false) ∧ RLeft w d F (D.crash n).2 w' := by
  obtain ⟨p, l, c, rfl⟩ := hb
  have hc := rcrash_any n hn hN (rrep_W2 h 9 nm (.slice p l c) n m)
  have HC := Lib.hid hc
  have H0 := Lib.hid h
  clear hc h
  unfold opV ansV
  generalize (D.crash n).1 = r at *
  generalize (D.crash n).2 = D' at *
  clear hn
  go_enter Try.func56, Try.ntmps56
  go_wp2_with (first | (go_at_call 73; refine stop ?_))
  refine go ?_
  refine HC.out.mono ?_
  rintro e w1 ⟨rfl, h1⟩
  have H1 := Lib.hid h1
  clear h1
  have hz := rans_block H0.out H1.out
  have HZ := Lib.hid hz
  have kc0 := hcell_of hz 0
  have kc1 := hcell_of hz 1
  have kc2 := hcell_of hz 2
  have kc3 := hcell_of hz 3
  have kc4 := hcell_of hz 4
  have kc5 := hcell_of hz 5
  have kf := hfree_of hz
  simp only [List.getElem?_toArray, List.getElem?_cons_zero, List.getElem?_cons_succ] at kc0 kc1 kc2 kc3 kc4 kc5
  clear hz
  go_wp2
  (try simp only [Exit.inBlock, Exit.then])
  refine bodyPost_ret (results_cell1 (p := 4) (cs := #[.int .i64 (r : Int), .int .i64 0, .int .i64 0, .slice none 0 0, .slice none 0 0, .bool false]) rfl _ _ (w.heap.size + 1) 58 (0, 0) _ rfl ?_ Try.underlying58 rfl info_ans) rfl ?_
  · simp only [hset, if_true]
    rw [HZ.out]
    simp [objSet]
  exact ⟨rfl, should_end H0.out H1.out (chg6 w1 _ _ _ _ _ _ _)⟩

set_option maxHeartbeats 4000000 in
theorem should_size (n m : Int) (hN : D.files.length ≤ 1099511627776) (hs : nm.size ≤ maxLen) (h : RRep w d D F) (hb : ∃ p l c, bv = .slice p l c) :
    Calls Try.prog 56 #[.pointer (some ⟨d, 0, none⟩), opV 6 nm bv n m] w fun e w' => e = .returned (ansV ((D.size nm).2.2 : Int) ((D.size nm).1 : Int) ((D.size nm).2.1 : Int) (.slice none 0 0) (.slice none 0 0) false) ∧ RLeft w d F D w' := by
  obtain ⟨p, l, c, rfl⟩ := hb
  have hc := rsize_left hs hN (rrep_W2 h 6 nm (.slice p l c) n m)
  have HC := Lib.hid hc
  have H0 := Lib.hid h
  clear hc h
  unfold opV ansV
  generalize (D.size nm).1 = r1 at *
  generalize (D.size nm).2.1 = r2 at *
  generalize (D.size nm).2.2 = r3 at *
  go_enter Try.func56, Try.ntmps56
  go_wp2_with (first | (go_at_call 68; refine stop ?_))
  refine go ?_
  refine HC.out.mono ?_
  rintro e w1 ⟨rfl, h1⟩
  have H1 := Lib.hid h1
  clear h1
  have hz := rans_block H0.out H1.out
  have HZ := Lib.hid hz
  have kc0 := hcell_of hz 0
  have kc1 := hcell_of hz 1
  have kc2 := hcell_of hz 2
  have kc3 := hcell_of hz 3
  have kc4 := hcell_of hz 4
  have kc5 := hcell_of hz 5
  have kf := hfree_of hz
  simp only [List.getElem?_toArray, List.getElem?_cons_zero, List.getElem?_cons_succ] at kc0 kc1 kc2 kc3 kc4 kc5
  clear hz
  go_wp2
  (try simp only [Exit.inBlock, Exit.then])
  refine bodyPost_ret (results_cell1 (p := 4) (cs := #[.int .i64 (r3 : Int), .int .i64 (r1 : Int), .int .i64 (r2 : Int), .slice none 0 0, .slice none 0 0, .bool false]) rfl _ _ (w.heap.size + 1) 58 (0, 0) _ rfl ?_ Try.underlying58 rfl info_ans) rfl ?_
  · simp only [hset, if_true]
    rw [HZ.out]
    simp [objSet]
  exact ⟨rfl, should_end H0.out H1.out (chg6 w1 _ _ _ _ _ _ _)⟩

theorem rarm_left (s k : Int) (hs : s ≤ 9223372036854775807) (hk2 : k ≤ 9223372036854775807) (h : RRep w d D F) :
    Calls Try.prog 72 #[.pointer (some ⟨d, 0, none⟩), .int .i64 s, .int .i64 k] w fun e w' => e = .returned (.int .i64 ((rArm D s k).1 : Int)) ∧ RLeft w d F (rArm D s k).2 w' :=
  (rarm_any s k hs hk2 h).mono fun e w' ⟨h1, h2, h3⟩ => ⟨h1, F, h2, h3⟩
theorem rup_left (h : RRep w d D F) : Calls Try.prog 74 #[.pointer (some ⟨d, 0, none⟩)] w fun e w' => e = .returned (.int .i64 0) ∧ RLeft w d F D.up w' :=
  (rup_any h).mono fun e w' ⟨h1, h2, h3⟩ => ⟨h1, F, h2, h3⟩

set_option maxHeartbeats 4000000 in
theorem should_arm (n m : Int) (hn : n ≤ 9223372036854775807) (hm2 : m ≤ 9223372036854775807) (hs : nm.size ≤ maxLen) (h : RRep w d D F) (hb : ∃ p l c, bv = .slice p l c) :
    Calls Try.prog 56 #[.pointer (some ⟨d, 0, none⟩), opV 8 nm bv n m] w fun e w' => e = .returned (ansV ((rArm D n m).1 : Int) 0 0 (.slice none 0 0) (.slice none 0 0) false) ∧ RLeft w d F (rArm D n m).2 w' := by
  obtain ⟨p, l, c, rfl⟩ := hb
  have hc := rarm_left n m hn hm2 (rrep_W2 h 8 nm (.slice p l c) n m)
  have HC := Lib.hid hc
  have H0 := Lib.hid h
  clear hc h
  unfold opV ansV
  generalize (rArm D n m).1 = r at *
  generalize (rArm D n m).2 = D' at *
  clear hn hm2
  go_enter Try.func56, Try.ntmps56
  go_wp2_with (first | (go_at_call 72; refine stop ?_))
  refine go ?_
  refine HC.out.mono ?_
  rintro e w1 ⟨rfl, h1⟩
  have H1 := Lib.hid h1
  clear h1
  have hz := rans_block H0.out H1.out
  have HZ := Lib.hid hz
  have kc0 := hcell_of hz 0
  have kc1 := hcell_of hz 1
  have kc2 := hcell_of hz 2
  have kc3 := hcell_of hz 3
  have kc4 := hcell_of hz 4
  have kc5 := hcell_of hz 5
  have kf := hfree_of hz
  simp only [List.getElem?_toArray, List.getElem?_cons_zero, List.getElem?_cons_succ] at kc0 kc1 kc2 kc3 kc4 kc5
  clear hz
  go_wp2
  (try simp only [Exit.inBlock, Exit.then])
  refine bodyPost_ret (results_cell1 (p := 4) (cs := #[.int .i64 (r : Int), .int .i64 0, .int .i64 0, .slice none 0 0, .slice none 0 0, .bool false]) rfl _ _ (w.heap.size + 1) 58 (0, 0) _ rfl ?_ Try.underlying58 rfl info_ans) rfl ?_
  · simp only [hset, if_true]
    rw [HZ.out]
    simp [objSet]
  exact ⟨rfl, should_end H0.out H1.out (chg6 w1 _ _ _ _ _ _ _)⟩

set_option maxHeartbeats 4000000 in
theorem should_up (n m : Int) (hs : nm.size ≤ maxLen) (h : RRep w d D F) (hb : ∃ p l c, bv = .slice p l c) :
    Calls Try.prog 56 #[.pointer (some ⟨d, 0, none⟩), opV 10 nm bv n m] w fun e w' => e = .returned (ansV 0 0 0 (.slice none 0 0) (.slice none 0 0) false) ∧ RLeft w d F D.up w' := by
  obtain ⟨p, l, c, rfl⟩ := hb
  have hc := rup_left (rrep_W2 h 10 nm (.slice p l c) n m)
  have HC := Lib.hid hc
  have H0 := Lib.hid h
  clear hc h
  unfold opV ansV
  generalize D.up = D' at *
  go_enter Try.func56, Try.ntmps56
  go_wp2_with (first | (go_at_call 74; refine stop ?_))
  refine go ?_
  refine HC.out.mono ?_
  rintro e w1 ⟨rfl, h1⟩
  have H1 := Lib.hid h1
  clear h1
  have hz := rans_block H0.out H1.out
  have HZ := Lib.hid hz
  have kc0 := hcell_of hz 0
  have kc1 := hcell_of hz 1
  have kc2 := hcell_of hz 2
  have kc3 := hcell_of hz 3
  have kc4 := hcell_of hz 4
  have kc5 := hcell_of hz 5
  have kf := hfree_of hz
  simp only [List.getElem?_toArray, List.getElem?_cons_zero, List.getElem?_cons_succ] at kc0 kc1 kc2 kc3 kc4 kc5
  clear hz
  go_wp2
  (try simp only [Exit.inBlock, Exit.then])
  refine bodyPost_ret (results_cell1 (p := 4) (cs := #[.int .i64 0, .int .i64 0, .int .i64 0, .slice none 0 0, .slice none 0 0, .bool false]) rfl _ _ (w.heap.size + 1) 58 (0, 0) _ rfl ?_ Try.underlying58 rfl info_ans) rfl ?_
  · simp only [hset, if_true]
    rw [HZ.out]
    simp [objSet]
  exact ⟨rfl, should_end H0.out H1.out (chg6 w1 _ _ _ _ _ _ _)⟩
set_option maxHeartbeats 4000000 in
/-- an op of no kind -/
theorem should_none (k n m : Int) (hk : ¬ (1 ≤ k ∧ k ≤ 11)) (h : RRep w d D F) (hb : ∃ p l c, bv = .slice p l c) :
    Calls Try.prog 56 #[.pointer (some ⟨d, 0, none⟩), opV k nm bv n m] w fun e w' => e = .returned (ansV 0 0 0 (.slice none 0 0) (.slice none 0 0) false) ∧ RLeft w d F D w' := by
  obtain ⟨p, l, c, rfl⟩ := hb
  have H0 := Lib.hid h
  have h1 : (k == 1) = false := beq_eq_false_iff_ne.2 (by omega)
  have h2 : (k == 2) = false := beq_eq_false_iff_ne.2 (by omega)
  have h3 : (k == 3) = false := beq_eq_false_iff_ne.2 (by omega)
  have h4 : (k == 4) = false := beq_eq_false_iff_ne.2 (by omega)
  have h5 : (k == 5) = false := beq_eq_false_iff_ne.2 (by omega)
  have h6 : (k == 6) = false := beq_eq_false_iff_ne.2 (by omega)
  have h7 : (k == 7) = false := beq_eq_false_iff_ne.2 (by omega)
  have h8 : (k == 8) = false := beq_eq_false_iff_ne.2 (by omega)
  have h9 : (k == 9) = false := beq_eq_false_iff_ne.2 (by omega)
  have h10 : (k == 10) = false := beq_eq_false_iff_ne.2 (by omega)
  have h11 : (k == 11) = false := beq_eq_false_iff_ne.2 (by omega)
  have H1 : Hid (RLeft (W2 w k nm (.slice p l c) n m) d F D (W2 w k nm (.slice p l c) n m)) := Lib.hid ⟨F, rrep_W2 h k nm _ n m, Ev.refl _ _⟩
  have hz := rans_block h H1.out
  have hl := should_end h H1.out (Chg.refl _ _)
  unfold W2 zeros at hz hl
  have HZ := Lib.hid hz
  have HL := Lib.hid hl
  clear hz hl
  unfold opV ansV
  clear h hk
  go_enter Try.func56, Try.ntmps56
  go_wp2
  (try simp only [Exit.inBlock, Exit.then])
  refine bodyPost_ret (results_cell1 (p := 4) (cs := #[.int .i64 0, .int .i64 0, .int .i64 0, .slice none 0 0, .slice none 0 0, .bool false]) rfl _ _ (w.heap.size + 1) 58 (0, 0) _ rfl HZ.out Try.underlying58 rfl info_ans) rfl ?_
  exact ⟨rfl, HL.out⟩

set_option maxHeartbeats 4000000 in
theorem should_turn (n m : Int) (hN : D.files.length ≤ 1099511627776) (hs : nm.size ≤ maxLen) (h : RRep w d D F) (hb : ∃ p l c, bv = .slice p l c) :
    Calls Try.prog 56 #[.pointer (some ⟨d, 0, none⟩), opV 11 nm bv n m] w fun e w' => e = .returned (ansV ((D.turn nm n (maskOf m)).1 : Int) 0 0 (.slice none 0 0) (.slice none 0 0) false) ∧ RLeft w d F (D.turn nm n (maskOf m)).2 w' := by
  obtain ⟨p, l, c, rfl⟩ := hb
  have hc := rturn_any n (maskOf m) hs hN (rrep_W2 h 11 nm (.slice p l c) n m)
  have HC := Lib.hid hc
  have H0 := Lib.hid h
  clear hc h
  unfold opV ansV
  generalize (D.turn nm n (maskOf m)).1 = r at *
  generalize (D.turn nm n (maskOf m)).2 = D' at *
  go_enter Try.func56, Try.ntmps56
  go_wp2_with (first | (go_at_call 75; refine stop ?_))
  refine go ?_
  rw [maskOf_eq m]
  refine HC.out.mono ?_
  rintro e w1 ⟨rfl, h1⟩
  have H1 := Lib.hid h1
  clear h1
  have hz := rans_block H0.out H1.out
  have HZ := Lib.hid hz
  have kc0 := hcell_of hz 0
  have kc1 := hcell_of hz 1
  have kc2 := hcell_of hz 2
  have kc3 := hcell_of hz 3
  have kc4 := hcell_of hz 4
  have kc5 := hcell_of hz 5
  have kf := hfree_of hz
  simp only [List.getElem?_toArray, List.getElem?_cons_zero, List.getElem?_cons_succ] at kc0 kc1 kc2 kc3 kc4 kc5
  clear hz
  go_wp2
  (try simp only [Exit.inBlock, Exit.then])
  refine bodyPost_ret (results_cell1 (p := 4) (cs := #[.int .i64 (r : Int), .int .i64 0, .int .i64 0, .slice none 0 0, .slice none 0 0, .bool false]) rfl _ _ (w.heap.size + 1) 58 (0, 0) _ rfl ?_ Try.underlying58 rfl info_ans) rfl ?_
  · simp only [hset, if_true]
    rw [HZ.out]
    simp [objSet]
  exact ⟨rfl, should_end H0.out H1.out (chg6 w1 _ _ _ _ _ _ _)⟩

theorem should_end0 {w1 W' : World} {k n m : Int} (h : RRep w d D F) (hl : Chg (fun _ => False) (W2 w k nm bv n m) w1) (hW : Chg (· = w.heap.size + 1) w1 W') : RRep W' d D F ∧ Chg (fun _ => False) w W' := by
  have hc : Chg (fun _ => False) w W' := (((Chg.refl (fun _ => False) w).alloc _).alloc _).trans hl (fun k hk => hk.elim) |>.trans hW (fun k hk => .inr (by omega))
  exact ⟨h.chg hc fun _ _ h => h, hc⟩

set_option maxHeartbeats 4000000 in
theorem should_read (n m : Int) (hN : D.files.length ≤ 1099511627776) (hs : nm.size ≤ maxLen) (h : RRep w d D F) (hb : ∃ p l c, bv = .slice p l c) :
    Calls Try.prog 56 #[.pointer (some ⟨d, 0, none⟩), opV 5 nm bv n m] w fun e w' => ∃ v, e = .returned (ansV ((D.read nm n m).2 : Int) 0 0 v (.slice none 0 0) false) ∧
      OB w' 5 v (D.read nm n m).1 ∧ (∀ b, sblk v = some b → w.heap.size ≤ b) ∧ RRep w' d D F ∧ Chg (fun _ => False) w w' := by
  obtain ⟨p, l, c, rfl⟩ := hb
  have hc := rread_any n m hs hN (rrep_W2 h 5 nm (.slice p l c) n m)
  have HC := Lib.hid hc
  have H0 := Lib.hid h
  clear hc h
  unfold opV ansV
  generalize (D.read nm n m).1 = bs at *
  generalize (D.read nm n m).2 = r at *
  go_enter Try.func56, Try.ntmps56
  go_wp2_with (first | (go_at_call 67; refine stop ?_))
  refine go ?_
  refine HC.out.mono ?_
  rintro e w1 ⟨v, rfl, h1, h2, h3⟩
  have h4 := (rrep_W2 H0.out 5 nm (.slice p l c) n m).chg h3 fun _ _ h => h
  obtain ⟨pv, cv, rfl, -⟩ := id h1
  have HO := Lib.hid h1
  have HB := Lib.hid h2
  have H1 := Lib.hid (rleft_false h4 h3)
  have HC1 := Lib.hid h3
  clear h1 h2 h3 h4
  have hz := rans_block H0.out H1.out
  have HZ := Lib.hid hz
  have kc0 := hcell_of hz 0
  have kc1 := hcell_of hz 1
  have kc2 := hcell_of hz 2
  have kc3 := hcell_of hz 3
  have kc4 := hcell_of hz 4
  have kc5 := hcell_of hz 5
  have kf := hfree_of hz
  simp only [List.getElem?_toArray, List.getElem?_cons_zero, List.getElem?_cons_succ] at kc0 kc1 kc2 kc3 kc4 kc5
  clear hz
  go_wp2
  (try simp only [Exit.inBlock, Exit.then])
  refine bodyPost_ret (results_cell1 (p := 4) (cs := #[.int .i64 (r : Int), .int .i64 0, .int .i64 0, .slice pv bs.length cv, .slice none 0 0, .bool false]) rfl _ _ (w.heap.size + 1) 58 (0, 0) _ rfl ?_ Try.underlying58 rfl info_ans) rfl ?_
  · simp only [hset, if_true]
    rw [HZ.out]
    simp [objSet]
  have hch := chg6 w1 (w.heap.size + 1) (.int .i64 (r : Int)) (.int .i64 0) (.int .i64 0) (.slice pv bs.length cv) (.slice none 0 0) (.bool false)
  have hw2 : ∀ b, sblk (.slice pv bs.length cv) = some b → w.heap.size + 2 ≤ b := fun b hb => by have := HB.out b hb; simp [W2] at this; omega
  exact ⟨_, rfl, OC.chg HO.out hch (fun b hb e => by have := hw2 b hb; omega), fun b hb => by have := hw2 b hb; omega, should_end0 H0.out HC1.out hch⟩

set_option maxHeartbeats 4000000 in
theorem should_files (n m : Int) (hN : D.files.length ≤ 1099511627776) (h : RRep w d D F) (hb : ∃ p l c, bv = .slice p l c) :
    Calls Try.prog 56 #[.pointer (some ⟨d, 0, none⟩), opV 7 nm bv n m] w fun e w' => ∃ v l, e = .returned (ansV 0 (D.used : Int) 0 (.slice none 0 0) v D.down) ∧
      FilesAt w' v l ∧ l.map LF.fl = D.files ∧ (∀ k ∈ lblks v l, w.heap.size ≤ k) ∧ RRep w' d D F ∧ Chg (fun _ => False) w w' := by
  have HNN := Lib.hid hN
  obtain ⟨p, l, c, rfl⟩ := hb
  have hc := rfiles_any hN (rrep_W2 h 7 nm (.slice p l c) n m)
  have HC := Lib.hid hc
  have H0 := Lib.hid h
  clear hc h
  unfold opV ansV
  go_enter Try.func56, Try.ntmps56
  go_wp2_with (first | (go_at_call 69; refine stop ?_))
  refine go ?_
  refine HC.out.mono ?_
  rintro e w1 ⟨v, fl, rfl, h1, h2, h3, h4⟩
  obtain ⟨pv, cv, rfl, -⟩ := id h1.sl
  have hrep := (rrep_W2 H0.out 7 nm (.slice p l c) n m).chg h4 fun _ _ h => h
  have HR := Lib.hid hrep
  have HO := Lib.hid h1
  have HM := Lib.hid h2
  have HB := Lib.hid h3
  have H1 := Lib.hid (rleft_false hrep h4)
  have HC1 := Lib.hid h4
  clear h1 h2 h3 h4 hrep
  have hz := rans_block H0.out H1.out
  have HZ := Lib.hid hz
  have kc0 := hcell_of hz 0
  have kc1 := hcell_of hz 1
  have kc2 := hcell_of hz 2
  have kc3 := hcell_of hz 3
  have kc4 := hcell_of hz 4
  have kc5 := hcell_of hz 5
  have kf := hfree_of hz
  simp only [List.getElem?_toArray, List.getElem?_cons_zero, List.getElem?_cons_succ] at kc0 kc1 kc2 kc3 kc4 kc5
  clear hz
  go_wp2_with (first | (go_at_call 70; refine (rused_any HNN.out HR.out).mono ?_; rintro e w' ⟨rfl, rfl⟩) | (go_at_call 71; refine (rdown_any HR.out).mono ?_; rintro e w' ⟨rfl, rfl⟩))
  (try simp only [Exit.inBlock, Exit.then])
  refine bodyPost_ret (results_cell1 (p := 4) (cs := #[.int .i64 0, .int .i64 (D.used : Int), .int .i64 0, .slice none 0 0, .slice pv fl.length cv, .bool D.down]) rfl _ _ (w.heap.size + 1) 58 (0, 0) _ rfl ?_ Try.underlying58 rfl info_ans) rfl ?_
  · simp only [hset, if_true]
    rw [HZ.out]
    simp [objSet]
  have hch := chg6 w1 (w.heap.size + 1) (.int .i64 0) (.int .i64 (D.used : Int)) (.int .i64 0) (.slice none 0 0) (.slice pv fl.length cv) (.bool D.down)
  have hw2 : ∀ b ∈ lblks (.slice pv fl.length cv) fl, w.heap.size + 2 ≤ b := fun b hb => by have := HB.out b hb; simp [W2] at this; omega
  exact ⟨_, fl, rfl, HO.out.chg hch (fun b hb e => by have := hw2 b hb; omega), HM.out, fun b hb => by have := hw2 b hb; omega, should_end0 H0.out HC1.out hch⟩


set_option maxHeartbeats 4000000 in
theorem should_append (n m : Int) {bs : List UInt8} (hN : D.files.length + 1 ≤ 1099511627776) (hl : bs.length ≤ 140737488355328) (hs : nm.size ≤ maxLen) (h : RRep w d D F) (hrb : RB w bv bs) (hap : ∀ k, sblk bv = some k → k ∉ F) (hb : ∃ p l c, bv = .slice p l c) :
    Calls Try.prog 56 #[.pointer (some ⟨d, 0, none⟩), opV 1 nm bv n m] w fun e w' => e = .returned (ansV ((D.append nm bs).1.2 : Int) ((D.append nm bs).1.1 : Int) 0 (.slice none 0 0) (.slice none 0 0) false) ∧ RLeft w d F (D.append nm bs).2 w' := by
  have hrb2 : RB (W2 w 1 nm bv n m) bv bs := RC.keep hrb fun b hb => by
    have := RC.lt hrb hb
    unfold W2
    rw [halloc_lt (by simp; omega), halloc_lt this]
  have HX := Lib.hid (rappend_any hl hs hN (rrep_W2 h 1 nm bv n m) hrb2 hap)
  clear hrb hrb2 hap hl hN
  obtain ⟨p, l, c, rfl⟩ := hb
  have hc := HX.out
  have HC := Lib.hid hc
  have H0 := Lib.hid h
  clear hc h
  unfold opV ansV
  clear HX
  generalize (D.append nm bs).1.1 = r1 at *
  generalize (D.append nm bs).1.2 = r2 at *
  generalize (D.append nm bs).2 = D' at *
  go_enter Try.func56, Try.ntmps56
  go_wp2_with (first | (go_at_call 63; refine stop ?_))
  refine go ?_
  refine HC.out.mono ?_
  rintro e w1 ⟨rfl, h1⟩
  have H1 := Lib.hid h1
  clear h1
  have hz := rans_block H0.out H1.out
  have HZ := Lib.hid hz
  have kc0 := hcell_of hz 0
  have kc1 := hcell_of hz 1
  have kc2 := hcell_of hz 2
  have kc3 := hcell_of hz 3
  have kc4 := hcell_of hz 4
  have kc5 := hcell_of hz 5
  have kf := hfree_of hz
  simp only [List.getElem?_toArray, List.getElem?_cons_zero, List.getElem?_cons_succ] at kc0 kc1 kc2 kc3 kc4 kc5
  clear hz
  go_wp2
  (try simp only [Exit.inBlock, Exit.then])
  refine bodyPost_ret (results_cell1 (p := 4) (cs := #[.int .i64 (r2 : Int), .int .i64 (r1 : Int), .int .i64 0, .slice none 0 0, .slice none 0 0, .bool false]) rfl _ _ (w.heap.size + 1) 58 (0, 0) _ rfl ?_ Try.underlying58 rfl info_ans) rfl ?_
  · simp only [hset, if_true]
    rw [HZ.out]
    simp [objSet]
  exact ⟨rfl, should_end H0.out H1.out (chg6 w1 _ _ _ _ _ _ _)⟩
end
namespace Dk
/-- a call of the document's disk -/
def should (D : Dk) (o : OpP) : Ans × Dk := if o.kind = 8 then ({ e := (rArm D o.n o.m).1 }, (rArm D o.n o.m).2) else Go.Proofs.Dk.does D o
end Dk
section
variable {w : World} {d : Nat} {D : Dk} {F : List Nat} {bv : Value} {o : OpP}
/-- a call of the document's disk was made: the answer a lies in v, in memory of its own; the disk is D' behind -/
def RDid (w : World) (d : Nat) (F : List Nat) (D' : Dk) (a : Ans) (v : Value) (w' : World) : Prop :=
  ∃ F' A, RRep w' d D' F' ∧ Ev F F' w w' ∧ AnsIn w' a v A ∧ ∀ k ∈ A, w.heap.size ≤ k ∧ k ∉ F'

theorem should_any (ok : o.Ok) (hN : D.files.length + 1 ≤ 1099511627776) (h : RRep w d D F) (hrb : RB w bv o.b) (hap : ∀ k, sblk bv = some k → k ∉ F) :
    Calls Try.prog 56 #[.pointer (some ⟨d, 0, none⟩), o.val bv] w fun e w' => ∃ v, e = .returned v ∧ RDid w d F (Dk.should D o).2 (Dk.should D o).1 v w' := by
  have hb : ∃ p l c, bv = .slice p l c := by obtain ⟨p, c, e, -⟩ := hrb; exact ⟨p, _, c, e⟩
  have plain : ∀ (e n m : Nat) {D' : Dk} {w' : World}, RLeft w d F D' w' → RDid w d F D' { e := e, n := n, m := m } (ansV (e : Int) (n : Int) (m : Int) (.slice none 0 0) (.slice none 0 0) false) w' := fun e n m {D' w'} ⟨F', h1, h2⟩ =>
    ⟨F', [], h1, h2, ⟨_, _, [], rfl, OB_nil _ _, files_nil w', rfl, rfl⟩, fun k hk => by cases hk⟩
  have hN' : D.files.length ≤ 1099511627776 := by omega
  obtain ⟨k, nm, bs, n, m⟩ := o
  obtain ⟨a1, a2, a3, a4, a5, a6⟩ := ok
  simp only at a1 a2 a3 a4 a5 a6 hrb
  unfold Dk.should Dk.does OpP.val
  simp only
  by_cases h8 : k = 8
  · subst h8
    simp only [if_true]
    exact (should_arm n m a4 a6 a1 h hb).mono fun e w' ⟨e1, e2⟩ => ⟨_, e1, plain _ 0 0 e2⟩
  rw [if_neg h8]
  by_cases h1 : k = 1
  · subst h1
    simp only [if_true]
    exact (should_append n m hN a2 a1 h hrb hap hb).mono fun e w' ⟨e1, e2⟩ => ⟨_, e1, plain _ _ 0 e2⟩
  by_cases h2 : k = 2
  · subst h2
    simp only [if_neg h1, if_true]
    exact (should_sync n m hN' a1 h hb).mono fun e w' ⟨e1, e2⟩ => ⟨_, e1, plain _ 0 0 e2⟩
  by_cases h3 : k = 3
  · subst h3
    simp only [if_neg h1, if_neg h2, if_true]
    exact (should_cut n m hN' a1 h hb).mono fun e w' ⟨e1, e2⟩ => ⟨_, e1, plain _ 0 0 e2⟩
  by_cases h4 : k = 4
  · subst h4
    simp only [if_neg h1, if_neg h2, if_neg h3, if_true]
    exact (should_remove n m hN' a1 h hb).mono fun e w' ⟨e1, e2⟩ => ⟨_, e1, plain _ 0 0 e2⟩
  by_cases h5 : k = 5
  · subst h5
    simp only [if_neg h1, if_neg h2, if_neg h3, if_neg h4, if_true]
    exact (should_read n m hN' a1 h hb).mono fun e w' ⟨v, e1, e2, e3, e4, e5⟩ => ⟨_, e1, F, _, e4, ⟨e5.mono (fun k hk => hk.elim), fun k hk => .inl hk⟩, ⟨_, _, [], rfl, e2, files_nil w', rfl, rfl⟩, fun k hk => by
      have h1 : w.heap.size ≤ k := e3 k (by simpa [lblks] using hk)
      exact ⟨h1, fun hF => by have := h.lt k hF; omega⟩⟩
  by_cases h6 : k = 6
  · subst h6
    simp only [if_neg h1, if_neg h2, if_neg h3, if_neg h4, if_neg h5, if_true]
    exact (should_size n m hN' a1 h hb).mono fun e w' ⟨e1, e2⟩ => ⟨_, e1, plain _ _ _ e2⟩
  by_cases h7 : k = 7
  · subst h7
    simp only [if_neg h1, if_neg h2, if_neg h3, if_neg h4, if_neg h5, if_neg h6, if_true]
    exact (should_files n m hN' h hb).mono fun e w' ⟨v, l, e1, e2, e3, e4, e5, e6⟩ => ⟨_, e1, F, _, e5, ⟨e6.mono (fun k hk => hk.elim), fun k hk => .inl hk⟩, ⟨_, _, l, rfl, OB_nil _ _, e2, e3, rfl⟩, fun k hk => by
      have h1 : w.heap.size ≤ k := e4 k (by simpa using hk)
      exact ⟨h1, fun hF => by have := h.lt k hF; omega⟩⟩
  by_cases h9 : k = 9
  · subst h9
    simp only [if_neg h1, if_neg h2, if_neg h3, if_neg h4, if_neg h5, if_neg h6, if_neg h7, if_neg h8, if_true]
    exact (should_crash n m hN' a4 a1 h hb).mono fun e w' ⟨e1, e2⟩ => ⟨_, e1, plain _ 0 0 e2⟩
  by_cases h10 : k = 10
  · subst h10
    simp only [if_neg h1, if_neg h2, if_neg h3, if_neg h4, if_neg h5, if_neg h6, if_neg h7, if_neg h8, if_neg h9, if_true]
    exact (should_up n m a1 h hb).mono fun e w' ⟨e1, e2⟩ => ⟨_, e1, plain 0 0 0 e2⟩
  by_cases h11 : k = 11
  · subst h11
    simp only [if_neg h1, if_neg h2, if_neg h3, if_neg h4, if_neg h5, if_neg h6, if_neg h7, if_neg h8, if_neg h9, if_neg h10, if_true]
    exact (should_turn n m hN' a1 h hb).mono fun e w' ⟨e1, e2⟩ => ⟨_, e1, plain _ 0 0 e2⟩
  simp only [if_neg h1, if_neg h2, if_neg h3, if_neg h4, if_neg h5, if_neg h6, if_neg h7, if_neg h8, if_neg h9, if_neg h10, if_neg h11]
  exact (should_none k n m (by omega) h hb).mono fun e w' ⟨e1, e2⟩ => ⟨_, e1, plain 0 0 0 e2⟩
end
end Go.Proofs
