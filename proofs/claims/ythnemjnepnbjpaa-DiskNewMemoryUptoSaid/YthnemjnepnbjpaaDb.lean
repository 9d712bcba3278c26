/- does: one call of package disk, chosen by the law's script. Conditions: the disk lies as DRep says; the op's bytes are read and lie apart from the disk. -/
import Derived.Test.YthnemjnepnbjpaaDa
import Derived.Laws.Rows
namespace Go.Proofs
open Go.RowKit Go.Hp Go.Dm Go.Dr
set_option linter.unusedVariables false
set_option maxRecDepth 10000

def opV (k : Int) (nm : ByteArray) (bv : Value) (n m : Int) : Value := .agg #[.int .i64 k, .string nm, bv, .int .i64 n, .int .i64 m]
def ansV (e n m : Int) (bv fv : Value) (down : Bool) : Value := .agg #[.int .i64 e, .int .i64 n, .int .i64 m, bv, fv, .bool down]

theorem chg6 (w : World) (b : Nat) (v0 v1 v2 v3 v4 v5 : Value) : Chg (· = b) w ((((((w.setCell ⟨b, 0, none⟩ v0).setCell ⟨b, 1, none⟩ v1).setCell ⟨b, 2, none⟩ v2).setCell ⟨b, 3, none⟩ v3).setCell ⟨b, 4, none⟩ v4).setCell ⟨b, 5, none⟩ v5) :=
  have e : ∀ {W : World} (i : Nat) (v : Value), Chg (· = b) w W → Chg (· = b) w (W.setCell ⟨b, i, none⟩ v) := fun i v h => h.setCell (p := ⟨b, i, none⟩) (.inl rfl) v
  e 5 v5 (e 4 v4 (e 3 v3 (e 2 v2 (e 1 v1 (e 0 v0 (Chg.refl (· = b) w))))))
theorem results_cell1 {P : Program} {fn : Func} {p : Tmp} {ty : TypeId} {cs : Array Value} (h : fn.results = #[.cell p ty]) (tmps : Array Value) (w : World) (g : Nat) (t : TypeId) (fr : Nat × Nat) (d : TypeDesc)
    (hp : tmps.getD p undef = .pointer (some ⟨g, 0, none⟩)) (hg : w.heap[g]? = some (.cells cs t fr))
    (hu : P.underlying ty = some d) (hd : (match d with | .struct _ | .array _ _ => true | _ => false) = true) (hi : (P.info? ty).map (·.size) = some cs.size) :
    (results fn tmps).run P w = .ok (.agg cs) w := by
  have hp' : tmps[p]?.getD undef = .pointer (some ⟨g, 0, none⟩) := by simpa using hp
  simp [results, h, hp', asAddr, run_loadVar_row w g t ty cs fr d hg hu hd hi]
theorem info_ans : (Try.prog.info? 58).map (·.size) = some 6 := by kernel_rfl
def zeros : Array Value := #[.int .i64 0, .int .i64 0, .int .i64 0, .slice none 0 0, .slice none 0 0, .bool false]
/-- the world in which the op and the answer are laid -/
def W2 (w : World) (k : Int) (nm : ByteArray) (bv : Value) (n m : Int) : World := (w.alloc (.cells #[.int .i64 k, .string nm, bv, .int .i64 n, .int .i64 m] 56)).alloc (.cells zeros 58)

section
variable {w : World} {d : Nat} {D : Dk} {F : List Nat} {nm : ByteArray} {bv : Value}

theorem drep_W2 (h : DRep w d D F) (k : Int) (nm : ByteArray) (bv : Value) (n m : Int) : DRep (W2 w k nm bv n m) d D F := drep_alloc (drep_alloc h _) _
theorem ans_block {w1 : World} {D' : Dk} {k n m : Int} (h : DRep w d D F) (hl : Left (W2 w k nm bv n m) d F D' w1) : w1.heap[w.heap.size + 1]? = some (.cells #[.int .i64 0, .int .i64 0, .int .i64 0, .slice none 0 0, .slice none 0 0, .bool false] 58 (0, 0)) := by
  obtain ⟨F', h1, h2⟩ := hl
  rw [h2.block (by simp [W2]) (fun hk => by have := h.lt _ hk; omega)]
  have := halloc_at (w.alloc (.cells #[.int .i64 k, .string nm, bv, .int .i64 n, .int .i64 m] 56)) (.cells zeros 58)
  simpa [W2, zeros] using this
theorem does_end {w1 W' : World} {D' : Dk} {k n m : Int} (h : DRep w d D F) (hl : Left (W2 w k nm bv n m) d F D' w1) (hW : Chg (· = w.heap.size + 1) w1 W') : Left w d F D' W' := by
  obtain ⟨F', h1, h2⟩ := hl
  have hn : w.heap.size + 1 ∉ F' := h2.out (by simp [W2]) (fun hk => by have := h.lt _ hk; omega)
  have e0 : Ev F F w (W2 w k nm bv n m) := ((Ev.refl F w).alloc _).alloc _
  have e1 := e0.trans h2
  exact ⟨F', h1.chg hW fun k hk e => hn (e ▸ hk), e1.chg.trans hW fun k hk => .inr (by omega), e1.new⟩

set_option maxHeartbeats 4000000 in
theorem does_sync (n m : Int) (hs : nm.size ≤ maxLen) (h : DRep w d D F) (hb : ∃ p l c, bv = .slice p l c) :
    Calls Try.prog 29 #[.pointer (some ⟨d, 0, none⟩), opV 2 nm bv n m] w fun e w' => e = .returned (ansV ((D.sync nm).1 : Int) 0 0 (.slice none 0 0) (.slice none 0 0) false) ∧ Left w d F (D.sync nm).2 w' := by
  obtain ⟨p, l, c, rfl⟩ := hb
  have hc := sync_any hs (drep_W2 h 2 nm (.slice p l c) n m)
  have HC := Lib.hid hc
  have H0 := Lib.hid h
  clear hc h
  unfold opV ansV
  generalize (D.sync nm).1 = r at *
  generalize (D.sync nm).2 = D' at *
  go_enter Try.func29, Try.ntmps29
  go_wp2_with (first | (go_at_call 16; refine (num_any _ _).mono ?_; rintro e w' ⟨rfl, rfl⟩) | (go_at_call 18; refine stop ?_))
  refine go ?_
  refine HC.out.mono ?_
  rintro e w1 ⟨rfl, h1⟩
  have H1 := Lib.hid h1
  clear h1
  have hz := ans_block H0.out H1.out
  have HZ := Lib.hid hz
  have kc0 := hcell_of hz 0
  have kc1 := hcell_of hz 1
  have kc2 := hcell_of hz 2
  have kc3 := hcell_of hz 3
  have kc4 := hcell_of hz 4
  have kc5 := hcell_of hz 5
  have kf := hfree_of hz
  simp only [List.getElem?_toArray, List.getElem?_cons_zero, List.getElem?_cons_succ] at kc0 kc1 kc2 kc3 kc4 kc5
  clear hz
  go_wp2_with (first | (go_at_call 16; refine (num_any _ _).mono ?_; rintro e w' ⟨rfl, rfl⟩))
  (try simp only [Exit.inBlock, Exit.then])
  refine bodyPost_ret (results_cell1 (p := 4) (cs := #[.int .i64 (r : Int), .int .i64 0, .int .i64 0, .slice none 0 0, .slice none 0 0, .bool false]) rfl _ _ (w.heap.size + 1) 58 (0, 0) _ rfl ?_ Try.underlying58 rfl info_ans) rfl ?_
  · simp only [hset, if_true]
    rw [HZ.out]
    simp [objSet]
  exact ⟨rfl, does_end H0.out H1.out (chg6 w1 _ _ _ _ _ _ _)⟩

set_option maxHeartbeats 4000000 in
theorem does_cut (n m : Int) (hs : nm.size ≤ maxLen) (h : DRep w d D F) (hb : ∃ p l c, bv = .slice p l c) :
    Calls Try.prog 29 #[.pointer (some ⟨d, 0, none⟩), opV 3 nm bv n m] w fun e w' => e = .returned (ansV ((D.cut nm n).1 : Int) 0 0 (.slice none 0 0) (.slice none 0 0) false) ∧ Left w d F (D.cut nm n).2 w' := by
  obtain ⟨p, l, c, rfl⟩ := hb
  have hc := cut_any n hs (drep_W2 h 3 nm (.slice p l c) n m)
  have HC := Lib.hid hc
  have H0 := Lib.hid h
  clear hc h
  unfold opV ansV
  generalize (D.cut nm n).1 = r at *
  generalize (D.cut nm n).2 = D' at *
  go_enter Try.func29, Try.ntmps29
  go_wp2_with (first | (go_at_call 16; refine (num_any _ _).mono ?_; rintro e w' ⟨rfl, rfl⟩) | (go_at_call 48; refine stop ?_))
  refine go ?_
  refine HC.out.mono ?_
  rintro e w1 ⟨rfl, h1⟩
  have H1 := Lib.hid h1
  clear h1
  have hz := ans_block H0.out H1.out
  have HZ := Lib.hid hz
  have kc0 := hcell_of hz 0
  have kc1 := hcell_of hz 1
  have kc2 := hcell_of hz 2
  have kc3 := hcell_of hz 3
  have kc4 := hcell_of hz 4
  have kc5 := hcell_of hz 5
  have kf := hfree_of hz
  simp only [List.getElem?_toArray, List.getElem?_cons_zero, List.getElem?_cons_succ] at kc0 kc1 kc2 kc3 kc4 kc5
  clear hz
  go_wp2_with (first | (go_at_call 16; refine (num_any _ _).mono ?_; rintro e w' ⟨rfl, rfl⟩))
  (try simp only [Exit.inBlock, Exit.then])
  refine bodyPost_ret (results_cell1 (p := 4) (cs := #[.int .i64 (r : Int), .int .i64 0, .int .i64 0, .slice none 0 0, .slice none 0 0, .bool false]) rfl _ _ (w.heap.size + 1) 58 (0, 0) _ rfl ?_ Try.underlying58 rfl info_ans) rfl ?_
  · simp only [hset, if_true]
    rw [HZ.out]
    simp [objSet]
  exact ⟨rfl, does_end H0.out H1.out (chg6 w1 _ _ _ _ _ _ _)⟩

set_option maxHeartbeats 4000000 in
theorem does_remove (n m : Int) (hs : nm.size ≤ maxLen) (h : DRep w d D F) (hb : ∃ p l c, bv = .slice p l c) :
    Calls Try.prog 29 #[.pointer (some ⟨d, 0, none⟩), opV 4 nm bv n m] w fun e w' => e = .returned (ansV ((D.remove nm).1 : Int) 0 0 (.slice none 0 0) (.slice none 0 0) false) ∧ Left w d F (D.remove nm).2 w' := by
  obtain ⟨p, l, c, rfl⟩ := hb
  have hc := remove_any hs (drep_W2 h 4 nm (.slice p l c) n m)
  have HC := Lib.hid hc
  have H0 := Lib.hid h
  clear hc h
  unfold opV ansV
  generalize (D.remove nm).1 = r at *
  generalize (D.remove nm).2 = D' at *
  go_enter Try.func29, Try.ntmps29
  go_wp2_with (first | (go_at_call 16; refine (num_any _ _).mono ?_; rintro e w' ⟨rfl, rfl⟩) | (go_at_call 49; refine stop ?_))
  refine go ?_
  refine HC.out.mono ?_
  rintro e w1 ⟨rfl, h1⟩
  have H1 := Lib.hid h1
  clear h1
  have hz := ans_block H0.out H1.out
  have HZ := Lib.hid hz
  have kc0 := hcell_of hz 0
  have kc1 := hcell_of hz 1
  have kc2 := hcell_of hz 2
  have kc3 := hcell_of hz 3
  have kc4 := hcell_of hz 4
  have kc5 := hcell_of hz 5
  have kf := hfree_of hz
  simp only [List.getElem?_toArray, List.getElem?_cons_zero, List.getElem?_cons_succ] at kc0 kc1 kc2 kc3 kc4 kc5
  clear hz
  go_wp2_with (first | (go_at_call 16; refine (num_any _ _).mono ?_; rintro e w' ⟨rfl, rfl⟩))
  (try simp only [Exit.inBlock, Exit.then])
  refine bodyPost_ret (results_cell1 (p := 4) (cs := #[.int .i64 (r : Int), .int .i64 0, .int .i64 0, .slice none 0 0, .slice none 0 0, .bool false]) rfl _ _ (w.heap.size + 1) 58 (0, 0) _ rfl ?_ Try.underlying58 rfl info_ans) rfl ?_
  · simp only [hset, if_true]
    rw [HZ.out]
    simp [objSet]
  exact ⟨rfl, does_end H0.out H1.out (chg6 w1 _ _ _ _ _ _ _)⟩

set_option maxHeartbeats 4000000 in
theorem does_crash (n m : Int) (hn : n ≤ 9223372036854775807) (hs : nm.size ≤ maxLen) (h : DRep w d D F) (hb : ∃ p l c, bv = .slice p l c) :
    Calls Try.prog 29 #[.pointer (some ⟨d, 0, none⟩), opV 9 nm bv n m] w fun e w' => e = .returned (ansV ((D.crash n).1 : Int) 0 0 (.slice none 0 0) (.slice none 0 0) false) ∧ Left w d F (D.crash n).2 w' := by
  obtain ⟨p, l, c, rfl⟩ := hb
  have hc := crash_any n hn (drep_W2 h 9 nm (.slice p l c) n m)
  have HC := Lib.hid hc
  have H0 := Lib.hid h
  clear hc h
  unfold opV ansV
  generalize (D.crash n).1 = r at *
  generalize (D.crash n).2 = D' at *
  clear hn
  go_enter Try.func29, Try.ntmps29
  go_wp2_with (first | (go_at_call 16; refine (num_any _ _).mono ?_; rintro e w' ⟨rfl, rfl⟩) | (go_at_call 21; refine stop ?_))
  refine go ?_
  refine HC.out.mono ?_
  rintro e w1 ⟨rfl, h1⟩
  have H1 := Lib.hid h1
  clear h1
  have hz := ans_block H0.out H1.out
  have HZ := Lib.hid hz
  have kc0 := hcell_of hz 0
  have kc1 := hcell_of hz 1
  have kc2 := hcell_of hz 2
  have kc3 := hcell_of hz 3
  have kc4 := hcell_of hz 4
  have kc5 := hcell_of hz 5
  have kf := hfree_of hz
  simp only [List.getElem?_toArray, List.getElem?_cons_zero, List.getElem?_cons_succ] at kc0 kc1 kc2 kc3 kc4 kc5
  clear hz
  go_wp2_with (first | (go_at_call 16; refine (num_any _ _).mono ?_; rintro e w' ⟨rfl, rfl⟩))
  (try simp only [Exit.inBlock, Exit.then])
  refine bodyPost_ret (results_cell1 (p := 4) (cs := #[.int .i64 (r : Int), .int .i64 0, .int .i64 0, .slice none 0 0, .slice none 0 0, .bool false]) rfl _ _ (w.heap.size + 1) 58 (0, 0) _ rfl ?_ Try.underlying58 rfl info_ans) rfl ?_
  · simp only [hset, if_true]
    rw [HZ.out]
    simp [objSet]
  exact ⟨rfl, does_end H0.out H1.out (chg6 w1 _ _ _ _ _ _ _)⟩

set_option maxHeartbeats 4000000 in
theorem does_size (n m : Int) (hs : nm.size ≤ maxLen) (h : DRep w d D F) (hb : ∃ p l c, bv = .slice p l c) :
    Calls Try.prog 29 #[.pointer (some ⟨d, 0, none⟩), opV 6 nm bv n m] w fun e w' => e = .returned (ansV ((D.size nm).2.2 : Int) ((D.size nm).1 : Int) ((D.size nm).2.1 : Int) (.slice none 0 0) (.slice none 0 0) false) ∧ Left w d F D w' := by
  obtain ⟨p, l, c, rfl⟩ := hb
  have hc := size_any hs (drep_W2 h 6 nm (.slice p l c) n m)
  have HC := Lib.hid hc
  have H0 := Lib.hid h
  clear hc h
  unfold opV ansV
  generalize (D.size nm).1 = r1 at *
  generalize (D.size nm).2.1 = r2 at *
  generalize (D.size nm).2.2 = r3 at *
  go_enter Try.func29, Try.ntmps29
  go_wp2_with (first | (go_at_call 16; refine (num_any _ _).mono ?_; rintro e w' ⟨rfl, rfl⟩) | (go_at_call 50; refine stop ?_))
  refine go ?_
  refine HC.out.mono ?_
  rintro e w1 ⟨rfl, h1⟩
  have H1 := Lib.hid h1
  clear h1
  have hz := ans_block H0.out H1.out
  have HZ := Lib.hid hz
  have kc0 := hcell_of hz 0
  have kc1 := hcell_of hz 1
  have kc2 := hcell_of hz 2
  have kc3 := hcell_of hz 3
  have kc4 := hcell_of hz 4
  have kc5 := hcell_of hz 5
  have kf := hfree_of hz
  simp only [List.getElem?_toArray, List.getElem?_cons_zero, List.getElem?_cons_succ] at kc0 kc1 kc2 kc3 kc4 kc5
  clear hz
  go_wp2_with (first | (go_at_call 16; refine (num_any _ _).mono ?_; rintro e w' ⟨rfl, rfl⟩))
  (try simp only [Exit.inBlock, Exit.then])
  refine bodyPost_ret (results_cell1 (p := 4) (cs := #[.int .i64 (r3 : Int), .int .i64 (r1 : Int), .int .i64 (r2 : Int), .slice none 0 0, .slice none 0 0, .bool false]) rfl _ _ (w.heap.size + 1) 58 (0, 0) _ rfl ?_ Try.underlying58 rfl info_ans) rfl ?_
  · simp only [hset, if_true]
    rw [HZ.out]
    simp [objSet]
  exact ⟨rfl, does_end H0.out H1.out (chg6 w1 _ _ _ _ _ _ _)⟩

theorem arm_left (s k : Int) (hs : s ≤ 9223372036854775807) (hk1 : -9223372036854775808 ≤ k) (hk2 : k ≤ 9223372036854775807) (h : DRep w d D F) :
    Calls Try.prog 19 #[.pointer (some ⟨d, 0, none⟩), .int .i64 s, .int .i64 k] w fun e w' => e = .returned (.int .i64 ((D.arm s k).1 : Int)) ∧ Left w d F (D.arm s k).2 w' :=
  (arm_any s k hs hk1 hk2 h).mono fun e w' ⟨h1, h2, h3⟩ => ⟨h1, F, h2, h3⟩
theorem up_left (h : DRep w d D F) : Calls Try.prog 23 #[.pointer (some ⟨d, 0, none⟩)] w fun e w' => e = .returned (.int .i64 0) ∧ Left w d F D.up w' :=
  (up_any h).mono fun e w' ⟨h1, h2, h3⟩ => ⟨h1, F, h2, h3⟩

set_option maxHeartbeats 4000000 in
theorem does_arm (n m : Int) (hn : n ≤ 9223372036854775807) (hm1 : -9223372036854775808 ≤ m) (hm2 : m ≤ 9223372036854775807) (hs : nm.size ≤ maxLen) (h : DRep w d D F) (hb : ∃ p l c, bv = .slice p l c) :
    Calls Try.prog 29 #[.pointer (some ⟨d, 0, none⟩), opV 8 nm bv n m] w fun e w' => e = .returned (ansV ((D.arm n m).1 : Int) 0 0 (.slice none 0 0) (.slice none 0 0) false) ∧ Left w d F (D.arm n m).2 w' := by
  obtain ⟨p, l, c, rfl⟩ := hb
  have hc := arm_left n m hn hm1 hm2 (drep_W2 h 8 nm (.slice p l c) n m)
  have HC := Lib.hid hc
  have H0 := Lib.hid h
  clear hc h
  unfold opV ansV
  generalize (D.arm n m).1 = r at *
  generalize (D.arm n m).2 = D' at *
  clear hn hm1 hm2
  go_enter Try.func29, Try.ntmps29
  go_wp2_with (first | (go_at_call 16; refine (num_any _ _).mono ?_; rintro e w' ⟨rfl, rfl⟩) | (go_at_call 19; refine stop ?_))
  refine go ?_
  refine HC.out.mono ?_
  rintro e w1 ⟨rfl, h1⟩
  have H1 := Lib.hid h1
  clear h1
  have hz := ans_block H0.out H1.out
  have HZ := Lib.hid hz
  have kc0 := hcell_of hz 0
  have kc1 := hcell_of hz 1
  have kc2 := hcell_of hz 2
  have kc3 := hcell_of hz 3
  have kc4 := hcell_of hz 4
  have kc5 := hcell_of hz 5
  have kf := hfree_of hz
  simp only [List.getElem?_toArray, List.getElem?_cons_zero, List.getElem?_cons_succ] at kc0 kc1 kc2 kc3 kc4 kc5
  clear hz
  go_wp2_with (first | (go_at_call 16; refine (num_any _ _).mono ?_; rintro e w' ⟨rfl, rfl⟩))
  (try simp only [Exit.inBlock, Exit.then])
  refine bodyPost_ret (results_cell1 (p := 4) (cs := #[.int .i64 (r : Int), .int .i64 0, .int .i64 0, .slice none 0 0, .slice none 0 0, .bool false]) rfl _ _ (w.heap.size + 1) 58 (0, 0) _ rfl ?_ Try.underlying58 rfl info_ans) rfl ?_
  · simp only [hset, if_true]
    rw [HZ.out]
    simp [objSet]
  exact ⟨rfl, does_end H0.out H1.out (chg6 w1 _ _ _ _ _ _ _)⟩

set_option maxHeartbeats 4000000 in
theorem does_up (n m : Int) (hs : nm.size ≤ maxLen) (h : DRep w d D F) (hb : ∃ p l c, bv = .slice p l c) :
    Calls Try.prog 29 #[.pointer (some ⟨d, 0, none⟩), opV 10 nm bv n m] w fun e w' => e = .returned (ansV 0 0 0 (.slice none 0 0) (.slice none 0 0) false) ∧ Left w d F D.up w' := by
  obtain ⟨p, l, c, rfl⟩ := hb
  have hc := up_left (drep_W2 h 10 nm (.slice p l c) n m)
  have HC := Lib.hid hc
  have H0 := Lib.hid h
  clear hc h
  unfold opV ansV
  generalize D.up = D' at *
  go_enter Try.func29, Try.ntmps29
  go_wp2_with (first | (go_at_call 16; refine (num_any _ _).mono ?_; rintro e w' ⟨rfl, rfl⟩) | (go_at_call 23; refine stop ?_))
  refine go ?_
  refine HC.out.mono ?_
  rintro e w1 ⟨rfl, h1⟩
  have H1 := Lib.hid h1
  clear h1
  have hz := ans_block H0.out H1.out
  have HZ := Lib.hid hz
  have kc0 := hcell_of hz 0
  have kc1 := hcell_of hz 1
  have kc2 := hcell_of hz 2
  have kc3 := hcell_of hz 3
  have kc4 := hcell_of hz 4
  have kc5 := hcell_of hz 5
  have kf := hfree_of hz
  simp only [List.getElem?_toArray, List.getElem?_cons_zero, List.getElem?_cons_succ] at kc0 kc1 kc2 kc3 kc4 kc5
  clear hz
  go_wp2_with (first | (go_at_call 16; refine (num_any _ _).mono ?_; rintro e w' ⟨rfl, rfl⟩))
  (try simp only [Exit.inBlock, Exit.then])
  refine bodyPost_ret (results_cell1 (p := 4) (cs := #[.int .i64 0, .int .i64 0, .int .i64 0, .slice none 0 0, .slice none 0 0, .bool false]) rfl _ _ (w.heap.size + 1) 58 (0, 0) _ rfl ?_ Try.underlying58 rfl info_ans) rfl ?_
  · simp only [hset, if_true]
    rw [HZ.out]
    simp [objSet]
  exact ⟨rfl, does_end H0.out H1.out (chg6 w1 _ _ _ _ _ _ _)⟩
end
end Go.Proofs
