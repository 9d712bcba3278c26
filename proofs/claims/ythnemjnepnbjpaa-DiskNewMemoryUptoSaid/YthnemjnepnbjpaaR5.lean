/- The document's disk: store. Conditions: the disk lies as RRep says; at most 2^40 files. -/
import Derived.Test.YthnemjnepnbjpaaR4
namespace Go.Proofs
open Go.RowKit Go.Hp Go.Dm Go.Dr
set_option linter.unusedVariables false
set_option maxRecDepth 10000

theorem bytesLess_iff : ∀ a b : List UInt8, Op.bytesLess a b = decide (a < b)
  | [], [] => by simp [Op.bytesLess]
  | [], b :: y => by simp [Op.bytesLess]
  | a :: x, [] => by simp [Op.bytesLess]
  | a :: x, b :: y => by
    unfold Op.bytesLess
    rw [bytesLess_iff x y, Bool.eq_iff_iff]
    simp only [Bool.or_eq_true, Bool.and_eq_true, decide_eq_true_eq, beq_iff_eq, List.cons_lt_cons_iff]
theorem less_of {a b : ByteArray} (h : nlt a b) : Op.bytesLess a.toList b.toList = true := by
  rw [ByteArray.toList_eq, ByteArray.toList_eq, bytesLess_iff]; exact decide_eq_true h
theorem less_no {a b : ByteArray} (h : ¬ nlt a b) : Op.bytesLess a.toList b.toList = false := by
  rw [ByteArray.toList_eq, ByteArray.toList_eq, bytesLess_iff]; exact decide_eq_false h
theorem info_rf2 : (Try.prog.info? 130).map (fun i => (i.zero, i.size, i.bytes)) = some (some (.agg #[.string ⟨#[]⟩, .bool false, .slice none 0 0, .int .i64 0]), 4, 56) := by kernel_rfl

theorem stGo_mem {nm : RF → ByteArray} {f : RF} : ∀ (l : List RF) (d : Bool), ∀ x ∈ stGo nm f l d, x ∈ l ∨ (x = f ∧ d = false)
  | [], true, x, h => by cases h
  | [], false, x, h => by
    have : x = f := by simpa [stGo] using h
    exact .inr ⟨this, rfl⟩
  | g :: l, true, x, h => by
    by_cases hn : nm g = nm f
    · rw [show stGo nm f (g :: l) true = stGo nm f l true by simp [stGo, hn]] at h
      exact (stGo_mem l true x h).imp (fun h => by simp [h]) id
    · rw [show stGo nm f (g :: l) true = g :: stGo nm f l true by simp [stGo, hn]] at h
      rcases List.mem_cons.1 h with rfl | h
      · exact .inl (by simp)
      · exact (stGo_mem l true x h).imp (fun h => by simp [h]) id
  | g :: l, false, x, h => by
    have up : ∀ d, x ∈ stGo nm f l d → x ∈ g :: l ∨ (x = f ∧ false = false) := fun d h => (stGo_mem l d x h).imp (fun h => by simp [h]) (fun h => ⟨h.1, rfl⟩)
    by_cases h1 : nlt (nm f) (nm g)
    · rw [show stGo nm f (g :: l) false = f :: (if nm g = nm f then stGo nm f l true else g :: stGo nm f l true) by simp [stGo, h1]] at h
      rcases List.mem_cons.1 h with rfl | h
      · exact .inr ⟨rfl, rfl⟩
      · by_cases hn : nm g = nm f
        · rw [if_pos hn] at h; exact up _ h
        · rw [if_neg hn] at h
          rcases List.mem_cons.1 h with rfl | h
          · exact .inl (by simp)
          · exact up _ h
    · by_cases hn : nm g = nm f
      · rw [show stGo nm f (g :: l) false = f :: stGo nm f l true by
          show (if nlt (nm f) (nm g) then _ else if nm g = nm f then f :: stGo nm f l true else g :: stGo nm f l false) = _
          rw [if_neg h1, if_pos hn]] at h
        rcases List.mem_cons.1 h with rfl | h
        · exact .inr ⟨rfl, rfl⟩
        · exact up _ h
      · rw [show stGo nm f (g :: l) false = g :: stGo nm f l false by
          show (if nlt (nm f) (nm g) then _ else if nm g = nm f then f :: stGo nm f l true else g :: stGo nm f l false) = _
          rw [if_neg h1, if_neg hn]] at h
        rcases List.mem_cons.1 h with rfl | h
        · exact .inl (by simp)
        · exact up _ h

/-- the list that is being made -/
structure RSt (w wr : World) (bx : Array Value) (v : Value) (ys : List RF) : Prop where
  chg : Chg (fun _ => False) w wr
  box : wr.heap[w.heap.size]? = some (.cells bx 130 (0, 0))
  oc : OC wr 4 130 v ys.length (ys.flatMap RF.enc)
  low : ∀ b, sblk v = some b → w.heap.size < b
section
variable {w wr w' : World} {bx : Array Value} {v v' : Value} {ys : List RF}
theorem RSt.quiet (h : RSt w wr bx v ys) (hc : Chg (fun _ => False) wr w') : RSt w w' bx v ys :=
  ⟨h.chg.trans hc fun _ h => h.elim, (hc.block _ (hlt_of h.box) (fun h => h)).trans h.box, OC.chg h.oc hc fun _ _ h => h, h.low⟩
theorem RSt.at_ (h : RSt w wr bx v ys) (o : Obj) : RSt w (wr.alloc o) bx v ys := h.quiet ((Chg.refl _ wr).alloc o)
theorem RSt.push {x : RF} (h : RSt w wr bx v ys) (ho : OC w' 4 130 v' (ys.length + 1) (ys.flatMap RF.enc ++ x.enc)) (hc : Chg (fun b => sblk v = some b) wr w') (hb : ∀ b, sblk v' = some b → sblk v = some b ∨ wr.heap.size ≤ b) :
    RSt w w' bx v' (ys ++ [x]) := by
  have hs := hlt_of h.box
  refine ⟨h.chg.trans hc fun k hk => .inr (by have := h.low k hk; omega), (hc.block _ hs (fun e => by have := h.low _ e; omega)).trans h.box, ?_, fun b e => (hb b e).elim (h.low b) (fun h' => by omega)⟩
  rw [List.length_append, List.flatMap_append]
  simpa using ho
end

section
variable {w w' : World} {r : Nat} {D D' : Dk} {K K' L : Int} {v : Value} {l : List RF} {G : List Nat} {nm : ByteArray}
/-- the disk is Dn behind; its new blocks are new, or f's -/
def StoredL (w : World) (r : Nat) (L : Int) (Dn : Dk) (G : List Nat) (f : RF) (w' : World) : Prop := ∃ G', RRepL w' r L Dn G' ∧ Chg (· = r) w w' ∧ ∀ k ∈ G', k ∈ G ∨ w.heap.size ≤ k ∨ sblk f.sv = some k

theorem store_close {W : World} {v' : Value} {ys : List RF} {bx : Array Value} (f : RF) (th : Bool) (h : RRaw w r L D K v l) (hS : RSt w W bx v' ys) (hres : ys = stGo RF.name f l (!th)) (hb : th = true → RB w f.sv f.bytes) (hfr : th = true → sblk f.sv ≠ some r)
    (hok : ({ D with files := storeL f.fl th D.files } : Dk).Ok) :
    StoredL w r L { D with files := storeL f.fl th D.files } (r :: lrblk v l) f (W.setCell ⟨r, 1, none⟩ v') := by
  have hW : RRaw W r L D K v l := h.keepW fun k hk => hS.chg.block k (h.lt k hk) (fun h => h)
  have hmem : ∀ x ∈ ys, x ∈ l ∨ (x = f ∧ th = true) := fun x hx => by
    rw [hres] at hx
    exact (stGo_mem l (!th) x hx).imp id (fun h => ⟨h.1, by simpa using h.2⟩)
  have hblk : ∀ k ∈ lrblk v' ys, (k ∈ lrblk v l ∧ k ≠ r) ∨ w.heap.size < k ∨ (th = true ∧ sblk f.sv = some k ∧ k ≠ r) := fun k hk => by
    rcases List.mem_append.1 hk with hk | hk
    · exact .inr (.inl (hS.low k (by simpa using hk)))
    · obtain ⟨x, hx, hk⟩ := List.mem_flatMap.1 hk
      rcases hmem x hx with hx | ⟨rfl, ht⟩
      · have : k ∈ lrblk v l := mem_lrblk2 hx (by simpa [RF.blk] using hk)
        exact .inl ⟨this, fun e => h.off (e ▸ this)⟩
      · have e : sblk x.sv = some k := by simpa [RF.blk] using hk
        exact .inr (.inr ⟨ht, e, fun e2 => hfr ht (e2 ▸ e)⟩)
  have hr : r < w.heap.size := hlt_of h.head
  have hset1 : Chg (· = r) W (W.setCell ⟨r, 1, none⟩ v') := (Chg.refl (· = r) W).setCell (p := ⟨r, 1, none⟩) (.inl rfl) v'
  refine ⟨r :: lrblk v' ys, hW.setList (D' := { D with files := storeL f.fl th D.files }) hset1 ?_ hS.oc.rc (fun x hx => ?_) (fun hk => ?_) ?_ hok h.keep, ?_, fun k hk => ?_⟩
  · simp only [hset, if_true]; rw [hW.head]; simp [objSet, rhead]
  · rcases hmem x hx with hx | ⟨rfl, ht⟩
    · exact hW.each x hx
    · exact RC.chg (hb ht) hS.chg fun _ _ h => h
  · rcases hblk r hk with h | h | h
    · exact h.2 rfl
    · omega
    · exact h.2.2 rfl
  · show ys.map RF.fl = storeL f.fl th D.files
    rw [hres, ← h.files]
    exact stGo_map (nm := RF.name) (nm' := Fl.name) (h := RF.fl) (fun _ => rfl) f l (!th)
  · exact (hS.chg.mono (fun k hk => hk.elim) : Chg (· = r) w W).trans hset1 fun k hk => .inl hk
  · rcases List.mem_cons.1 hk with rfl | hk
    · exact .inl (by simp)
    · rcases hblk k hk with h | h | h
      · exact .inl (List.mem_cons.2 (.inr h.1))
      · exact .inr (.inl (Nat.le_of_lt h))
      · exact .inr (.inr h.2.1)

set_option maxHeartbeats 8000000 in
theorem rstore_there (f : RF) (hN : D.files.length ≤ 1099511627776) (h : RRepL w r L D G) (hb : RB w f.sv f.bytes) (hfr : sblk f.sv ≠ some r) (hok : ({ D with files := storeL f.fl true D.files } : Dk).Ok) :
    Calls Try.prog 90 #[.pointer (some ⟨r, 0, none⟩), fileV f.name true f.p f.bytes.length f.cap f.sure] w fun e w' => e = .returned (.tuple #[]) ∧ StoredL w r L { D with files := storeL f.fl true D.files } G f w' := by
  obtain ⟨K, v, l, h, rfl⟩ := h
  have hll : l.length = D.files.length := by have := congrArg List.length h.files; simpa using this
  have hlli : (l.length : Int) ≤ 1099511627776 := by omega
  obtain ⟨p, c, rfl, hnc, -, -⟩ := id h.sl
  have hnci : (l.length : Int) ≤ c := by omega
  have H := Lib.hid h
  have HB := Lib.hid hb
  have HFR := Lib.hid hfr
  have HOK := Lib.hid hok
  unfold fileV
  clear h hb hfr hok hN hll hnc
  go_enter Try.func90, Try.ntmps90
  go_wp2
  go_loopw [4, 5, 6] (fun t4 t5 t6 wr => ∃ pv nv cv, t4 = .slice pv nv cv ∧ ∃ (j : Nat) (ys : List RF) (dn : Bool), t6 = .int .i64 (j : Int) ∧ j ≤ l.length ∧ t5 = .bool dn ∧ stFold RF.name f false (l.take j) = (ys, dn) ∧
    RSt w wr #[.string f.name, .bool true, .slice f.p f.bytes.length f.cap, .int .i64 (f.sure : Int)] (.slice pv nv cv) ys ∧ ys.length ≤ 2 * j) (fun _ _ t6 _ => l.length - (Lib.intOf t6).toNat)
  case atStart => exact ⟨none, 0, 0, rfl, 0, [], false, rfl, Nat.zero_le _, rfl, rfl, ⟨(Chg.refl _ w).alloc _, halloc_at w _, OC_nil _ _ _, fun b hb => by cases hb⟩, Nat.le_refl _⟩
  case round =>
    obtain ⟨pv, nv, cv, rfl, j, ys, dn, rfl, hj, rfl, hst, hS, hyl⟩ := hrel
    have H1 := Lib.hid (H.out.keepW (w' := wr) fun k hk => hS.chg.block k (H.out.lt k hk) (fun h => h))
    obtain ⟨c0, c1, c2, c3, c4, fz⟩ := H1.out.cells
    have HS := Lib.hid hS
    have HST := Lib.hid hst
    clear hS hst c0 c2 c3 c4 fz
    by_cases hjl : (j : Int) < l.length
    · obtain ⟨b, off, x, rfl, -, -, hx, z0, z1, z2, z3⟩ := RRaw.file H1.out.sl (k := j) (by omega)
      have hj0 : (0 : Int) ≤ (j : Int) := by omega
      have e2 : x.sv = .slice x.p x.bytes.length x.cap := rfl
      rw [e2] at z2
      have htk : stFold RF.name f false (l.take (j + 1)) = stStep RF.name f (ys, dn) x := by
        rw [List.take_add_one, hx]
        show stFold RF.name f false (l.take j ++ [x]) = _
        rw [stFold_snoc, HST.out]
      have HTK := Lib.hid htk
      have HX := Lib.hid hx
      clear hx e2 htk
      have hbx1 := (halloc_lt (o := .cells #[.string x.name, .bool true, .slice x.p x.bytes.length x.cap, .int .i64 (x.sure : Int)] 130) (hlt_of HS.out.box)).trans HS.out.box
      have hgx1 := halloc_at wr (.cells #[.string x.name, .bool true, .slice x.p x.bytes.length x.cap, .int .i64 (x.sure : Int)] 130)
      have HGX1 := Lib.hid hgx1
      have kc0 := hcell_of hbx1 0
      have kc1 := hcell_of hbx1 1
      have kc2 := hcell_of hbx1 2
      have kc3 := hcell_of hbx1 3
      simp only [List.getElem?_toArray, List.getElem?_cons_zero, List.getElem?_cons_succ] at kc0 kc1 kc2 kc3
      clear hbx1 hgx1
      cases dn with
      | true =>
        by_cases hn : x.name = f.name
        · have HTK : Hid (stFold RF.name f false (l.take (j + 1)) = (ys, true)) := Lib.hid (by rw [HTK.out]; simp [stStep, hn])
          have g1 : (x.name.toList == f.name.toList) = true := by rw [hn]; simp
          clear hn
          go_wp2
          go_roundw
          case rel => exact ⟨_, _, _, rfl, j + 1, _, _, by go_num, by omega, rfl, HTK.out, HS.out.at_ _, by first | omega | (simp; omega)⟩
          case measure => simp [Lib.intOf]; omega
        · have HTK : Hid (stFold RF.name f false (l.take (j + 1)) = (ys ++ [x], true)) := Lib.hid (by rw [HTK.out]; simp [stStep, hn])
          have g1 := tl_ne hn
          clear hn
          go_wp2_with (first | (at_builtin; refine stop ?_))
          refine go ?_
          have hrow := (OC_new (wr.alloc (.cells #[.string x.name, .bool true, .slice x.p x.bytes.length x.cap, .int .i64 (x.sure : Int)] 130)) 4 130 #[.string x.name, .bool true, .slice x.p x.bytes.length x.cap, .int .i64 (x.sure : Int)] 1 1 (by decide) (by unfold maxLen; decide) rfl).rc
          try rw [halloc_size] at hrow
          obtain ⟨i0, hi, hz0, hz1, hz2⟩ := info_parts info_rf2
          refine wpList_append_oc rfl _ _ 133 rfl 130 i0 _ 4 56 Try.underlying133 hi hz0 hz1 hz2 rfl (by decide) rfl rfl ((HS.out.at_ _).at_ _).oc hrow (by intro u hu; simp at hu; rcases hu with rfl | rfl | rfl | rfl <;> rfl) (by decide) (by have := hyl; omega) ?_
          clear hrow hi hz0 hz1 hz2
          intro v' w5 b1 b2 b3 b4
          obtain ⟨pv', cv', rfl, -⟩ := id b1
          have S5 := Lib.hid (((HS.out.at_ _).at_ _).push (x := x) b1 b2 b3)
          clear b1 b2 b3 b4
          go_wp2
          go_roundw
          case rel => exact ⟨_, _, _, rfl, j + 1, _, _, by go_num, by omega, rfl, HTK.out, S5.out, by first | omega | (simp; omega)⟩
          case measure => simp [Lib.intOf]; omega
      | false =>
        by_cases hlt : nlt f.name x.name
        · have hn : x.name ≠ f.name := fun e => by rw [e] at hlt; exact nlt_irrefl _ hlt
          have HTK : Hid (stFold RF.name f false (l.take (j + 1)) = (ys ++ [f] ++ [x], true)) := Lib.hid (by
            rw [HTK.out]; unfold stStep; rw [if_neg (by simp), if_pos hlt, if_neg hn])
          have g1 := tl_ne hn
          have g0 := less_of hlt
          clear hn hlt
          go_wp2_with (first | (at_builtin; refine stop ?_))
          refine go ?_
          have hrow := (OC_new (wr.alloc (.cells #[.string x.name, .bool true, .slice x.p x.bytes.length x.cap, .int .i64 (x.sure : Int)] 130)) 4 130 #[.string f.name, .bool true, .slice f.p f.bytes.length f.cap, .int .i64 (f.sure : Int)] 1 1 (by decide) (by unfold maxLen; decide) rfl).rc
          try rw [halloc_size] at hrow
          obtain ⟨i0, hi, hz0, hz1, hz2⟩ := info_parts info_rf2
          refine wpList_append_oc rfl _ _ 133 rfl 130 i0 _ 4 56 Try.underlying133 hi hz0 hz1 hz2 rfl (by decide) rfl rfl ((HS.out.at_ _).at_ _).oc hrow (by intro u hu; simp at hu; rcases hu with rfl | rfl | rfl | rfl <;> rfl) (by decide) (by have := hyl; omega) ?_
          clear hrow hi hz0 hz1 hz2
          intro v' w5 b1 b2 b3 b4
          obtain ⟨pv', cv', rfl, -⟩ := id b1
          have S5 := Lib.hid (((HS.out.at_ _).at_ _).push (x := f) b1 b2 b3)
          have hgx5 := (b2.block wr.heap.size (by simp; omega) (fun e => by have := OC.lt HS.out.oc e; omega)).trans ((halloc_lt (hlt_of HGX1.out)).trans HGX1.out)
          have hbx5 := S5.out.box
          clear kc0 kc1 kc2 kc3 b1 b2 b3 b4
          have kc0 := hcell_of hbx5 0
          have kc1 := hcell_of hbx5 1
          have kc2 := hcell_of hbx5 2
          have kc3 := hcell_of hbx5 3
          simp only [List.getElem?_toArray, List.getElem?_cons_zero, List.getElem?_cons_succ] at kc0 kc1 kc2 kc3
          have gc0 := hcell_of hgx5 0
          have gc1 := hcell_of hgx5 1
          have gc2 := hcell_of hgx5 2
          have gc3 := hcell_of hgx5 3
          simp only [List.getElem?_toArray, List.getElem?_cons_zero, List.getElem?_cons_succ] at gc0 gc1 gc2 gc3
          clear hbx5 hgx5
          have e5 : (ys ++ [f]).length = ys.length + 1 := by simp
          have hyl5 : (ys ++ [f]).length ≤ 2 * j + 1 := by omega
          have E5 := Lib.hid e5
          clear e5
          go_wp2_with (first | (at_builtin; refine stop ?_))
          refine go ?_
          have hrow := (OC_new w5 4 130 #[.string x.name, .bool true, .slice x.p x.bytes.length x.cap, .int .i64 (x.sure : Int)] 1 1 (by decide) (by unfold maxLen; decide) rfl).rc
          try rw [halloc_size] at hrow
          obtain ⟨i0, hi, hz0, hz1, hz2⟩ := info_parts info_rf2
          refine wpList_append_oc rfl _ _ 133 rfl 130 i0 _ 4 56 Try.underlying133 hi hz0 hz1 hz2 rfl (by decide) rfl rfl (S5.out.at_ _).oc hrow (by intro u hu; simp at hu; rcases hu with rfl | rfl | rfl | rfl <;> rfl) (by decide) (by have := hyl5; omega) ?_
          clear hrow hi hz0 hz1 hz2
          intro v' w6 b1 b2 b3 b4
          obtain ⟨pv', cv', rfl, -⟩ := id b1
          have S6 := Lib.hid ((S5.out.at_ _).push (x := x) b1 b2 b3)
          clear b1 b2 b3 b4 hyl5
          have s6 := S6.out
          rw [E5.out] at s6
          have S7 := Lib.hid s6
          clear s6
          go_wp2
          go_roundw
          case rel => exact ⟨_, _, _, rfl, j + 1, _, _, by go_num, by omega, rfl, HTK.out, S7.out, by first | omega | (simp; omega)⟩
          case measure => simp [Lib.intOf]; omega
        · have g0 := less_no hlt
          by_cases hn : x.name = f.name
          · have HTK : Hid (stFold RF.name f false (l.take (j + 1)) = (ys ++ [f], true)) := Lib.hid (by
              rw [HTK.out]; unfold stStep; rw [if_neg (by simp), if_neg hlt, if_pos hn])
            have g1 : (x.name.toList == f.name.toList) = true := by rw [hn]; simp
            clear hn hlt
            go_wp2_with (first | (at_builtin; refine stop ?_))
            refine go ?_
            have hrow := (OC_new (wr.alloc (.cells #[.string x.name, .bool true, .slice x.p x.bytes.length x.cap, .int .i64 (x.sure : Int)] 130)) 4 130 #[.string f.name, .bool true, .slice f.p f.bytes.length f.cap, .int .i64 (f.sure : Int)] 1 1 (by decide) (by unfold maxLen; decide) rfl).rc
            try rw [halloc_size] at hrow
            obtain ⟨i0, hi, hz0, hz1, hz2⟩ := info_parts info_rf2
            refine wpList_append_oc rfl _ _ 133 rfl 130 i0 _ 4 56 Try.underlying133 hi hz0 hz1 hz2 rfl (by decide) rfl rfl ((HS.out.at_ _).at_ _).oc hrow (by intro u hu; simp at hu; rcases hu with rfl | rfl | rfl | rfl <;> rfl) (by decide) (by have := hyl; omega) ?_
            clear hrow hi hz0 hz1 hz2
            intro v' w5 b1 b2 b3 b4
            obtain ⟨pv', cv', rfl, -⟩ := id b1
            have S5 := Lib.hid (((HS.out.at_ _).at_ _).push (x := f) b1 b2 b3)
            clear b1 b2 b3 b4
            go_wp2
            go_roundw
            case rel => exact ⟨_, _, _, rfl, j + 1, _, _, by go_num, by omega, rfl, HTK.out, S5.out, by first | omega | (simp; omega)⟩
            case measure => simp [Lib.intOf]; omega
          · have HTK : Hid (stFold RF.name f false (l.take (j + 1)) = (ys ++ [x], false)) := Lib.hid (by
              rw [HTK.out]; unfold stStep; rw [if_neg (by simp), if_neg hlt, if_neg hn])
            have g1 := tl_ne hn
            clear hn hlt
            go_wp2_with (first | (at_builtin; refine stop ?_))
            refine go ?_
            have hrow := (OC_new (wr.alloc (.cells #[.string x.name, .bool true, .slice x.p x.bytes.length x.cap, .int .i64 (x.sure : Int)] 130)) 4 130 #[.string x.name, .bool true, .slice x.p x.bytes.length x.cap, .int .i64 (x.sure : Int)] 1 1 (by decide) (by unfold maxLen; decide) rfl).rc
            try rw [halloc_size] at hrow
            obtain ⟨i0, hi, hz0, hz1, hz2⟩ := info_parts info_rf2
            refine wpList_append_oc rfl _ _ 133 rfl 130 i0 _ 4 56 Try.underlying133 hi hz0 hz1 hz2 rfl (by decide) rfl rfl ((HS.out.at_ _).at_ _).oc hrow (by intro u hu; simp at hu; rcases hu with rfl | rfl | rfl | rfl <;> rfl) (by decide) (by have := hyl; omega) ?_
            clear hrow hi hz0 hz1 hz2
            intro v' w5 b1 b2 b3 b4
            obtain ⟨pv', cv', rfl, -⟩ := id b1
            have S5 := Lib.hid (((HS.out.at_ _).at_ _).push (x := x) b1 b2 b3)
            clear b1 b2 b3 b4
            go_wp2
            go_roundw
            case rel => exact ⟨_, _, _, rfl, j + 1, _, _, by go_num, by omega, rfl, HTK.out, S5.out, by first | omega | (simp; omega)⟩
            case measure => simp [Lib.intOf]; omega
    · have hje : l.take j = l := List.take_of_length_le (by omega)
      have HST2 : Hid (stFold RF.name f false l = (ys, dn)) := Lib.hid (by rw [← HST.out, hje])
      have hbx1 := HS.out.box
      have hyl : ys.length ≤ 2 * l.length := by omega
      clear hje
      cases dn with
      | true =>
        have HRES : Hid (ys = stGo RF.name f l false) := Lib.hid (by rw [← stFold_all, HST2.out]; simp)
        obtain ⟨-, -, -, -, -, fz⟩ := H1.out.cells
        go_wp2
        go_end0
        exact ⟨rfl, store_close f true H.out HS.out HRES.out (fun _ => HB.out) (fun _ => HFR.out) HOK.out⟩
      | false =>
        have HRES : Hid (ys ++ [f] = stGo RF.name f l false) := Lib.hid (by rw [← stFold_all, HST2.out]; simp)
        have kc0 := hcell_of hbx1 0
        have kc1 := hcell_of hbx1 1
        have kc2 := hcell_of hbx1 2
        have kc3 := hcell_of hbx1 3
        simp only [List.getElem?_toArray, List.getElem?_cons_zero, List.getElem?_cons_succ] at kc0 kc1 kc2 kc3
        go_wp2_with (first | (at_builtin; refine stop ?_))
        refine go ?_
        have hrow := (OC_new wr 4 130 #[.string f.name, .bool true, .slice f.p f.bytes.length f.cap, .int .i64 (f.sure : Int)] 1 1 (by decide) (by unfold maxLen; decide) rfl).rc
        try rw [halloc_size] at hrow
        obtain ⟨i0, hi, hz0, hz1, hz2⟩ := info_parts info_rf2
        refine wpList_append_oc rfl _ _ 133 rfl 130 i0 _ 4 56 Try.underlying133 hi hz0 hz1 hz2 rfl (by decide) rfl rfl (HS.out.at_ _).oc hrow (by intro u hu; simp at hu; rcases hu with rfl | rfl | rfl | rfl <;> rfl) (by decide) (by have := hyl; omega) ?_
        clear hrow hi hz0 hz1 hz2
        intro v' w5 b1 b2 b3 b4
        obtain ⟨pv', cv', rfl, -⟩ := id b1
        have S5 := Lib.hid ((HS.out.at_ _).push (x := f) b1 b2 b3)
        clear b1 b2 b3 b4 kc0 kc1 kc2 kc3 hbx1
        have H5 := Lib.hid (H.out.keepW (w' := w5) fun k hk => S5.out.chg.block k (H.out.lt k hk) (fun h => h))
        obtain ⟨d0, d1, d2, d3, d4, dz⟩ := H5.out.cells
        clear d0 d2 d3 d4
        go_wp2
        go_end0
        exact ⟨rfl, store_close f true H.out S5.out HRES.out (fun _ => HB.out) (fun _ => HFR.out) HOK.out⟩
set_option maxHeartbeats 8000000 in
theorem rstore_gone (f : RF) (hN : D.files.length ≤ 1099511627776) (h : RRepL w r L D G) (hok : ({ D with files := storeL f.fl false D.files } : Dk).Ok) :
    Calls Try.prog 90 #[.pointer (some ⟨r, 0, none⟩), fileV f.name false f.p f.bytes.length f.cap f.sure] w fun e w' => e = .returned (.tuple #[]) ∧ StoredL w r L { D with files := storeL f.fl false D.files } G f w' := by
  obtain ⟨K, v, l, h, rfl⟩ := h
  have hll : l.length = D.files.length := by have := congrArg List.length h.files; simpa using this
  have hlli : (l.length : Int) ≤ 1099511627776 := by omega
  obtain ⟨p, c, rfl, hnc, -, -⟩ := id h.sl
  have hnci : (l.length : Int) ≤ c := by omega
  have H := Lib.hid h
  have HOK := Lib.hid hok
  unfold fileV
  clear h hok hN hll hnc
  go_enter Try.func90, Try.ntmps90
  go_wp2
  go_loopw [4, 5, 6] (fun t4 t5 t6 wr => ∃ pv nv cv, t4 = .slice pv nv cv ∧ ∃ (j : Nat) (ys : List RF), t6 = .int .i64 (j : Int) ∧ j ≤ l.length ∧ t5 = .bool true ∧ stFold RF.name f true (l.take j) = (ys, true) ∧
    RSt w wr #[.string f.name, .bool false, .slice f.p f.bytes.length f.cap, .int .i64 (f.sure : Int)] (.slice pv nv cv) ys ∧ ys.length ≤ 2 * j) (fun _ _ t6 _ => l.length - (Lib.intOf t6).toNat)
  case atStart => exact ⟨none, 0, 0, rfl, 0, [], rfl, Nat.zero_le _, rfl, rfl, ⟨(Chg.refl _ w).alloc _, halloc_at w _, OC_nil _ _ _, fun b hb => by cases hb⟩, Nat.le_refl _⟩
  case round =>
    obtain ⟨pv, nv, cv, rfl, j, ys, rfl, hj, rfl, hst, hS, hyl⟩ := hrel
    have H1 := Lib.hid (H.out.keepW (w' := wr) fun k hk => hS.chg.block k (H.out.lt k hk) (fun h => h))
    obtain ⟨c0, c1, c2, c3, c4, fz⟩ := H1.out.cells
    have HS := Lib.hid hS
    have HST := Lib.hid hst
    clear hS hst c0 c2 c3 c4 fz
    by_cases hjl : (j : Int) < l.length
    · obtain ⟨b, off, x, rfl, -, -, hx, z0, z1, z2, z3⟩ := RRaw.file H1.out.sl (k := j) (by omega)
      have hj0 : (0 : Int) ≤ (j : Int) := by omega
      have e2 : x.sv = .slice x.p x.bytes.length x.cap := rfl
      rw [e2] at z2
      have htk : stFold RF.name f true (l.take (j + 1)) = stStep RF.name f (ys, true) x := by
        rw [List.take_add_one, hx]
        show stFold RF.name f true (l.take j ++ [x]) = _
        rw [stFold_snoc, HST.out]
      have HTK := Lib.hid htk
      have HX := Lib.hid hx
      clear hx e2 htk
      have hbx1 := (halloc_lt (o := .cells #[.string x.name, .bool true, .slice x.p x.bytes.length x.cap, .int .i64 (x.sure : Int)] 130) (hlt_of HS.out.box)).trans HS.out.box
      have hgx1 := halloc_at wr (.cells #[.string x.name, .bool true, .slice x.p x.bytes.length x.cap, .int .i64 (x.sure : Int)] 130)
      have HGX1 := Lib.hid hgx1
      have kc0 := hcell_of hbx1 0
      have kc1 := hcell_of hbx1 1
      have kc2 := hcell_of hbx1 2
      have kc3 := hcell_of hbx1 3
      simp only [List.getElem?_toArray, List.getElem?_cons_zero, List.getElem?_cons_succ] at kc0 kc1 kc2 kc3
      clear hbx1 hgx1
      by_cases hn : x.name = f.name
      · have HTK : Hid (stFold RF.name f true (l.take (j + 1)) = (ys, true)) := Lib.hid (by rw [HTK.out]; simp [stStep, hn])
        have g1 : (x.name.toList == f.name.toList) = true := by rw [hn]; simp
        clear hn
        go_wp2
        go_roundw
        case rel => exact ⟨_, _, _, rfl, j + 1, _, by go_num, by omega, rfl, HTK.out, HS.out.at_ _, by first | omega | (simp; omega)⟩
        case measure => simp [Lib.intOf]; omega
      · have HTK : Hid (stFold RF.name f true (l.take (j + 1)) = (ys ++ [x], true)) := Lib.hid (by rw [HTK.out]; simp [stStep, hn])
        have g1 := tl_ne hn
        clear hn
        go_wp2_with (first | (at_builtin; refine stop ?_))
        refine go ?_
        have hrow := (OC_new (wr.alloc (.cells #[.string x.name, .bool true, .slice x.p x.bytes.length x.cap, .int .i64 (x.sure : Int)] 130)) 4 130 #[.string x.name, .bool true, .slice x.p x.bytes.length x.cap, .int .i64 (x.sure : Int)] 1 1 (by decide) (by unfold maxLen; decide) rfl).rc
        try rw [halloc_size] at hrow
        obtain ⟨i0, hi, hz0, hz1, hz2⟩ := info_parts info_rf2
        refine wpList_append_oc rfl _ _ 133 rfl 130 i0 _ 4 56 Try.underlying133 hi hz0 hz1 hz2 rfl (by decide) rfl rfl ((HS.out.at_ _).at_ _).oc hrow (by intro u hu; simp at hu; rcases hu with rfl | rfl | rfl | rfl <;> rfl) (by decide) (by have := hyl; omega) ?_
        clear hrow hi hz0 hz1 hz2
        intro v' w5 b1 b2 b3 b4
        obtain ⟨pv', cv', rfl, -⟩ := id b1
        have S5 := Lib.hid (((HS.out.at_ _).at_ _).push (x := x) b1 b2 b3)
        clear b1 b2 b3 b4
        go_wp2
        go_roundw
        case rel => exact ⟨_, _, _, rfl, j + 1, _, by go_num, by omega, rfl, HTK.out, S5.out, by first | omega | (simp; omega)⟩
        case measure => simp [Lib.intOf]; omega
    · have hje : l.take j = l := List.take_of_length_le (by omega)
      have HST2 : Hid (stFold RF.name f true l = (ys, true)) := Lib.hid (by rw [← HST.out, hje])
      have hbx1 := HS.out.box
      have hyl : ys.length ≤ 2 * l.length := by omega
      clear hje
      have HRES : Hid (ys = stGo RF.name f l true) := Lib.hid (by rw [← stFold_all, HST2.out]; simp)
      obtain ⟨-, -, -, -, -, fz⟩ := H1.out.cells
      go_wp2
      go_end0
      exact ⟨rfl, store_close f false H.out HS.out HRES.out (fun h => by cases h) (fun h => by cases h) HOK.out⟩
end
/-- the same of a disk that is no longer being loaded -/
def Stored (w : World) (r : Nat) (Dn : Dk) (G : List Nat) (f : RF) (w' : World) : Prop := ∃ G', RRep w' r Dn G' ∧ Chg (· = r) w w' ∧ ∀ k ∈ G', k ∈ G ∨ w.heap.size ≤ k ∨ sblk f.sv = some k
end Go.Proofs
