/- A book as it lies: what a store does to it; gone, wrote. Conditions: the book lies as BkRep says; at most 2^40 pages. -/
import Derived.Test.YthnemjnepnbjpaaBk
namespace Go.Proofs
open Go.RowKit Go.Hp Go.Dm Go.Dr
set_option linter.unusedVariables false
set_option maxRecDepth 10000

theorem OB_len2 {w : World} {E : TypeId} {p : Option Addr} {n c : Nat} {l : List UInt8} (h : OB w E (.slice p n c) l) : n = l.length := by
  obtain ⟨p', c', e, -⟩ := h
  simp only [Value.slice.injEq] at e
  exact e.2.1
theorem fm_sub {A B : List LF} (h : A.Sublist B) : (A.flatMap LF.blk).Sublist (B.flatMap LF.blk) := by
  induction h with
  | slnil => exact List.Sublist.refl _
  | cons a h ih => rw [List.flatMap_cons]; exact ih.trans (List.sublist_append_right _ _)
  | cons_cons a h ih => rw [List.flatMap_cons, List.flatMap_cons]; exact ih.append_left _
theorem info_page : (Try.prog.info? 92).map (fun i => (i.zero, i.size, i.bytes)) = some (some (.agg #[.string ⟨#[]⟩, .slice none 0 0, .int .i64 0]), 3, 48) := by kernel_rfl

section
variable {w w' W : World} {b : Nat} {v v' : Value} {l ys : List LF} {B : List Fl} {F : List Nat} {nm : ByteArray}

theorem lblks_set {i : Nat} {x y : LF} (hx : l[i]? = some x) (hy : y.blk = x.blk) : lblks v (l.set i y) = lblks v l := by
  obtain ⟨A, C, rfl, h2, -⟩ := set_split hx y
  unfold lblks
  rw [h2, List.flatMap_append, List.flatMap_append, List.flatMap_cons, List.flatMap_cons, hy]
theorem BkRaw.apart (h : BkRaw w b v l) {x : LF} (hx : x ∈ l) {k : Nat} (hk : sblk x.sv = some k) : sblk v ≠ some k ∧ k ≠ b := by
  have hnd := List.nodup_cons.1 h.nodup
  refine ⟨fun e => ?_, fun e => hnd.1 (e ▸ mem_lblks2 hx hk)⟩
  exact (List.nodup_append.1 hnd.2).2.2 k (by simp [e]) k (List.mem_flatMap.2 ⟨x, hx, by simp [LF.blk, hk]⟩) rfl
theorem BkRaw.sep (h : BkRaw w b v l) {i : Nat} {x : LF} (hx : l[i]? = some x) {j : Nat} {y : LF} (hy : l[j]? = some y) {k : Nat} (hk : sblk x.sv = some k) (hk' : sblk y.sv = some k) : i = j := by
  have hnd := (List.nodup_append.1 (List.nodup_cons.1 h.nodup).2).2.1
  by_cases hij : i = j
  · exact hij
  · exfalso
    have key : ∀ (L : List LF) (i j : Nat) (x y : LF), L[i]? = some x → L[j]? = some y → i < j → k ∈ x.blk → k ∈ y.blk → ¬ (L.flatMap LF.blk).Nodup := by
      intro L i j x y hx hy hij hk hk' hn
      obtain ⟨A, C, rfl, -, hA⟩ := set_split hx x
      rw [List.flatMap_append, List.flatMap_cons] at hn
      have h1 := (List.nodup_append.1 (List.nodup_append.1 hn).2.1).2.2 k hk
      have hyC : y ∈ C := by
        rw [List.getElem?_append_right (by omega)] at hy
        have : (x :: C)[j - A.length]? = C[j - A.length - 1]? := by
          obtain ⟨m, hm⟩ : ∃ m, j - A.length = m + 1 := ⟨j - A.length - 1, by omega⟩
          rw [hm]; simp
        rw [this] at hy
        exact List.mem_of_getElem? hy
      exact h1 k (List.mem_flatMap.2 ⟨y, hyC, hk'⟩) rfl
    rcases Nat.lt_or_gt_of_ne hij with h1 | h1
    · exact key l i j x y hx hy h1 (by simp [LF.blk, hk]) (by simp [LF.blk, hk']) hnd
    · exact key l j i y x hy hx h1 (by simp [LF.blk, hk']) (by simp [LF.blk, hk]) hnd

/-- a page's bytes are other ones, in memory of their own -/
theorem BkRaw.put1 {pb n c i : Nat} {x : LF} (h : BkRaw w b (.slice (some ⟨pb, 0, none⟩) n c) l) (hx : l[i]? = some x) (p' : Option Addr) (c' : Nat) (bs : List UInt8) (hob : OB w 5 (.slice p' bs.length c') bs)
    (hfr : ∀ k, sblk (.slice p' bs.length c') = some k → k ∉ b :: lblks (.slice (some ⟨pb, 0, none⟩) n c) l) :
    BkRaw (w.setCell ⟨pb, i * 3 + 1, none⟩ (.slice p' bs.length c')) b (.slice (some ⟨pb, 0, none⟩) n c) (l.set i ⟨x.name, p', c', bs, x.sure⟩) := by
  have hi := (List.getElem?_eq_some_iff.1 hx).1
  obtain ⟨pb', x', he, -, hnc, -, -, -, -, -, -, -, -, hpb⟩ := h.pg hi
  obtain rfl : pb = pb' := by simpa using he
  have hc0 : c ≠ 0 := by omega
  have hsv : sblk (.slice (some ⟨pb, 0, none⟩) n c) = some pb := sblk_some hc0
  refine ⟨?_, ?_, fun y hy => ?_, ?_⟩
  · exact (hset_other (p := ⟨pb, i * 3 + 1, none⟩) (Ne.symm hpb)).trans h.head
  · rw [List.length_set, flat_set (u := .slice p' bs.length c') (r := 1) len_lf hx (by decide) rfl]
    exact OC_set h.sl (by rw [flat_len len_lf]; omega) _
  · rcases List.mem_or_eq_of_mem_set hy with hy | rfl
    · exact OC.keep (h.each y hy) fun k hk => hset_other fun e => (h.apart hy hk).1 (hsv.trans (congrArg some e.symm))
    · exact OC.keep hob fun k hk => hset_other fun e => hfr k hk (by
        have e : k = pb := e
        subst e
        exact List.mem_cons.2 (.inr (mem_lblks hsv)))
  · obtain ⟨A, C, rfl, h2, -⟩ := set_split hx (⟨x.name, p', c', bs, x.sure⟩ : LF)
    rw [h2]
    have hnd := h.nodup
    unfold lblks at hnd hfr ⊢
    rw [List.flatMap_append, List.flatMap_cons] at hnd hfr ⊢
    have e1 : ∀ (S A' Y C' : List Nat), b :: (S ++ (A' ++ (Y ++ C'))) = ((b :: S) ++ A') ++ (Y ++ C') := fun S A' Y C' => by simp
    rw [e1] at hnd ⊢
    refine (List.perm_append_comm_assoc _ _ _).nodup_iff.2 (List.nodup_append.2 ⟨?_, ?_, fun a ha a' ha' e => ?_⟩)
    · unfold LF.blk; cases sblk (LF.sv ⟨x.name, p', c', bs, x.sure⟩) <;> simp
    · exact hnd.sublist (List.Sublist.append_left (List.sublist_append_right _ _) _)
    · subst e
      have hk : sblk (.slice p' bs.length c') = some a := by simpa [LF.blk, LF.sv] using ha
      refine hfr a hk ?_
      simp only [List.cons_append, List.mem_cons, List.mem_append] at ha' ⊢
      rcases ha' with h1 | (h1 | h1) | h1
      · exact .inl h1
      · exact .inr (.inl h1)
      · exact .inr (.inr (.inl h1))
      · exact .inr (.inr (.inr (.inr h1)))
/-- a page's number is another one -/
theorem BkRaw.put2 {pb n c i : Nat} {x : LF} (h : BkRaw w b (.slice (some ⟨pb, 0, none⟩) n c) l) (hx : l[i]? = some x) (s : Nat) :
    BkRaw (w.setCell ⟨pb, i * 3 + 2, none⟩ (.int .i64 (s : Int))) b (.slice (some ⟨pb, 0, none⟩) n c) (l.set i ⟨x.name, x.p, x.cap, x.bytes, s⟩) := by
  have hi := (List.getElem?_eq_some_iff.1 hx).1
  obtain ⟨pb', x', he, -, hnc, -, -, -, -, -, -, -, -, hpb⟩ := h.pg hi
  obtain rfl : pb = pb' := by simpa using he
  have hc0 : c ≠ 0 := by omega
  have hsv : sblk (.slice (some ⟨pb, 0, none⟩) n c) = some pb := sblk_some hc0
  have keep : ∀ y ∈ l, OB (w.setCell ⟨pb, i * 3 + 2, none⟩ (.int .i64 (s : Int))) 5 y.sv y.bytes := fun y hy =>
    OC.keep (h.each y hy) fun k hk => hset_other fun e => (h.apart hy hk).1 (hsv.trans (congrArg some e.symm))
  refine ⟨?_, ?_, fun y hy => ?_, ?_⟩
  · exact (hset_other (p := ⟨pb, i * 3 + 2, none⟩) (Ne.symm hpb)).trans h.head
  · rw [List.length_set, flat_set (u := .int .i64 (s : Int)) (r := 2) len_lf hx (by decide) rfl]
    exact OC_set h.sl (by rw [flat_len len_lf]; omega) _
  · rcases List.mem_or_eq_of_mem_set hy with hy | rfl
    · exact keep y hy
    · exact keep x (List.mem_of_getElem? hx)
  · rw [lblks_set (y := ⟨x.name, x.p, x.cap, x.bytes, s⟩) hx rfl]; exact h.nodup
/-- a byte of a page is another one -/
theorem BkRaw.putb {bb i j : Nat} {x : LF} (h : BkRaw w b v l) (hx : l[i]? = some x) (hp : x.p = some ⟨bb, 0, none⟩) (hj : j < x.bytes.length) (hc : x.bytes.length ≤ x.cap) (u : UInt8) :
    BkRaw (w.setCell ⟨bb, j, none⟩ (u8 u)) b v (l.set i ⟨x.name, x.p, x.cap, x.bytes.set j u, x.sure⟩) := by
  have hmem := List.mem_of_getElem? hx
  have hsx : sblk x.sv = some bb := by unfold LF.sv; rw [hp]; exact sblk_some (by omega)
  obtain ⟨h1, h2⟩ := h.apart hmem hsx
  have hsv : (⟨x.name, x.p, x.cap, x.bytes.set j u, x.sure⟩ : LF).sv = x.sv := by simp [LF.sv]
  have henc : (⟨x.name, x.p, x.cap, x.bytes.set j u, x.sure⟩ : LF).enc = x.enc.set 1 x.sv := by simp [LF.enc, hsv]
  refine ⟨?_, ?_, fun y hy => ?_, ?_⟩
  · exact (hset_other (p := ⟨bb, j, none⟩) (Ne.symm h2)).trans h.head
  · have e : (l.set i ⟨x.name, x.p, x.cap, x.bytes.set j u, x.sure⟩).flatMap LF.enc = l.flatMap LF.enc := by
      obtain ⟨A, C, rfl, h2, -⟩ := set_split hx (⟨x.name, x.p, x.cap, x.bytes.set j u, x.sure⟩ : LF)
      rw [h2, List.flatMap_append, List.flatMap_append, List.flatMap_cons, List.flatMap_cons, henc]
      rfl
    rw [List.length_set, e]
    exact OC.keep h.sl fun k hk => hset_other fun e => h1 (hk.trans (congrArg some e))
  · obtain ⟨q, hq⟩ := List.getElem?_of_mem hy
    rw [List.getElem?_set] at hq
    by_cases hqi : i = q
    · rw [if_pos hqi] at hq
      split at hq
      · obtain rfl := Option.some.inj hq
        have ho := h.each x hmem
        have e3 : x.sv = .slice (some ⟨bb, 0, none⟩) x.bytes.length x.cap := by unfold LF.sv; rw [hp]
        rw [e3] at ho
        have := OB_set ho hj u
        rw [hsv, e3]
        exact this
      · cases hq
    · rw [if_neg hqi] at hq
      exact OC.keep (h.each y (List.mem_of_getElem? hq)) fun k hk => hset_other fun e => hqi (h.sep hx hq hsx (by rw [hk]; exact congrArg some e))
  · rw [lblks_set hx (by unfold LF.blk; rw [hsv])]; exact h.nodup

/-- a list of pages that is being made -/
structure GSt (w wr : World) (v : Value) (ys : List LF) : Prop where
  chg : Chg (fun _ => False) w wr
  oc : OC wr 3 92 v ys.length (ys.flatMap LF.enc)
  low : ∀ k, sblk v = some k → w.heap.size ≤ k
theorem GSt.quiet (h : GSt w W v ys) (hc : Chg (fun _ => False) W w') : GSt w w' v ys := ⟨h.chg.trans hc fun _ h => h.elim, OC.chg h.oc hc fun _ _ h => h, h.low⟩
theorem GSt.push {x : LF} (h : GSt w W v ys) (ho : OC w' 3 92 v' (ys.length + 1) (ys.flatMap LF.enc ++ x.enc)) (hc : Chg (fun b => sblk v = some b) W w') (hb : ∀ b, sblk v' = some b → sblk v = some b ∨ W.heap.size ≤ b) : GSt w w' v' (ys ++ [x]) :=
  ⟨h.chg.trans hc fun k hk => .inr (h.low k hk), by rw [List.length_append, List.flatMap_append]; simpa using ho, fun k hk => (hb k hk).elim (h.low k) fun h' => Nat.le_trans h.chg.size h'⟩
/-- the list becomes the book's -/
theorem GSt.close (h : BkRaw w b v l) (hS : GSt w W v' ys) (he : ∀ y ∈ ys, OB W 5 y.sv y.bytes) (hn : (ys.flatMap LF.blk).Nodup) (ha : ∀ k ∈ ys.flatMap LF.blk, k ≠ b ∧ sblk v' ≠ some k) (hw : ∀ k ∈ ys.flatMap LF.blk, k ∈ lblks v l ∨ w.heap.size ≤ k) :
    BkLeft w b (b :: lblks v l) (ys.map LF.fl) (W.setCell ⟨b, 0, none⟩ v') := by
  have hb : b < w.heap.size := hlt_of h.head
  have hh : W.heap[b]? = _ := (hS.chg.block b hb (fun h => h)).trans h.head
  have hlow : ∀ k, sblk v' = some k → k ≠ b := fun k hk e => by have := hS.low k hk; omega
  refine ⟨b :: lblks v' ys, ⟨v', ys, ⟨?_, ?_, fun y hy => ?_, ?_⟩, rfl, rfl⟩, ⟨?_, fun k hk => ?_⟩⟩
  · simp only [hset, if_true]; rw [hh]; simp [objSet]
  · exact OC.keep hS.oc fun k hk => hset_other (hlow k hk)
  · exact OC.keep (he y hy) fun k hk => hset_other (ha k (List.mem_flatMap.2 ⟨y, hy, by simp [LF.blk, hk]⟩)).1
  · refine List.nodup_cons.2 ⟨fun hk => ?_, List.nodup_append.2 ⟨by cases sblk v' <;> simp, hn, fun a h1 a' h2 e => ?_⟩⟩
    · rcases List.mem_append.1 hk with hk | hk
      · exact hlow b (by simpa using hk) rfl
      · exact (ha b hk).1 rfl
    · subst e
      exact (ha a h2).2 (by simpa using h1)
  · exact (hS.chg.mono (fun k hk => hk.elim)).trans (((Chg.refl (· ∈ b :: lblks v l) W).setCell (p := ⟨b, 0, none⟩) (.inl (by simp)) v')) fun k hk => .inl hk
  · rcases List.mem_cons.1 hk with rfl | hk
    · exact .inl (by simp)
    · rcases List.mem_append.1 hk with hk | hk
      · exact .inr (hS.low k (by simpa using hk))
      · exact (hw k hk).imp (fun h => List.mem_cons.2 (.inr h)) id

def keepN (nm : ByteArray) (l : List LF) : List LF := l.filter fun y => decide (y.name ≠ nm)
set_option maxHeartbeats 4000000 in
theorem gone_walk {i : Nat} {x : LF} (hN : l.length ≤ 1099511627776) (h : BkRaw w b v l) (hn : (l.map (·.name)).Nodup) (hx : l[i]? = some x) :
    Calls Try.prog 54 #[.pointer (some ⟨b, 0, none⟩), .int .i64 (i : Int)] w fun e w' => e = .returned (.tuple #[]) ∧ BkLeft w b (b :: lblks v l) (del x.name (l.map LF.fl)) w' := by
  obtain ⟨p, c, rfl, hnc, -, -⟩ := id h.sl
  have hlli : (l.length : Int) ≤ 1099511627776 := by omega
  have hnci : (l.length : Int) ≤ c := by omega
  have H := Lib.hid h
  have HN := Lib.hid hn
  have HX := Lib.hid hx
  clear h hN hnc hn hx
  go_enter Try.func54, Try.ntmps54
  go_wp2
  go_loopw [4, 5] (fun t4 t5 wr => ∃ pv nv cv, t4 = .slice pv nv cv ∧ ∃ j : Nat, t5 = .int .i64 (j : Int) ∧ j ≤ l.length ∧ GSt w wr (.slice pv nv cv) (keepN x.name (l.take j))) (fun _ t5 _ => l.length - (Lib.intOf t5).toNat)
  case atStart => exact ⟨none, 0, 0, rfl, 0, rfl, Nat.zero_le _, Chg.refl _ _, OC_nil _ _ _, fun k hk => (by cases hk)⟩
  case round =>
    obtain ⟨pv, nv, cv, rfl, j, rfl, hj, hS⟩ := hrel
    have H1 := Lib.hid (H.out.quiet hS.chg)
    have c0 := hcell_of H1.out.head 0
    simp only [List.getElem?_toArray, List.getElem?_cons_zero] at c0
    have HS := Lib.hid hS
    clear hS
    by_cases hjl : (j : Int) < l.length
    · obtain ⟨pb, y, rfl, -, -, hy, hyc, hob, z0, z1, z2, zf, -, -⟩ := H1.out.pg (k := j) (by omega)
      have hj0 : (0 : Int) ≤ (j : Int) := by omega
      have e2 : y.sv = .slice y.p y.bytes.length y.cap := rfl
      rw [e2] at z1
      have htk : keepN x.name (l.take (j + 1)) = keepN x.name (l.take j) ++ keepN x.name [y] := by
        unfold keepN; rw [List.take_add_one, hy, List.filter_append]; rfl
      have HY := Lib.hid hy
      have HTK := Lib.hid htk
      have HLE := Lib.hid (show (keepN x.name (l.take j)).length ≤ j from Nat.le_trans (List.length_filter_le _ _) (by simp; omega))
      clear hy htk hob zf e2
      by_cases hji : (j : Int) = (i : Int)
      · have hji' : j = i := by omega
        subst hji'
        have hyx : y = x := Option.some.inj (HY.out.symm.trans HX.out)
        subst hyx
        have HTK2 : Hid (keepN y.name (l.take (j + 1)) = keepN y.name (l.take j)) := Lib.hid (by rw [HTK.out]; simp [keepN])
        clear hji
        go_wp2
        go_roundw
        case rel => exact ⟨_, _, _, rfl, j + 1, by go_num, by omega, by rw [HTK2.out]; exact HS.out⟩
        case measure => simp [Lib.intOf]; omega
      · have hji2 : ((j : Int) == (i : Int)) = false := by simpa using hji
        have hne : y.name ≠ x.name := fun e => hji (by have := name_inj HN.out HY.out HX.out e; omega)
        have HTK2 : Hid (keepN x.name (l.take (j + 1)) = keepN x.name (l.take j) ++ [y]) := Lib.hid (by rw [HTK.out]; simp [keepN, hne])
        have HRC := Lib.hid (OC_new wr 3 92 #[.string y.name, .slice y.p y.bytes.length y.cap, .int .i64 (y.sure : Int)] 1 1 (by decide) (by unfold maxLen; decide) rfl).rc
        have HS2 := Lib.hid (HS.out.quiet ((Chg.refl (fun _ => False) wr).alloc (.cells #[.string y.name, .slice y.p y.bytes.length y.cap, .int .i64 (y.sure : Int)] 92)))
        clear hji hne
        go_wp2_with (first | (at_builtin; refine stop ?_))
        refine go ?_
        obtain ⟨i0, hi, hz0, hz1, hz2⟩ := info_parts info_page
        refine wpList_append_oc rfl _ _ 52 rfl 92 i0 _ 3 48 Try.underlying52 hi hz0 hz1 hz2 rfl (by decide) rfl rfl HS2.out.oc HRC.out (by intro u hu; simp at hu; rcases hu with rfl | rfl | rfl <;> rfl) (by decide) (by have := HLE.out; omega) ?_
        intro v' w5 b1 b2 b3 b4
        obtain ⟨pv', cv', rfl, -⟩ := id b1
        have S5 := Lib.hid (HS2.out.push (x := y) b1 b2 b3)
        clear b1 b2 b3 b4 hi hz0 hz1 hz2 z0 z1 z2 c0
        go_wp2
        go_roundw
        case rel => exact ⟨_, _, _, rfl, j + 1, by go_num, by omega, by rw [HTK2.out]; exact S5.out⟩
        case measure => simp [Lib.intOf]; omega
    · have hje : l.take j = l := List.take_of_length_le (by omega)
      have hs := HS.out
      rw [hje] at hs
      have HS3 := Lib.hid hs
      have hf := hfree_of H1.out.head 0
      clear hs hje
      go_wp2
      go_end0
      have hsub : (keepN x.name l).Sublist l := List.filter_sublist
      have hnd := H.out.nodup
      have e : del x.name (l.map LF.fl) = (keepN x.name l).map LF.fl := by
        unfold del keepN
        rw [List.filter_map]
        rfl
      rw [e]
      refine ⟨rfl, HS3.out.close H.out (fun y hy => OC.chg (H.out.each y (hsub.subset hy)) HS3.out.chg fun _ _ h => h) ?_ (fun k hk => ?_) (fun k hk => ?_)⟩
      · exact (List.nodup_append.1 (List.nodup_cons.1 hnd).2).2.1.sublist (fm_sub hsub)
      · have hk' : k ∈ lblks (.slice p l.length c) l := List.mem_append.2 (.inr ((fm_sub hsub).subset hk))
        refine ⟨fun e => (List.nodup_cons.1 hnd).1 (e ▸ hk'), fun e => ?_⟩
        have h1 := HS3.out.low k e
        have h2 := H.out.lt k (List.mem_cons.2 (.inr hk'))
        omega
      · exact .inl (List.mem_append.2 (.inr ((fm_sub hsub).subset hk)))
end
end Go.Proofs
