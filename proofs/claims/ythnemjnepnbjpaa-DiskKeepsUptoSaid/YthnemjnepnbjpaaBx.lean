/- A book as it lies: wrote. Conditions: the book lies as BkRaw says; at most 2^40 pages. -/
import Derived.Test.YthnemjnepnbjpaaBw
namespace Go.Proofs
open Go.RowKit Go.Hp Go.Dm Go.Dr
set_option linter.unusedVariables false
set_option maxRecDepth 10000

section
variable {w w' w0 w1 w4 : World} {b : Nat} {v v' : Value} {l ys : List LF} {B : List Fl} {F F0 : List Nat} {nm : ByteArray}

theorem BkLeft.drewN {B' : List Fl} (h : BkLeft w b F B' w') (n : Nat) : BkLeft w b F B' (w'.drewN n) := by
  obtain ⟨F', h1, h2⟩ := h
  exact ⟨F', h1.keep fun _ _ => rfl, h2.drewN n⟩
theorem BkRaw.put1_left {pb n c i : Nat} {x : LF} (ev : Ev F0 (b :: lblks (.slice (some ⟨pb, 0, none⟩) n c) l) w0 w1) (h : BkRaw w1 b (.slice (some ⟨pb, 0, none⟩) n c) l) (c4 : Chg (fun _ => False) w1 w4) (hx : l[i]? = some x) (p' : Option Addr) (c' : Nat) (bs : List UInt8)
    (hob : OB w4 5 (.slice p' bs.length c') bs) (hfr : ∀ k, sblk (.slice p' bs.length c') = some k → w1.heap.size ≤ k) :
    BkLeft w0 b F0 ((l.set i ⟨x.name, p', c', bs, x.sure⟩).map LF.fl) (w4.setCell ⟨pb, i * 3 + 1, none⟩ (.slice p' bs.length c')) := by
  have hi := (List.getElem?_eq_some_iff.1 hx).1
  obtain ⟨pb', x', he, -, hnc, -, -, -, -, -, -, -, -, hpb⟩ := h.pg hi
  obtain rfl : pb = pb' := by simpa using he
  have hsv : sblk (.slice (some ⟨pb, 0, none⟩) n c) = some pb := sblk_some (by omega)
  have h4 := h.quiet c4
  have h5 := h4.put1 hx p' c' bs hob fun k hk hin => by have := hfr k hk; have := h.lt k hin; omega
  have hc : Chg (· ∈ b :: lblks (.slice (some ⟨pb, 0, none⟩) n c) l) w1 (w4.setCell ⟨pb, i * 3 + 1, none⟩ (.slice p' bs.length c')) :=
    ((c4.mono fun k hk => .inl hk.elim).setCell (p := ⟨pb, i * 3 + 1, none⟩) (.inl (List.mem_cons.2 (.inr (mem_lblks hsv)))) _)
  refine ⟨_, ⟨_, _, h5, rfl, rfl⟩, ev.trans ⟨hc, fun k hk => ?_⟩⟩
  rcases List.mem_cons.1 hk with rfl | hk
  · exact .inl (by simp)
  · rcases List.mem_append.1 hk with hk | hk
    · exact .inl (List.mem_cons.2 (.inr (List.mem_append.2 (.inl hk))))
    · obtain ⟨y, hy, hk⟩ := List.mem_flatMap.1 hk
      rcases List.mem_or_eq_of_mem_set hy with hy | rfl
      · exact .inl (List.mem_cons.2 (.inr (List.mem_append.2 (.inr (List.mem_flatMap.2 ⟨y, hy, hk⟩)))))
      · exact .inr (hfr k (by simpa [LF.blk, LF.sv] using hk))

set_option maxHeartbeats 4000000 in
theorem wrote_some {i : Nat} {x : LF} {pq : Option Addr} {nq cq : Nat} {bs : List UInt8} (hN : l.length ≤ 1099511627776) (h : BkRaw w b v l) (hn : (l.map (·.name)).Nodup) (hx : l[i]? = some x) (hxn : x.name = nm) (hL : x.bytes.length ≤ 1099511627776) (hbl : bs.length ≤ 70368744177664)
    (hrb : RB w (.slice pq nq cq) bs) :
    Calls Try.prog 31 #[.pointer (some ⟨b, 0, none⟩), .string nm, .slice pq nq cq] w fun e w' => e = .returned (.tuple #[]) ∧ BkLeft w b (b :: lblks v l) (bput nm bs (l.map LF.fl)) w' := by
  obtain ⟨p, c, rfl, hnc, -, -⟩ := id h.sl
  have hp := page_some hN h hn hx hxn
  have HP := Lib.hid hp
  have hres : ∀ y : LF, y.fl = { x.fl with bytes := x.bytes ++ bs } → (l.set i y).map LF.fl = bput nm bs (l.map LF.fl) := fun y hy => by
    rw [map_set_upd (g := fun f => { f with bytes := f.bytes ++ bs }) hn hx hxn hy]
    unfold bput
    have hg : Dm.get (l.map LF.fl) nm = some x.fl := by
      rw [← hxn]
      exact get_of_mem (f := x.fl) (by simpa [List.map_map, Function.comp_def, LF.fl] using hn) (List.mem_map_of_mem (List.mem_of_getElem? hx))
    rw [hg]
  have HRES := Lib.hid hres
  have H1 := Lib.hid h
  have HX1 := Lib.hid hx
  have HLX := Lib.hid hL
  have HBL := Lib.hid hbl
  have HRB1 := Lib.hid hrb
  have EV1 := Lib.hid (Ev.refl (b :: lblks (.slice p l.length c) l) w)
  have hi0 : (0 : Int) ≤ (i : Int) := by omega
  obtain ⟨w1, hw1⟩ : ∃ w1 : World, w1 = w := ⟨_, rfl⟩
  obtain ⟨l1, hl1⟩ : ∃ l1 : List LF, l1 = l := ⟨_, rfl⟩
  obtain ⟨c1, hc1⟩ : ∃ c1 : Nat, c1 = c := ⟨_, rfl⟩
  have hlen : l.length = l1.length := by rw [hl1]
  have hi1 : ¬ ((i : Int) < 0) := by omega
  clear h hn hx hxn hL hbl hrb hp hres hN
  go_enter Try.func31, Try.ntmps31
  go_wp2_with (first | (go_at_call 52; refine HP.out.mono ?_; rintro e w' ⟨rfl, rfl⟩))
  subst hc1 hl1 hw1
  obtain ⟨pb, x0, he0, -, hnc1, hx0, hxc, hob, z0, z1, z2, zf, hpl, hpb⟩ := H1.out.pg (k := i) (List.getElem?_eq_some_iff.1 HX1.out).1
  obtain rfl : x0 = x := Option.some.inj (hx0.symm.trans HX1.out)
  subst he0
  have e2 : x0.sv = .slice x0.p x0.bytes.length x0.cap := rfl
  rw [e2] at z1
  have hi0 : (0 : Int) ≤ (i : Int) := by omega
  have hil : (i : Int) < (l1.length : Int) := by have := (List.getElem?_eq_some_iff.1 HX1.out).1; omega
  have hil2 : (l1.length : Int) ≤ c1 := by omega
  have c0 := hcell_of H1.out.head 0
  simp only [List.getElem?_toArray, List.getElem?_cons_zero] at c0
  have HCP := Lib.hid fun U (hU : Chg (fun _ => False) w1 U) => copied_any (w := U) (l := x0.bytes) (by have := HLX.out; omega) (OB.rb (OC.chg hob hU fun _ _ h => h))
  have HPB := Lib.hid hpb
  have HPL := Lib.hid hpl
  clear hob hpb hpl hx0 e2
  refine Rx.wp_region_sched (fun w' => w'.cell? ⟨b, 0, none⟩ = some (.slice (some ⟨pb, 0, none⟩) l1.length c1)) [(5, .r), (6, .r), (7, .r), (8, .r), (9, .r), (10, .r), (11, .r), (12, .r), (0, .h), (1, .h), (2, .h), (4, .h), (14, .h), (3, .h), (13, .e), (15, .e), (16, .r), (17, .r), (18, .e)] (by kernel_rfl) (by kernel_rfl) (c0) (fun _ _ x _ _ h => (by cases x <;> exact h)) ?_
  iterate 8 (refine Rx.wpSched_q rfl rfl ?_; go_wp2; refine ⟨rfl, ?_⟩)
  iterate 6 (refine Rx.wpSched_h (v := ?_) rfl rfl ?_ ?_; rotate_left; (intro w' hS'; go_simp; try with_reducible rfl))
  refine Rx.wpSched_e rfl ?_
  go_wp2_with (first | (go_at_call 20; refine stop ?_))
  refine go ?_
  refine (HCP.out _ (by first | exact (Chg.refl (fun _ => False) _).drew | exact Chg.refl _ _)).mono ?_
  rintro e w2 ⟨v2, rfl, o2, c2, n2⟩
  obtain ⟨p2, l2, cc2, rfl⟩ : ∃ p l c, v2 = .slice p l c := (by obtain ⟨p3, cc3, e, -⟩ := id o2; exact ⟨_, _, _, e⟩)
  obtain rfl : l2 = x0.bytes.length := OB_len2 o2
  have c2 : Chg (fun _ => False) w1 w2 := (by first | exact ((Chg.refl (fun _ => False) _).drew).trans c2 (fun k hk => hk.elim) | exact c2)
  have H2 := Lib.hid (H1.out.quiet c2)
  have K2 := Lib.hid ((hcell_of H2.out.head 0).trans rfl)
  have RB2 := Lib.hid (RC.chg HRB1.out c2 fun _ _ h => h)
  have O2 := Lib.hid o2
  have C2 := Lib.hid c2
  have N2 : Hid (∀ k, sblk (.slice p2 x0.bytes.length cc2) = some k → w1.heap.size ≤ k) := Lib.hid n2
  clear o2 c2 n2
  go_wp2
  refine ⟨(by exact K2.out), ?_⟩
  refine Rx.wpSched_e rfl ?_
  refine wpList_append_bytes rfl _ _ rfl (v := .slice p2 x0.bytes.length cc2) rfl rfl O2.out RB2.out (by have h1 := HLX.out; have h2 := HBL.out; omega) ?_
  intro p4 l4 c4 w4 a1 a2 a3 a4
  obtain rfl : l4 = x0.bytes.length + bs.length := (OB_len2 a1).trans (by simp)
  have C4 := Lib.hid (C2.out.trans a2 fun k hk => .inr (N2.out k hk))
  have H4 := Lib.hid (H1.out.quiet C4.out)
  have K4 := Lib.hid ((hcell_of H4.out.head 0).trans rfl)
  have hb4 := C4.out.block pb HPL.out (fun h => h)
  have z4 : w4.cell? ⟨pb, i * 3 + 1, none⟩ = some (.slice x0.p x0.bytes.length x0.cap) := (World.cell?_of_block (a := ⟨pb, i * 3 + 1, none⟩) hb4).trans z1
  have f4 : w4.frozen? ⟨pb, i * 3 + 1, none⟩ = false := (by
    obtain ⟨pb', y, he, -, -, hy, -, -, -, -, -, hz, -, -⟩ := H4.out.pg (k := i) (List.getElem?_eq_some_iff.1 HX1.out).1
    obtain rfl : pb = pb' := by simpa using he
    exact hz _)
  have A1 := Lib.hid a1
  have N4 : Hid (∀ k, sblk (.slice p4 (x0.bytes.length + bs.length) c4) = some k → w1.heap.size ≤ k) := Lib.hid (fun k hk => (a3 k hk).elim (fun h => N2.out k h) fun h => Nat.le_trans C2.out.size h)
  have K5 := Lib.hid ((World.cell?_of_block (a := ⟨b, 0, none⟩) (hset_other (w := w4) (p := ⟨pb, i * 3 + 1, none⟩) (v := .slice p4 (x0.bytes.length + bs.length) c4) (Ne.symm HPB.out))).trans K4.out)
  clear a1 a2 a3 a4 hb4
  go_wp2
  refine ⟨(by exact K4.out), ?_⟩
  iterate 2 (refine Rx.wpSched_q rfl rfl ?_; go_wp2; refine ⟨rfl, ?_⟩)
  refine Rx.wpSched_e rfl ?_
  go_wp2
  refine ⟨(by exact K5.out), ?_⟩
  refine Rx.wpSched_nil ?_
  go_wp2
  go_end0
  have hlb : x0.bytes.length + bs.length = (x0.bytes ++ bs).length := by simp
  have hfin := BkRaw.put1_left EV1.out H1.out C4.out HX1.out p4 c4 (x0.bytes ++ bs) (by rw [← hlb]; exact A1.out) (by rw [← hlb]; exact N4.out)
  rw [← hlb] at hfin
  refine ⟨rfl, ?_⟩
  rw [HRES.out ⟨x0.name, p4, c4, x0.bytes ++ bs, x0.sure⟩ rfl] at hfin
  first | exact hfin | exact hfin.drewN _

/-- a new page, put behind the others -/
theorem BkRaw.more {p : Option Addr} {n c : Nat} {v' : Value} {y : LF} (h : BkRaw w b v l) (hc0 : Chg (fun _ => False) w w0) (hy : y.sv = .slice none 0 0) (hyb : y.bytes = [])
    (ho : OC w' 3 92 v' (l.length + 1) (l.flatMap LF.enc ++ y.enc)) (hc : Chg (fun b => sblk v = some b) w0 w') (hb : ∀ k, sblk v' = some k → sblk v = some k ∨ w0.heap.size ≤ k) :
    BkRaw (w'.setCell ⟨b, 0, none⟩ v') b v' (l ++ [y]) ∧ Ev (b :: lblks v l) (b :: lblks v' (l ++ [y])) w (w'.setCell ⟨b, 0, none⟩ v') := by
  have hs0 := hc0.size
  have hvb : sblk v ≠ some b := fun e => (List.nodup_cons.1 h.nodup).1 (mem_lblks e)
  have hbl : b < w.heap.size := hlt_of h.head
  have hh : w'.heap[b]? = _ := (hc.block b (by omega) hvb).trans ((hc0.block b hbl (fun h => h)).trans h.head)
  have hyk : y.blk = [] := by unfold LF.blk; rw [hy]; rfl
  have hfm : (l ++ [y]).flatMap LF.blk = l.flatMap LF.blk := by rw [List.flatMap_append, List.flatMap_cons, hyk]; simp
  have hv'b : ∀ k, sblk v' = some k → k ≠ b ∧ k ∉ l.flatMap LF.blk := fun k hk => by
    rcases hb k hk with h1 | h1
    · exact ⟨fun e => hvb (e ▸ h1), fun hin => (List.nodup_append.1 (List.nodup_cons.1 h.nodup).2).2.2 k (by simp [h1]) k hin rfl⟩
    · exact ⟨by omega, fun hin => by have := h.lt k (List.mem_cons.2 (.inr (List.mem_append.2 (.inr hin)))); omega⟩
  refine ⟨⟨?_, ?_, fun x hx => ?_, ?_⟩, ⟨?_, fun k hk => ?_⟩⟩
  · simp only [hset, if_true]; rw [hh]; simp [objSet]
  · rw [List.length_append, List.flatMap_append]
    refine OC.keep (cs := l.flatMap LF.enc ++ [y].flatMap LF.enc) (by simpa using ho) fun k hk => hset_other (hv'b k hk).1
  · rcases List.mem_append.1 hx with hx | hx
    · refine OC.keep (h.each x hx) fun k hk => ?_
      have hkb := h.apart hx hk
      have hkl := OC.lt (h.each x hx) hk
      rw [hset_other (p := ⟨b, 0, none⟩) hkb.2, hc.block k (by omega) hkb.1, hc0.block k hkl (fun h => h)]
    · obtain rfl : x = y := by simpa using hx
      rw [hy, hyb]; exact OB_nil _ _
  · unfold lblks
    rw [hfm]
    have hnd := List.nodup_append.1 (List.nodup_cons.1 h.nodup).2
    refine List.nodup_cons.2 ⟨fun hin => ?_, List.nodup_append.2 ⟨by cases sblk v' <;> simp, hnd.2.1, fun a ha a' ha' e => ?_⟩⟩
    · rcases List.mem_append.1 hin with hin | hin
      · exact (hv'b b (by simpa using hin)).1 rfl
      · exact (List.nodup_cons.1 h.nodup).1 (List.mem_append.2 (.inr hin))
    · subst e
      exact (hv'b a (by simpa using ha)).2 ha'
  · exact (((hc0.mono fun k hk => .inl hk.elim).trans hc fun k hk => .inl (List.mem_cons.2 (.inr (mem_lblks hk)))).setCell (p := ⟨b, 0, none⟩) (.inl (by simp)) _)
  · unfold lblks at hk ⊢
    rw [hfm] at hk
    rcases List.mem_cons.1 hk with rfl | hk
    · exact .inl (by simp)
    · rcases List.mem_append.1 hk with hk | hk
      · rcases hb k (by simpa using hk) with h1 | h1
        · exact .inl (by simp [h1])
        · exact .inr (by omega)
      · exact .inl (List.mem_cons.2 (.inr (List.mem_append.2 (.inr hk))))

set_option maxHeartbeats 4000000 in
theorem wrote_none {pq : Option Addr} {nq cq : Nat} {bs : List UInt8} (hN : l.length + 1 ≤ 1099511627776) (h : BkRaw w b v l) (hno : ∀ x ∈ l, x.name ≠ nm) (hbl : bs.length ≤ 70368744177664)
    (hrb : RB w (.slice pq nq cq) bs) (hap : ∀ k, sblk (.slice pq nq cq) = some k → k ∉ b :: lblks v l) :
    Calls Try.prog 31 #[.pointer (some ⟨b, 0, none⟩), .string nm, .slice pq nq cq] w fun e w' => e = .returned (.tuple #[]) ∧ BkLeft w b (b :: lblks v l) (bput nm bs (l.map LF.fl)) w' := by
  obtain ⟨p, c, rfl, hnc, -, -⟩ := id h.sl
  have hp := page_none (nm := nm) (by omega) h hno
  have HP := Lib.hid hp
  have hres : (l.map LF.fl) ++ [⟨nm, bs, 0⟩] = bput nm bs (l.map LF.fl) := by
    unfold bput
    have hg : Dm.get (l.map LF.fl) nm = none := by
      unfold Dm.get
      rw [List.find?_eq_none]
      intro f hf e
      obtain ⟨x, hx, rfl⟩ := List.mem_map.1 hf
      exact hno x hx ((MapKept.bytes_beq _ _).1 e)
    rw [hg]
  have HRES := Lib.hid hres
  have H := Lib.hid h
  have HN := Lib.hid hN
  have HBL := Lib.hid hbl
  have HRB := Lib.hid hrb
  have HAP := Lib.hid hap
  have hcw := (Chg.refl (fun _ => False) w).alloc (.cells #[.string nm, .slice none 0 0, .int .i64 0] 92)
  have HCW := Lib.hid hcw
  have HSL := Lib.hid (OC.chg h.sl hcw fun _ _ h => h)
  have HRC := Lib.hid (OC_new w 3 92 #[.string nm, .slice none 0 0, .int .i64 0] 1 1 (by decide) (by unfold maxLen; decide) rfl).rc
  have c0 := hcell_of h.head 0
  simp only [List.getElem?_toArray, List.getElem?_cons_zero] at c0
  clear h hno hbl hrb hap hp hres hcw hN
  go_enter Try.func31, Try.ntmps31
  go_wp2_with (first | (go_at_call 52; refine HP.out.mono ?_; rintro e w' ⟨rfl, rfl⟩) | (at_builtin; refine stop ?_))
  refine go ?_
  obtain ⟨i0, hi, hz0, hz1, hz2⟩ := info_parts info_page
  refine wpList_append_oc rfl _ _ 52 rfl 92 i0 _ 3 48 Try.underlying52 hi hz0 hz1 hz2 rfl (by decide) rfl rfl HSL.out HRC.out (by intro u hu; simp at hu; rcases hu with rfl | rfl | rfl <;> rfl) (by decide) (by have := HN.out; omega) ?_
  intro v' w5 b1 b2 b3 b4
  obtain ⟨pv', cv', rfl, -⟩ := id b1
  obtain ⟨h1, ev1⟩ := H.out.more (p := none) (n := 0) (c := 0) HCW.out (y := ⟨nm, none, 0, [], 0⟩) rfl rfl b1 b2 b3
  have hbw5 : w5.heap[b]? = some (.cells #[.slice p l.length c] 54 (0, 0)) := (b2.block b (by have := hlt_of H.out.head; simp; omega) (fun e => (List.nodup_cons.1 H.out.nodup).1 (mem_lblks e))).trans ((HCW.out.block b (hlt_of H.out.head) (fun h => h)).trans H.out.head)
  have HRB1 := Lib.hid (RC.chg (RC.chg (RC.chg HRB.out HCW.out fun _ _ h => h) b2 fun k hk e => HAP.out k hk (List.mem_cons.2 (.inr (mem_lblks e)))) ((Chg.refl (· = b) w5).setCell (p := ⟨b, 0, none⟩) (.inl rfl) (.slice pv' (l.length + 1) cv')) fun k hk e => HAP.out k hk (by rw [e]; simp))
  have q0 := hcell_of hbw5 0
  have qf := hfree_of hbw5 0
  simp only [List.getElem?_toArray, List.getElem?_cons_zero] at q0
  have H1 := Lib.hid h1
  have EV1 := Lib.hid ev1
  have hlli : (l.length : Int) + 1 ≤ 1099511627776 := by have := HN.out; omega
  have hl0 : (0 : Int) ≤ (l.length : Int) := by omega
  clear b1 b2 b3 b4 hi hz0 hz1 hz2 h1 ev1 hbw5 c0
  go_wp2
  generalize w5.setCell ⟨b, 0, none⟩ (.slice pv' (l.length + 1) cv') = w1 at *
  obtain ⟨l1, hl1⟩ : ∃ l1 : List LF, l1 = l ++ [⟨nm, none, 0, [], 0⟩] := ⟨_, rfl⟩
  have hlen : l.length + 1 = l1.length := by rw [hl1]; simp
  obtain ⟨i, hi⟩ : ∃ i : Nat, i = l.length := ⟨_, rfl⟩
  obtain ⟨x, hx⟩ : ∃ x : LF, x = ⟨nm, none, 0, [], 0⟩ := ⟨_, rfl⟩
  have HX1 : Hid (l1[i]? = some x) := Lib.hid (by rw [hl1, hi, hx, List.getElem?_append_right (Nat.le_refl _)]; simp)
  have HLX : Hid (x.bytes.length ≤ 1099511627776) := Lib.hid (by rw [hx]; simp)
  have HRES1 : Hid ((l1.set i ⟨nm, none, 0, [], 0⟩).map LF.fl = (l1.set i ⟨nm, none, 0, [], 0⟩).map LF.fl) := Lib.hid rfl
  have HRES2 : Hid (∀ y : LF, y.fl = ⟨nm, bs, 0⟩ → (l1.set i y).map LF.fl = bput nm bs (l.map LF.fl)) := Lib.hid fun y hy => by
    rw [← HRES.out, hl1, hi, List.set_append_right _ _ (Nat.le_refl _)]
    simp [hy]
  have HXD : Hid (x.name = nm ∧ x.bytes = [] ∧ x.sure = 0) := Lib.hid (by rw [hx]; exact ⟨rfl, rfl, rfl⟩)
  have hlli1 : (l1.length : Int) ≤ 1099511627776 := by have := HN.out; omega
  rw [← hl1, hlen] at H1 EV1
  rw [← hi]
  clear hl1 hlen hi hx q0 qf HRES1 hlli hl0
  obtain ⟨c1, hc1⟩ : ∃ c1 : Nat, c1 = cv' := ⟨_, rfl⟩
  subst hc1
  obtain ⟨pb, x0, he0, -, hnc1, hx0, hxc, hob, z0, z1, z2, zf, hpl, hpb⟩ := H1.out.pg (k := i) (List.getElem?_eq_some_iff.1 HX1.out).1
  obtain rfl : x0 = x := Option.some.inj (hx0.symm.trans HX1.out)
  subst he0
  have e2 : x0.sv = .slice x0.p x0.bytes.length x0.cap := rfl
  rw [e2] at z1
  have hi0 : (0 : Int) ≤ (i : Int) := by omega
  have hil : (i : Int) < (l1.length : Int) := by have := (List.getElem?_eq_some_iff.1 HX1.out).1; omega
  have hil2 : (l1.length : Int) ≤ c1 := by omega
  have c0 := hcell_of H1.out.head 0
  simp only [List.getElem?_toArray, List.getElem?_cons_zero] at c0
  have HCP := Lib.hid fun U (hU : Chg (fun _ => False) w1 U) => copied_any (w := U) (l := x0.bytes) (by have := HLX.out; omega) (OB.rb (OC.chg hob hU fun _ _ h => h))
  have HPB := Lib.hid hpb
  have HPL := Lib.hid hpl
  clear hob hpb hpl hx0 e2
  refine Rx.wp_region_sched (fun w' => w'.cell? ⟨b, 0, none⟩ = some (.slice (some ⟨pb, 0, none⟩) l1.length c1)) [(5, .r), (6, .r), (7, .r), (8, .r), (9, .r), (10, .r), (11, .r), (12, .r), (0, .h), (1, .h), (2, .h), (4, .h), (14, .h), (3, .h), (13, .e), (15, .e), (16, .r), (17, .r), (18, .e)] (by kernel_rfl) (by kernel_rfl) (c0) (fun _ _ x _ _ h => (by cases x <;> exact h)) ?_
  iterate 8 (refine Rx.wpSched_q rfl rfl ?_; go_wp2; refine ⟨rfl, ?_⟩)
  iterate 6 (refine Rx.wpSched_h (v := ?_) rfl rfl ?_ ?_; rotate_left; (intro w' hS'; go_simp; try with_reducible rfl))
  refine Rx.wpSched_e rfl ?_
  go_wp2_with (first | (go_at_call 20; refine stop ?_))
  refine go ?_
  refine (HCP.out _ (by first | exact (Chg.refl (fun _ => False) _).drew | exact Chg.refl _ _)).mono ?_
  rintro e w2 ⟨v2, rfl, o2, c2, n2⟩
  obtain ⟨p2, l2, cc2, rfl⟩ : ∃ p l c, v2 = .slice p l c := (by obtain ⟨p3, cc3, e, -⟩ := id o2; exact ⟨_, _, _, e⟩)
  obtain rfl : l2 = x0.bytes.length := OB_len2 o2
  have c2 : Chg (fun _ => False) w1 w2 := (by first | exact ((Chg.refl (fun _ => False) _).drew).trans c2 (fun k hk => hk.elim) | exact c2)
  have H2 := Lib.hid (H1.out.quiet c2)
  have K2 := Lib.hid ((hcell_of H2.out.head 0).trans rfl)
  have RB2 := Lib.hid (RC.chg HRB1.out c2 fun _ _ h => h)
  have O2 := Lib.hid o2
  have C2 := Lib.hid c2
  have N2 : Hid (∀ k, sblk (.slice p2 x0.bytes.length cc2) = some k → w1.heap.size ≤ k) := Lib.hid n2
  clear o2 c2 n2
  go_wp2
  refine ⟨(by exact K2.out), ?_⟩
  refine Rx.wpSched_e rfl ?_
  refine wpList_append_bytes rfl _ _ rfl (v := .slice p2 x0.bytes.length cc2) rfl rfl O2.out RB2.out (by have h1 := HLX.out; have h2 := HBL.out; omega) ?_
  intro p4 l4 c4 w4 a1 a2 a3 a4
  obtain rfl : l4 = x0.bytes.length + bs.length := (OB_len2 a1).trans (by simp)
  have C4 := Lib.hid (C2.out.trans a2 fun k hk => .inr (N2.out k hk))
  have H4 := Lib.hid (H1.out.quiet C4.out)
  have K4 := Lib.hid ((hcell_of H4.out.head 0).trans rfl)
  have hb4 := C4.out.block pb HPL.out (fun h => h)
  have z4 : w4.cell? ⟨pb, i * 3 + 1, none⟩ = some (.slice x0.p x0.bytes.length x0.cap) := (World.cell?_of_block (a := ⟨pb, i * 3 + 1, none⟩) hb4).trans z1
  have f4 : w4.frozen? ⟨pb, i * 3 + 1, none⟩ = false := (by
    obtain ⟨pb', y, he, -, -, hy, -, -, -, -, -, hz, -, -⟩ := H4.out.pg (k := i) (List.getElem?_eq_some_iff.1 HX1.out).1
    obtain rfl : pb = pb' := by simpa using he
    exact hz _)
  have A1 := Lib.hid a1
  have N4 : Hid (∀ k, sblk (.slice p4 (x0.bytes.length + bs.length) c4) = some k → w1.heap.size ≤ k) := Lib.hid (fun k hk => (a3 k hk).elim (fun h => N2.out k h) fun h => Nat.le_trans C2.out.size h)
  have K5 := Lib.hid ((World.cell?_of_block (a := ⟨b, 0, none⟩) (hset_other (w := w4) (p := ⟨pb, i * 3 + 1, none⟩) (v := .slice p4 (x0.bytes.length + bs.length) c4) (Ne.symm HPB.out))).trans K4.out)
  clear a1 a2 a3 a4 hb4
  go_wp2
  refine ⟨(by exact K4.out), ?_⟩
  iterate 2 (refine Rx.wpSched_q rfl rfl ?_; go_wp2; refine ⟨rfl, ?_⟩)
  refine Rx.wpSched_e rfl ?_
  go_wp2
  refine ⟨(by exact K5.out), ?_⟩
  refine Rx.wpSched_nil ?_
  go_wp2
  go_end0
  have hlb : x0.bytes.length + bs.length = (x0.bytes ++ bs).length := by simp
  have hfin := BkRaw.put1_left EV1.out H1.out C4.out HX1.out p4 c4 (x0.bytes ++ bs) (by rw [← hlb]; exact A1.out) (by rw [← hlb]; exact N4.out)
  rw [← hlb] at hfin
  refine ⟨rfl, ?_⟩
  rw [HRES2.out ⟨x0.name, p4, c4, x0.bytes ++ bs, x0.sure⟩ (by obtain ⟨h1, h2, h3⟩ := HXD.out; simp [LF.fl, h1, h2, h3])] at hfin
  first | exact hfin | exact hfin.drewN _

/-- wrote, in one contract -/
theorem wrote_any {bv : Value} {bs : List UInt8} (hN : B.length + 1 ≤ 1099511627776) (hn : (B.map (·.name)).Nodup) (hT : total B ≤ 1099511627776) (hbl : bs.length ≤ 70368744177664) (h : BkRep w b B F)
    (hrb : RB w bv bs) (hap : ∀ k, sblk bv = some k → k ∉ F) :
    Calls Try.prog 31 #[.pointer (some ⟨b, 0, none⟩), .string nm, bv] w fun e w' => e = .returned (.tuple #[]) ∧ BkLeft w b F (bput nm bs B) w' := by
  obtain ⟨v, l, h, rfl, rfl⟩ := h
  obtain ⟨p, c, rfl, -⟩ := id hrb
  have hn' : (l.map (·.name)).Nodup := by simpa [List.map_map, Function.comp_def, LF.fl] using hn
  rw [List.length_map] at hN
  by_cases hx : ∃ x ∈ l, x.name = nm
  · obtain ⟨x, hx, hxn⟩ := hx
    obtain ⟨i, hi⟩ := List.getElem?_of_mem hx
    refine wrote_some (by omega) h hn' hi hxn ?_ hbl hrb
    have := get_le (get_of_mem (f := x.fl) hn (List.mem_map_of_mem hx))
    exact Nat.le_trans this hT
  · exact wrote_none hN h (fun x hx' e => hx ⟨x, hx', e⟩) hbl hrb hap
end
end Go.Proofs
