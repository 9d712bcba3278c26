/- A book as it lies: enters, for Cut and Turn; and enters in one contract. Conditions: the book lies as BkRep says; the call's bytes are read and lie apart; at most 2^40 pages and bytes. -/
import Derived.Test.YthnemjnepnbjpaaEn
namespace Go.Proofs
open Go.RowKit Go.Hp Go.Dm Go.Dr
set_option linter.unusedVariables false
set_option maxRecDepth 10000

section
variable {w w' w0 w1 w4 : World} {b : Nat} {v v' : Value} {l ys : List LF} {B : List Fl} {F F0 : List Nat} {nm : ByteArray}
variable {pq : Option Addr} {cq : Nat} {bs : List UInt8} {m ae an am : Int} {p1 : Option Addr} {n1 c1' : Nat} {p2 : Option Addr} {n2 c2' : Nat} {dn : Bool}

theorem BkRaw.put1_ev {pb n c i : Nat} {x : LF} (ev : Ev F0 (b :: lblks (.slice (some ⟨pb, 0, none⟩) n c) l) w0 w1) (h : BkRaw w1 b (.slice (some ⟨pb, 0, none⟩) n c) l) (c4 : Chg (fun _ => False) w1 w4) (hx : l[i]? = some x) (p' : Option Addr) (c' : Nat) (bs : List UInt8)
    (hob : OB w4 5 (.slice p' bs.length c') bs) (hfr : ∀ k, sblk (.slice p' bs.length c') = some k → w1.heap.size ≤ k) :
    BkRaw (w4.setCell ⟨pb, i * 3 + 1, none⟩ (.slice p' bs.length c')) b (.slice (some ⟨pb, 0, none⟩) n c) (l.set i ⟨x.name, p', c', bs, x.sure⟩) ∧
    Ev F0 (b :: lblks (.slice (some ⟨pb, 0, none⟩) n c) (l.set i ⟨x.name, p', c', bs, x.sure⟩)) w0 (w4.setCell ⟨pb, i * 3 + 1, none⟩ (.slice p' bs.length c')) := by
  have hi := (List.getElem?_eq_some_iff.1 hx).1
  obtain ⟨pb', x', he, -, hnc, -, -, -, -, -, -, -, -, hpb⟩ := h.pg hi
  obtain rfl : pb = pb' := by simpa using he
  have hsv : sblk (.slice (some ⟨pb, 0, none⟩) n c) = some pb := sblk_some (by omega)
  have h4 := h.quiet c4
  have h5 := h4.put1 hx p' c' bs hob fun k hk hin => by have := hfr k hk; have := h.lt k hin; omega
  have hc : Chg (· ∈ b :: lblks (.slice (some ⟨pb, 0, none⟩) n c) l) w1 (w4.setCell ⟨pb, i * 3 + 1, none⟩ (.slice p' bs.length c')) :=
    ((c4.mono fun k hk => .inl hk.elim).setCell (p := ⟨pb, i * 3 + 1, none⟩) (.inl (List.mem_cons.2 (.inr (mem_lblks hsv)))) _)
  refine ⟨h5, ev.trans ⟨hc, fun k hk => ?_⟩⟩
  rcases List.mem_cons.1 hk with rfl | hk
  · exact .inl (by simp)
  · rcases List.mem_append.1 hk with hk | hk
    · exact .inl (List.mem_cons.2 (.inr (List.mem_append.2 (.inl hk))))
    · obtain ⟨y, hy, hk⟩ := List.mem_flatMap.1 hk
      rcases List.mem_or_eq_of_mem_set hy with hy | rfl
      · exact .inl (List.mem_cons.2 (.inr (List.mem_append.2 (.inr (List.mem_flatMap.2 ⟨y, hy, hk⟩)))))
      · exact .inr (hfr k (by simpa [LF.blk, LF.sv] using hk))

set_option maxHeartbeats 8000000 in
theorem enters_cut {i q : Nat} {x : LF} (hN : l.length ≤ 1099511627776) (h : BkRaw w b v l) (hn : (l.map (·.name)).Nodup) (hx : l[i]? = some x) (hxn : x.name = nm) (hL : x.bytes.length ≤ 1099511627776) (hq : q ≤ x.bytes.length) :
    Calls Try.prog 33 #[.pointer (some ⟨b, 0, none⟩), .agg #[.int .i64 3, .string nm, .slice pq bs.length cq, .int .i64 (q : Int), .int .i64 m], .agg #[.int .i64 ae, .int .i64 an, .int .i64 am, .slice p1 n1 c1', .slice p2 n2 c2', .bool dn]] w fun e w' =>
      e = .returned (.bool true) ∧ BkLeft w b (b :: lblks v l) (upd nm (fun f => { f with bytes := f.bytes.take q, sure := min f.sure q }) (l.map LF.fl)) w' := by
  obtain ⟨p, c, rfl, hnc, -, -⟩ := id h.sl
  have HQ := Lib.hid hq
  have HLX := Lib.hid hL
  have hqi : (q : Int) ≤ (x.bytes.length : Int) := by omega
  have hq0 : (0 : Int) ≤ (q : Int) := by omega
  obtain ⟨v, hv⟩ : ∃ v : Value, v = .slice p l.length c := ⟨_, rfl⟩
  rw [← hv] at h ⊢
  clear hq hL
  have HOLD := Lib.hid h.lt
  have hpg := fun U (hU : Chg (fun _ => False) w U) => page_some (w := U) (nm := nm) hN (h.quiet hU) hn hx hxn
  have hcw := ((Chg.refl (fun _ => False) w).alloc (.cells #[.int .i64 3, .string nm, .slice pq bs.length cq, .int .i64 (q : Int), .int .i64 m] 56)).alloc (.cells #[.int .i64 ae, .int .i64 an, .int .i64 am, .slice p1 n1 c1', .slice p2 n2 c2', .bool dn] 58)
  have hev := ((Ev.refl (b :: lblks v l) w).alloc (.cells #[.int .i64 3, .string nm, .slice pq bs.length cq, .int .i64 (q : Int), .int .i64 m] 56)).alloc (.cells #[.int .i64 ae, .int .i64 an, .int .i64 am, .slice p1 n1 c1', .slice p2 n2 c2', .bool dn] 58)
  have hbo := (halloc_lt (o := (.cells #[.int .i64 ae, .int .i64 an, .int .i64 am, .slice p1 n1 c1', .slice p2 n2 c2', .bool dn] 58)) (hlt_of (halloc_at w (.cells #[.int .i64 3, .string nm, .slice pq bs.length cq, .int .i64 (q : Int), .int .i64 m] 56)))).trans (halloc_at w (.cells #[.int .i64 3, .string nm, .slice pq bs.length cq, .int .i64 (q : Int), .int .i64 m] 56))
  have hba := halloc_at (w.alloc (.cells #[.int .i64 3, .string nm, .slice pq bs.length cq, .int .i64 (q : Int), .int .i64 m] 56)) (.cells #[.int .i64 ae, .int .i64 an, .int .i64 am, .slice p1 n1 c1', .slice p2 n2 c2', .bool dn] 58)
  rw [halloc_size] at hba
  have HPG := Lib.hid hpg
  have H1 := Lib.hid (h.quiet hcw)
  have EV1 := Lib.hid hev
  have HCW := Lib.hid hcw
  have HBO := Lib.hid hbo
  have HBA := Lib.hid hba
  have HN := Lib.hid hn
  have HX1 := Lib.hid hx
  have HXN := Lib.hid hxn
  have hlli : (l.length : Int) ≤ 1099511627776 := by omega
  have hi00 : (0 : Int) ≤ (i : Int) := by omega
  have hi1 : ¬ ((i : Int) < 0) := by omega
  clear h hpg hcw hev hbo hba hn hx hxn hN
  go_enter Try.func33, Try.ntmps33
  go_wp2_with (first | (go_at_call 52; refine stop ?_))
  refine go ?_
  generalize (w.alloc (.cells #[.int .i64 3, .string nm, .slice pq bs.length cq, .int .i64 (q : Int), .int .i64 m] 56)).alloc (.cells #[.int .i64 ae, .int .i64 an, .int .i64 am, .slice p1 n1 c1', .slice p2 n2 c2', .bool dn] 58) = w1 at *
  refine (HPG.out _ HCW.out).mono ?_
  rintro e w' ⟨rfl, rfl⟩
  have k0 := hcell_of HBO.out 0
  have k1 := hcell_of HBO.out 1
  have k2 := hcell_of HBO.out 2
  have k3 := hcell_of HBO.out 3
  have k4 := hcell_of HBO.out 4
  have a0 := hcell_of HBA.out 0
  have a1 := hcell_of HBA.out 1
  simp only [List.getElem?_toArray, List.getElem?_cons_zero, List.getElem?_cons_succ] at k0 k1 k2 k3 k4 a0 a1
  subst hv
  obtain ⟨pb, x0, he0, -, hnc1, hx0, hxc, hob, z0, z1, z2, zf, hpl, hpb⟩ := H1.out.pg (k := i) (List.getElem?_eq_some_iff.1 HX1.out).1
  have e2 : (x0).sv = .slice (x0).p (x0).bytes.length (x0).cap := rfl
  rw [e2] at z1
  have hil : (i : Int) < ((l).length : Int) := by have := (List.getElem?_eq_some_iff.1 HX1.out).1; omega
  have hil2 : ((l).length : Int) ≤ c := by omega
  have c0 := hcell_of H1.out.head 0
  simp only [List.getElem?_toArray, List.getElem?_cons_zero] at c0
  obtain rfl : x0 = x := Option.some.inj (hx0.symm.trans HX1.out)
  subst he0
  have HPB := Lib.hid hpb
  have HPL := Lib.hid hpl
  have HCP := Lib.hid fun U (hU : Chg (fun _ => False) w1 U) => copied_any (w := U) (v := .slice x0.p q x0.cap) (l := x0.bytes.take q) (by have := HLX.out; simp; omega) (RB.takeQ (OB.rb (OC.chg hob hU fun _ _ h => h)) q HQ.out)
  have hxc2 : (x0.bytes.length : Int) ≤ x0.cap := by omega
  clear e2 hob zf hx0 hpb hpl
  go_wp2
  refine Rx.wp_region_sched (fun _ => True) [(0, .r), (1, .r), (2, .r), (3, .r), (4, .r), (5, .r), (6, .r), (7, .r), (8, .r), (9, .r), (10, .r), (11, .r), (12, .r), (13, .r), (14, .r), (15, .r), (16, .r)] (by kernel_rfl) (by kernel_rfl) trivial (fun _ _ x _ _ h => (by cases x <;> exact h)) ?_
  iterate 17 (refine Rx.wpSched_q rfl rfl ?_; go_wp2; refine ⟨rfl, ?_⟩)
  refine Rx.wpSched_nil ?_
  go_wp2
  refine Rx.wp_region_sched (fun w' => w'.cell? ⟨b, 0, none⟩ = some (.slice (some ⟨pb, 0, none⟩) l.length c)) [(5, .r), (6, .r), (7, .r), (8, .r), (9, .r), (10, .r), (11, .r), (12, .r), (13, .r), (14, .r), (15, .r), (0, .h), (1, .h), (2, .h), (4, .h), (3, .h), (16, .e), (17, .r), (18, .r), (19, .e)] (by kernel_rfl) (by kernel_rfl) (c0) (fun _ _ x _ _ h => (by cases x <;> exact h)) ?_
  iterate 11 (refine Rx.wpSched_q rfl rfl ?_; go_wp2; refine ⟨rfl, ?_⟩)
  iterate 5 (refine Rx.wpSched_h (v := ?_) rfl rfl ?_ ?_; rotate_left; (intro w' hS'; go_simp; try with_reducible rfl))
  refine Rx.wpSched_e rfl ?_
  go_wp2_with (first | (go_at_call 20; refine stop ?_))
  refine go ?_
  refine (HCP.out _ (by first | exact (Chg.refl (fun _ => False) _).drew | exact (Chg.refl (fun _ => False) _).drewN _ | exact Chg.refl _ _ | exact ((Chg.refl (fun _ => False) _).drew).drew)).mono ?_
  rintro e w2 ⟨v2, rfl, o2, c2, n2⟩
  obtain ⟨p9, l9, cc9, rfl⟩ : ∃ p l c, v2 = .slice p l c := (by obtain ⟨p3, cc3, e, -⟩ := id o2; exact ⟨_, _, _, e⟩)
  obtain rfl : q = l9 := ((OB_len2 o2).trans (by simp <;> omega)).symm
  have c2 : Chg (fun _ => False) w1 w2 := (by first | exact ((Chg.refl (fun _ => False) _).drew).trans c2 (fun k hk => hk.elim) | exact (((Chg.refl (fun _ => False) _).drew).drew).trans c2 (fun k hk => hk.elim) | exact c2)
  have H2 := Lib.hid (H1.out.quiet c2)
  have K2 := Lib.hid ((hcell_of H2.out.head 0).trans rfl)
  have HBO2 := Lib.hid ((c2.block _ (hlt_of HBO.out) (fun h => h)).trans HBO.out)
  have O2 := Lib.hid o2
  have C2 := Lib.hid c2
  have N2 := Lib.hid n2
  have f4 : w2.frozen? ⟨pb, i * 3 + 1, none⟩ = false := (by
    obtain ⟨pb', y, he, -, -, hy, -, -, -, -, -, hz, -, -⟩ := H2.out.pg (k := i) (List.getElem?_eq_some_iff.1 HX1.out).1
    obtain rfl : pb = pb' := by simpa using he
    exact hz _)
  have z4 : w2.cell? ⟨pb, i * 3 + 1, none⟩ = some (.slice x0.p x0.bytes.length x0.cap) := (World.cell?_of_block (a := ⟨pb, i * 3 + 1, none⟩) (c2.block pb HPL.out (fun h => h))).trans z1
  have K5 := Lib.hid ((World.cell?_of_block (a := ⟨b, 0, none⟩) (hset_other (w := w2) (p := ⟨pb, i * 3 + 1, none⟩) (v := .slice p9 (q) cc9) (Ne.symm HPB.out))).trans K2.out)
  clear o2 c2 n2
  go_wp2
  refine ⟨(by exact K2.out), ?_⟩
  iterate 2 (refine Rx.wpSched_q rfl rfl ?_; go_wp2; refine ⟨rfl, ?_⟩)
  refine Rx.wpSched_e rfl ?_
  go_wp2
  refine ⟨(by exact K5.out), ?_⟩
  refine Rx.wpSched_nil ?_
  have hlq : q = (x0.bytes.take q).length := by have := HQ.out; simp; omega
  obtain ⟨h5, ev5⟩ := BkRaw.put1_ev EV1.out H1.out C2.out HX1.out p9 cc9 (x0.bytes.take q) (by rw [← hlq]; exact O2.out) (by rw [← hlq]; exact N2.out)
  rw [← hlq] at h5 ev5
  have hbo5 := (hset_other (w := w2) (p := ⟨pb, i * 3 + 1, none⟩) (v := .slice p9 q cc9) (k := w.heap.size) (fun e => by
    have h1 := hlt_of HBO.out
    have e : w.heap.size = pb := e
    obtain ⟨pb', y, he, -, -, -, -, -, -, -, -, -, -, -⟩ := H1.out.pg (k := i) (List.getElem?_eq_some_iff.1 HX1.out).1
    have h2 := HOLD.out pb (List.mem_cons.2 (.inr (mem_lblks (sblk_some (by omega)))))
    omega)).trans HBO2.out
  obtain ⟨l5, hl5⟩ : ∃ l5 : List LF, l5 = l.set i ⟨x0.name, p9, cc9, x0.bytes.take q, x0.sure⟩ := ⟨_, rfl⟩
  have hlen5 : l.length = l5.length := by rw [hl5]; simp
  obtain ⟨y5, hy5⟩ : ∃ y5 : LF, y5 = ⟨x0.name, p9, cc9, x0.bytes.take q, x0.sure⟩ := ⟨_, rfl⟩
  have HY5 := Lib.hid hy5
  have HX5 : Hid (l5[i]? = some y5) := Lib.hid (by
    rw [hl5, hy5, List.getElem?_set, if_pos rfl, if_pos (List.getElem?_eq_some_iff.1 HX1.out).1])
  have HR5 : Hid ((l5.set i ⟨y5.name, y5.p, y5.cap, y5.bytes, min y5.sure q⟩).map LF.fl = upd nm (fun f => { f with bytes := f.bytes.take q, sure := min f.sure q }) (l.map LF.fl)) := Lib.hid (by
    rw [hl5, List.set_set]
    exact map_set_upd HN.out HX1.out HXN.out (by rw [hy5]; rfl))
  rw [← hl5, hlen5] at h5 ev5
  have HBO5 := Lib.hid hbo5
  have H5 := Lib.hid h5
  have EV5 := Lib.hid ev5
  clear h5 ev5 hbo5 hlq hl5 hy5 k0 k1 k2 k3 k4 a0 a1 c0 z0 z1 z2 hil hil2 hxc hxc2
  rw [hlen5] at hlli
  generalize w2.setCell ⟨pb, i * 3 + 1, none⟩ (.slice p9 q cc9) = w5 at *
  have k3 := hcell_of HBO5.out 3
  simp only [List.getElem?_toArray, List.getElem?_cons_zero, List.getElem?_cons_succ] at k3
  have hnc5 : l5.length ≤ c := by omega
  clear hnc1
  obtain ⟨pb5, x5, he0, -, hnc1, hx0, hxc, hob, z0, z1, z2, zf, hpl, hpb⟩ := H5.out.pg (k := i) (List.getElem?_eq_some_iff.1 HX5.out).1
  have e2 : (x5).sv = .slice (x5).p (x5).bytes.length (x5).cap := rfl
  rw [e2] at z1
  have hil : (i : Int) < ((l5).length : Int) := by have := (List.getElem?_eq_some_iff.1 HX5.out).1; omega
  have hil2 : ((l5).length : Int) ≤ c := by omega
  have c0 := hcell_of H5.out.head 0
  simp only [List.getElem?_toArray, List.getElem?_cons_zero] at c0
  obtain rfl : y5 = x5 := Option.some.inj (HX5.out.symm.trans hx0)
  obtain rfl : pb = pb5 := by simpa using he0
  have zf2 := zf (i * 3 + 2)
  clear e2 hob zf hx0 hpb hpl he0
  go_wp2
  have hmin : min (y5.sure : Int) (q : Int) = ((min y5.sure q : Nat) : Int) := by omega
  refine Rx.wp_region_sched (fun _ => True) [(0, .r), (1, .r), (2, .r), (3, .r), (4, .r), (5, .r), (6, .r), (7, .r), (8, .r), (9, .r), (10, .r), (11, .r), (12, .r), (13, .r), (14, .r), (15, .r), (16, .r), (17, .r), (18, .e)] (by kernel_rfl) (by kernel_rfl) trivial (fun _ _ x _ _ h => (by cases x <;> exact h)) ?_
  iterate 18 (refine Rx.wpSched_q rfl rfl ?_; go_wp2; refine ⟨rfl, ?_⟩)
  refine Rx.wpSched_e rfl ?_
  go_wp2
  refine ⟨trivial, ?_⟩
  refine Rx.wpSched_nil ?_
  go_wp2
  go_ret
  have hfin := BkRaw.put2_left EV5.out H5.out HX5.out (min y5.sure q)
  rw [HR5.out, ← hlen5] at hfin
  exact ⟨rfl, by first | exact hfin | exact hfin.drewN _⟩

theorem BkRaw.putb_left {bb i j : Nat} {x : LF} (ev : Ev F0 (b :: lblks v l) w0 w1) (h : BkRaw w1 b v l) (hx : l[i]? = some x) (hp : x.p = some ⟨bb, 0, none⟩) (hj : j < x.bytes.length) (hc : x.bytes.length ≤ x.cap) (u : UInt8) :
    BkLeft w0 b F0 ((l.set i ⟨x.name, x.p, x.cap, x.bytes.set j u, x.sure⟩).map LF.fl) (w1.setCell ⟨bb, j, none⟩ (u8 u)) := by
  have hmem := List.mem_of_getElem? hx
  have hsx : sblk x.sv = some bb := by unfold LF.sv; rw [hp]; exact sblk_some (by omega)
  have hsv : (⟨x.name, x.p, x.cap, x.bytes.set j u, x.sure⟩ : LF).sv = x.sv := by simp [LF.sv]
  refine ⟨_, ⟨_, _, h.putb hx hp hj hc u, rfl, rfl⟩, ev.trans ⟨(Chg.refl _ w1).setCell (p := ⟨bb, j, none⟩) (.inl (List.mem_cons.2 (.inr (mem_lblks2 hmem hsx)))) _, fun k hk => .inl ?_⟩⟩
  rw [lblks_set (y := ⟨x.name, x.p, x.cap, x.bytes.set j u, x.sure⟩) hx (by unfold LF.blk; rw [hsv])] at hk
  exact hk

set_option maxHeartbeats 8000000 in
theorem enters_turn {i q : Nat} {x : LF} (hN : l.length ≤ 1099511627776) (h : BkRaw w b v l) (hn : (l.map (·.name)).Nodup) (hx : l[i]? = some x) (hxn : x.name = nm) (hL : x.bytes.length ≤ 1099511627776) (hq : q < x.bytes.length) :
    Calls Try.prog 33 #[.pointer (some ⟨b, 0, none⟩), .agg #[.int .i64 11, .string nm, .slice pq bs.length cq, .int .i64 (q : Int), .int .i64 m], .agg #[.int .i64 ae, .int .i64 an, .int .i64 am, .slice p1 n1 c1', .slice p2 n2 c2', .bool dn]] w fun e w' =>
      e = .returned (.bool true) ∧ BkLeft w b (b :: lblks v l) (upd nm (fun f => { f with bytes := f.bytes.modify q (· ^^^ maskOf m) }) (l.map LF.fl)) w' := by
  obtain ⟨p, c, rfl, hnc, -, -⟩ := id h.sl
  have HQ := Lib.hid hq
  have HLX := Lib.hid hL
  have hqi : (q : Int) < (x.bytes.length : Int) := by omega
  have hq0 : (0 : Int) ≤ (q : Int) := by omega
  obtain ⟨v, hv⟩ : ∃ v : Value, v = .slice p l.length c := ⟨_, rfl⟩
  rw [← hv] at h ⊢
  clear hq hL
  have HOLD := Lib.hid h.lt
  have hpg := fun U (hU : Chg (fun _ => False) w U) => page_some (w := U) (nm := nm) hN (h.quiet hU) hn hx hxn
  have hcw := ((Chg.refl (fun _ => False) w).alloc (.cells #[.int .i64 11, .string nm, .slice pq bs.length cq, .int .i64 (q : Int), .int .i64 m] 56)).alloc (.cells #[.int .i64 ae, .int .i64 an, .int .i64 am, .slice p1 n1 c1', .slice p2 n2 c2', .bool dn] 58)
  have hev := ((Ev.refl (b :: lblks v l) w).alloc (.cells #[.int .i64 11, .string nm, .slice pq bs.length cq, .int .i64 (q : Int), .int .i64 m] 56)).alloc (.cells #[.int .i64 ae, .int .i64 an, .int .i64 am, .slice p1 n1 c1', .slice p2 n2 c2', .bool dn] 58)
  have hbo := (halloc_lt (o := (.cells #[.int .i64 ae, .int .i64 an, .int .i64 am, .slice p1 n1 c1', .slice p2 n2 c2', .bool dn] 58)) (hlt_of (halloc_at w (.cells #[.int .i64 11, .string nm, .slice pq bs.length cq, .int .i64 (q : Int), .int .i64 m] 56)))).trans (halloc_at w (.cells #[.int .i64 11, .string nm, .slice pq bs.length cq, .int .i64 (q : Int), .int .i64 m] 56))
  have hba := halloc_at (w.alloc (.cells #[.int .i64 11, .string nm, .slice pq bs.length cq, .int .i64 (q : Int), .int .i64 m] 56)) (.cells #[.int .i64 ae, .int .i64 an, .int .i64 am, .slice p1 n1 c1', .slice p2 n2 c2', .bool dn] 58)
  rw [halloc_size] at hba
  have HPG := Lib.hid hpg
  have H1 := Lib.hid (h.quiet hcw)
  have EV1 := Lib.hid hev
  have HCW := Lib.hid hcw
  have HBO := Lib.hid hbo
  have HBA := Lib.hid hba
  have HN := Lib.hid hn
  have HX1 := Lib.hid hx
  have HXN := Lib.hid hxn
  have hlli : (l.length : Int) ≤ 1099511627776 := by omega
  have hi00 : (0 : Int) ≤ (i : Int) := by omega
  have hi1 : ¬ ((i : Int) < 0) := by omega
  clear h hpg hcw hev hbo hba hn hx hxn hN
  go_enter Try.func33, Try.ntmps33
  go_wp2_with (first | (go_at_call 52; refine stop ?_))
  refine go ?_
  generalize (w.alloc (.cells #[.int .i64 11, .string nm, .slice pq bs.length cq, .int .i64 (q : Int), .int .i64 m] 56)).alloc (.cells #[.int .i64 ae, .int .i64 an, .int .i64 am, .slice p1 n1 c1', .slice p2 n2 c2', .bool dn] 58) = w1 at *
  refine (HPG.out _ HCW.out).mono ?_
  rintro e w' ⟨rfl, rfl⟩
  have k0 := hcell_of HBO.out 0
  have k1 := hcell_of HBO.out 1
  have k2 := hcell_of HBO.out 2
  have k3 := hcell_of HBO.out 3
  have k4 := hcell_of HBO.out 4
  have a0 := hcell_of HBA.out 0
  have a1 := hcell_of HBA.out 1
  simp only [List.getElem?_toArray, List.getElem?_cons_zero, List.getElem?_cons_succ] at k0 k1 k2 k3 k4 a0 a1
  subst hv
  obtain ⟨pb, x0, he0, -, hnc1, hx0, hxc, hob, z0, z1, z2, zf, hpl, hpb⟩ := H1.out.pg (k := i) (List.getElem?_eq_some_iff.1 HX1.out).1
  have e2 : (x0).sv = .slice (x0).p (x0).bytes.length (x0).cap := rfl
  rw [e2] at z1
  have hil : (i : Int) < ((l).length : Int) := by have := (List.getElem?_eq_some_iff.1 HX1.out).1; omega
  have hil2 : ((l).length : Int) ≤ c := by omega
  have c0 := hcell_of H1.out.head 0
  simp only [List.getElem?_toArray, List.getElem?_cons_zero] at c0
  obtain rfl : x0 = x := Option.some.inj (hx0.symm.trans HX1.out)
  subst he0
  have HPB := Lib.hid hpb
  have HPL := Lib.hid hpl
  have HCP := Lib.hid fun U (hU : Chg (fun _ => False) w1 U) => copied_any (w := U) (v := .slice x0.p x0.bytes.length x0.cap) (l := x0.bytes) (by have := HLX.out; omega) (OB.rb (OC.chg hob hU fun _ _ h => h))
  have hxc2 : (x0.bytes.length : Int) ≤ x0.cap := by omega
  clear e2 hob zf hx0 hpb hpl
  go_wp2
  refine Rx.wp_region_sched (fun _ => True) [(0, .r), (1, .r), (2, .r), (3, .r), (4, .r), (5, .r), (6, .r), (7, .r), (8, .r), (9, .r), (10, .r), (11, .r), (12, .r), (13, .r), (14, .r), (15, .r), (16, .r)] (by kernel_rfl) (by kernel_rfl) trivial (fun _ _ x _ _ h => (by cases x <;> exact h)) ?_
  iterate 17 (refine Rx.wpSched_q rfl rfl ?_; go_wp2; refine ⟨rfl, ?_⟩)
  refine Rx.wpSched_nil ?_
  go_wp2
  refine Rx.wp_region_sched (fun w' => w'.cell? ⟨b, 0, none⟩ = some (.slice (some ⟨pb, 0, none⟩) l.length c)) [(5, .r), (6, .r), (7, .r), (8, .r), (9, .r), (10, .r), (11, .r), (12, .r), (0, .h), (1, .h), (2, .h), (4, .h), (3, .h), (13, .e), (14, .r), (15, .r), (16, .e)] (by kernel_rfl) (by kernel_rfl) (c0) (fun _ _ x _ _ h => (by cases x <;> exact h)) ?_
  iterate 8 (refine Rx.wpSched_q rfl rfl ?_; go_wp2; refine ⟨rfl, ?_⟩)
  iterate 5 (refine Rx.wpSched_h (v := ?_) rfl rfl ?_ ?_; rotate_left; (intro w' hS'; go_simp; try with_reducible rfl))
  refine Rx.wpSched_e rfl ?_
  go_wp2_with (first | (go_at_call 20; refine stop ?_))
  refine go ?_
  refine (HCP.out _ (by first | exact (Chg.refl (fun _ => False) _).drew | exact (Chg.refl (fun _ => False) _).drewN _ | exact Chg.refl _ _ | exact ((Chg.refl (fun _ => False) _).drew).drew)).mono ?_
  rintro e w2 ⟨v2, rfl, o2, c2, n2⟩
  obtain ⟨p9, l9, cc9, rfl⟩ : ∃ p l c, v2 = .slice p l c := (by obtain ⟨p3, cc3, e, -⟩ := id o2; exact ⟨_, _, _, e⟩)
  obtain rfl : x0.bytes.length = l9 := ((OB_len2 o2).trans (by simp <;> omega)).symm
  have c2 : Chg (fun _ => False) w1 w2 := (by first | exact ((Chg.refl (fun _ => False) _).drew).trans c2 (fun k hk => hk.elim) | exact (((Chg.refl (fun _ => False) _).drew).drew).trans c2 (fun k hk => hk.elim) | exact c2)
  have H2 := Lib.hid (H1.out.quiet c2)
  have K2 := Lib.hid ((hcell_of H2.out.head 0).trans rfl)
  have HBO2 := Lib.hid ((c2.block _ (hlt_of HBO.out) (fun h => h)).trans HBO.out)
  have O2 := Lib.hid o2
  have C2 := Lib.hid c2
  have N2 := Lib.hid n2
  have f4 : w2.frozen? ⟨pb, i * 3 + 1, none⟩ = false := (by
    obtain ⟨pb', y, he, -, -, hy, -, -, -, -, -, hz, -, -⟩ := H2.out.pg (k := i) (List.getElem?_eq_some_iff.1 HX1.out).1
    obtain rfl : pb = pb' := by simpa using he
    exact hz _)
  have z4 : w2.cell? ⟨pb, i * 3 + 1, none⟩ = some (.slice x0.p x0.bytes.length x0.cap) := (World.cell?_of_block (a := ⟨pb, i * 3 + 1, none⟩) (c2.block pb HPL.out (fun h => h))).trans z1
  have K5 := Lib.hid ((World.cell?_of_block (a := ⟨b, 0, none⟩) (hset_other (w := w2) (p := ⟨pb, i * 3 + 1, none⟩) (v := .slice p9 (x0.bytes.length) cc9) (Ne.symm HPB.out))).trans K2.out)
  clear o2 c2 n2
  go_wp2
  refine ⟨(by exact K2.out), ?_⟩
  iterate 2 (refine Rx.wpSched_q rfl rfl ?_; go_wp2; refine ⟨rfl, ?_⟩)
  refine Rx.wpSched_e rfl ?_
  go_wp2
  refine ⟨(by exact K5.out), ?_⟩
  refine Rx.wpSched_nil ?_
  obtain ⟨h5, ev5⟩ := BkRaw.put1_ev EV1.out H1.out C2.out HX1.out p9 cc9 x0.bytes O2.out N2.out
  have hbo5 := (hset_other (w := w2) (p := ⟨pb, i * 3 + 1, none⟩) (v := .slice p9 x0.bytes.length cc9) (k := w.heap.size) (fun e => by
    have h1 := hlt_of HBO.out
    have e : w.heap.size = pb := e
    obtain ⟨pb', y, he, -, -, -, -, -, -, -, -, -, -, -⟩ := H1.out.pg (k := i) (List.getElem?_eq_some_iff.1 HX1.out).1
    have h2 := HOLD.out pb (List.mem_cons.2 (.inr (mem_lblks (sblk_some (by omega)))))
    omega)).trans HBO2.out
  obtain ⟨l5, hl5⟩ : ∃ l5 : List LF, l5 = l.set i ⟨x0.name, p9, cc9, x0.bytes, x0.sure⟩ := ⟨_, rfl⟩
  have hlen5 : l.length = l5.length := by rw [hl5]; simp
  obtain ⟨y5, hy5⟩ : ∃ y5 : LF, y5 = ⟨x0.name, p9, cc9, x0.bytes, x0.sure⟩ := ⟨_, rfl⟩
  have HX5 : Hid (l5[i]? = some y5) := Lib.hid (by
    rw [hl5, hy5, List.getElem?_set, if_pos rfl, if_pos (List.getElem?_eq_some_iff.1 HX1.out).1])
  have hyb : y5.bytes = x0.bytes := by rw [hy5]
  have HR5 : Hid (∀ u, u = (x0.bytes[q]'HQ.out) ^^^ maskOf m → (l5.set i ⟨y5.name, y5.p, y5.cap, y5.bytes.set q u, y5.sure⟩).map LF.fl = upd nm (fun f => { f with bytes := f.bytes.modify q (· ^^^ maskOf m) }) (l.map LF.fl)) := Lib.hid (fun u hu => by
    rw [hl5, List.set_set]
    refine map_set_upd HN.out HX1.out HXN.out ?_
    rw [hy5, hu]
    simp only [LF.fl, Fl.mk.injEq, true_and, and_true]
    exact (modify_eq_set HQ.out (fun x => x ^^^ maskOf m)).symm)
  have hql : q < y5.bytes.length := by rw [hyb]; exact HQ.out
  have HQL := Lib.hid hql
  have HYQ := Lib.hid (show y5.bytes[q]'HQL.out = x0.bytes[q]'HQ.out by simp only [hyb])
  have hyl5 : y5.bytes.length = x0.bytes.length := by rw [hyb]
  rw [← hl5, hlen5] at h5 ev5
  have HBO5 := Lib.hid hbo5
  have H5 := Lib.hid h5
  have EV5 := Lib.hid ev5
  clear h5 ev5 hbo5 hl5 hy5 k0 k1 k2 k3 k4 a0 a1 c0 z0 z1 z2 hil hil2 hxc hxc2 hql hyb
  rw [hlen5] at hlli
  rw [← hyl5] at hqi
  generalize w2.setCell ⟨pb, i * 3 + 1, none⟩ (.slice p9 x0.bytes.length cc9) = w5 at *
  have k3 := hcell_of HBO5.out 3
  have k4 := hcell_of HBO5.out 4
  simp only [List.getElem?_toArray, List.getElem?_cons_zero, List.getElem?_cons_succ] at k3 k4
  have hnc5 : l5.length ≤ c := by omega
  clear hnc1
  obtain ⟨pb5, x5, he0, -, hnc1, hx0, hxc, hob, z0, z1, z2, zf, hpl, hpb⟩ := H5.out.pg (k := i) (List.getElem?_eq_some_iff.1 HX5.out).1
  have e2 : (x5).sv = .slice (x5).p (x5).bytes.length (x5).cap := rfl
  rw [e2] at z1
  have hil : (i : Int) < ((l5).length : Int) := by have := (List.getElem?_eq_some_iff.1 HX5.out).1; omega
  have hil2 : ((l5).length : Int) ≤ c := by omega
  have c0 := hcell_of H5.out.head 0
  simp only [List.getElem?_toArray, List.getElem?_cons_zero] at c0
  obtain rfl : y5 = x5 := Option.some.inj (HX5.out.symm.trans hx0)
  obtain rfl : pb = pb5 := by simpa using he0
  obtain ⟨p6, c6, he6, hnc6, hcm6, -, hblk6⟩ := id hob
  obtain ⟨e61, e62⟩ : y5.p = p6 ∧ y5.cap = c6 := by simpa [LF.sv] using he6
  obtain ⟨bb, arr, hp6, hh6, hs6, ht6⟩ := hblk6 (by have := HQL.out; omega)
  have hp5 : y5.p = some ⟨bb, 0, none⟩ := e61.trans hp6
  rw [hp5] at z1
  have hcell : w5.cell? ⟨bb, q, none⟩ = some (.int .u8 ((y5.bytes[q]'HQL.out).toNat : Int)) := by
    rw [hcell_of hh6]
    have h1 : (arr.toList.take (y5.bytes.length * 1))[q]? = (y5.bytes.map u8)[q]? := by rw [ht6]
    rw [List.getElem?_take_of_lt (by have := HQL.out; omega)] at h1
    simpa [HQL.out] using h1
  have hfree : w5.frozen? ⟨bb, q, none⟩ = false := hfree_of hh6 q
  have hxc5 : (y5.bytes.length : Int) ≤ y5.cap := by omega
  have HXC := Lib.hid hxc
  have HP5 := Lib.hid hp5
  clear e2 hob zf hx0 hpb hpl he0 he6 hnc6 hcm6 hblk6 e61 e62 hp6 hh6 hs6 ht6 hp5
  go_wp2
  refine Rx.wp_region_sched (fun _ => True) [(0, .r), (1, .r), (2, .r), (3, .r), (4, .r), (5, .r), (6, .r), (7, .r), (8, .r), (9, .r), (10, .r), (11, .r), (12, .r), (13, .r), (14, .r), (15, .r), (16, .r), (17, .r), (18, .r), (19, .r), (20, .r), (21, .r), (22, .r), (23, .r), (24, .r), (25, .r), (26, .r), (27, .r), (28, .e)] (by kernel_rfl) (by kernel_rfl) trivial (fun _ _ x _ _ h => (by cases x <;> exact h)) ?_
  iterate 28 (refine Rx.wpSched_q rfl rfl ?_; go_wp2; refine ⟨rfl, ?_⟩)
  refine Rx.wpSched_e rfl ?_
  go_wp2
  refine ⟨trivial, ?_⟩
  refine Rx.wpSched_nil ?_
  have hxx : bits BinOp.xor IntKind.u8 ((y5.bytes[q]'HQL.out).toNat : Int) (bits BinOp.and IntKind.i64 m 255 % 256) = (((y5.bytes[q]'HQL.out) ^^^ maskOf m).toNat : Int) := by
    rw [maskOf_eq, u8_xor_nat _ _ (UInt8.toNat_lt _) (UInt8.toNat_lt _), UInt8.toNat_xor]
  rw [hxx]
  have hfin := BkRaw.putb_left EV5.out H5.out HX5.out HP5.out HQL.out HXC.out ((y5.bytes[q]'HQL.out) ^^^ maskOf m)
  rw [HR5.out _ (by rw [HYQ.out]), ← hlen5] at hfin
  have HFIN := Lib.hid hfin
  clear hfin hxx hcell hfree z0 z1 z2 c0 k3 k4
  go_wp2
  go_ret
  exact ⟨rfl, by first | exact HFIN.out | exact HFIN.out.drewN _⟩

end
end Go.Proofs
