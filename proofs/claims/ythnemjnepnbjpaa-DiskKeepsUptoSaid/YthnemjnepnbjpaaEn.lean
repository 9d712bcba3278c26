/- A book as it lies: enters. Conditions: the book lies as BkRep says; the call's bytes are read and lie apart; at most 2^40 pages and bytes. -/
import Derived.Test.YthnemjnepnbjpaaBx
namespace Go.Proofs
open Go.RowKit Go.Hp Go.Dm Go.Dr
set_option linter.unusedVariables false
set_option maxRecDepth 10000

section
variable {w w' w0 w1 w4 : World} {b : Nat} {v v' : Value} {l ys : List LF} {B : List Fl} {F F0 : List Nat} {nm : ByteArray}
variable {pq : Option Addr} {cq : Nat} {bs : List UInt8} {m ae an am : Int} {p1 : Option Addr} {n1 c1' : Nat} {p2 : Option Addr} {n2 c2' : Nat} {dn : Bool}

theorem BkRaw.put2_left {pb n c i : Nat} {x : LF} (ev : Ev F0 (b :: lblks (.slice (some ⟨pb, 0, none⟩) n c) l) w0 w1) (h : BkRaw w1 b (.slice (some ⟨pb, 0, none⟩) n c) l) (hx : l[i]? = some x) (s : Nat) :
    BkLeft w0 b F0 ((l.set i ⟨x.name, x.p, x.cap, x.bytes, s⟩).map LF.fl) (w1.setCell ⟨pb, i * 3 + 2, none⟩ (.int .i64 (s : Int))) := by
  have hi := (List.getElem?_eq_some_iff.1 hx).1
  obtain ⟨pb', x', he, -, hnc, -, -, -, -, -, -, -, -, hpb⟩ := h.pg hi
  obtain rfl : pb = pb' := by simpa using he
  have hsv : sblk (.slice (some ⟨pb, 0, none⟩) n c) = some pb := sblk_some (by omega)
  refine ⟨_, ⟨_, _, h.put2 hx s, rfl, rfl⟩, ev.trans ⟨(Chg.refl _ w1).setCell (p := ⟨pb, i * 3 + 2, none⟩) (.inl (List.mem_cons.2 (.inr (mem_lblks hsv)))) _, fun k hk => .inl ?_⟩⟩
  rw [lblks_set (y := ⟨x.name, x.p, x.cap, x.bytes, s⟩) hx rfl] at hk
  exact hk
theorem RB.takeQ {p : Option Addr} {c : Nat} {bs : List UInt8} (h : RB w (.slice p bs.length c) bs) (m : Nat) (hm : m ≤ bs.length) : RB w (.slice p m c) (bs.take m) := by
  obtain ⟨p', c', he, hnc, hlen, hblk⟩ := h
  obtain ⟨rfl, -, rfl⟩ : p = p' ∧ bs.length = bs.length ∧ c = c' := by simpa only [Value.slice.injEq] using he
  have e : (bs.take m).length = m := by simp; omega
  refine ⟨p, c, by rw [e], by rw [e]; omega, by simp, fun hc => ?_⟩
  obtain ⟨b, off, arr, t, fz, rfl, hh, hx⟩ := hblk hc
  refine ⟨b, off, arr, t, fz, rfl, hh, fun i u hu => hx i u ?_⟩
  rw [List.map_take, List.getElem?_take] at hu
  split at hu
  · exact hu
  · cases hu
theorem page_same (hN : l.length ≤ 1099511627776) (h : BkRaw w b v l) :
    Calls Try.prog 52 #[.pointer (some ⟨b, 0, none⟩), .string nm] w fun e w' => ∃ r : Int, e = .returned (.int .i64 r) ∧ w = w' :=
  (page_walk hN h).mono fun e w' ⟨h1, h2⟩ => by
    rcases h2 with ⟨h2, -⟩ | ⟨i, x, h2, -⟩
    · exact ⟨_, h2, h1⟩
    · exact ⟨_, h2, h1⟩
theorem BkLeft.mono {F1 : List Nat} {B' : List Fl} (ev : Ev F0 F1 w0 w1) (h : BkLeft w1 b F1 B' w') : BkLeft w0 b F0 B' w' := by
  obtain ⟨F', h1, h2⟩ := h
  exact ⟨F', h1, ev.trans h2⟩

set_option maxHeartbeats 4000000 in
theorem enters_sync {i : Nat} {x : LF} {q : Int} (hN : l.length ≤ 1099511627776) (h : BkRaw w b v l) (hn : (l.map (·.name)).Nodup) (hx : l[i]? = some x) (hxn : x.name = nm) (hL : x.bytes.length ≤ 1099511627776) :
    Calls Try.prog 33 #[.pointer (some ⟨b, 0, none⟩), .agg #[.int .i64 2, .string nm, .slice pq bs.length cq, .int .i64 q, .int .i64 m], .agg #[.int .i64 ae, .int .i64 an, .int .i64 am, .slice p1 n1 c1', .slice p2 n2 c2', .bool dn]] w fun e w' =>
      e = .returned (.bool true) ∧ BkLeft w b (b :: lblks v l) (upd nm (fun f => { f with sure := f.bytes.length }) (l.map LF.fl)) w' := by
  obtain ⟨p, c, rfl, hnc, -, -⟩ := id h.sl
  obtain ⟨v, hv⟩ : ∃ v : Value, v = .slice p l.length c := ⟨_, rfl⟩
  rw [← hv] at h ⊢
  have hpg := fun U (hU : Chg (fun _ => False) w U) => page_some (w := U) (nm := nm) hN (h.quiet hU) hn hx hxn
  have hcw := ((Chg.refl (fun _ => False) w).alloc (.cells #[.int .i64 2, .string nm, .slice pq bs.length cq, .int .i64 q, .int .i64 m] 56)).alloc (.cells #[.int .i64 ae, .int .i64 an, .int .i64 am, .slice p1 n1 c1', .slice p2 n2 c2', .bool dn] 58)
  have hev := ((Ev.refl (b :: lblks v l) w).alloc (.cells #[.int .i64 2, .string nm, .slice pq bs.length cq, .int .i64 q, .int .i64 m] 56)).alloc (.cells #[.int .i64 ae, .int .i64 an, .int .i64 am, .slice p1 n1 c1', .slice p2 n2 c2', .bool dn] 58)
  have hbo := (halloc_lt (o := (.cells #[.int .i64 ae, .int .i64 an, .int .i64 am, .slice p1 n1 c1', .slice p2 n2 c2', .bool dn] 58)) (hlt_of (halloc_at w (.cells #[.int .i64 2, .string nm, .slice pq bs.length cq, .int .i64 q, .int .i64 m] 56)))).trans (halloc_at w (.cells #[.int .i64 2, .string nm, .slice pq bs.length cq, .int .i64 q, .int .i64 m] 56))
  have hba := halloc_at (w.alloc (.cells #[.int .i64 2, .string nm, .slice pq bs.length cq, .int .i64 q, .int .i64 m] 56)) (.cells #[.int .i64 ae, .int .i64 an, .int .i64 am, .slice p1 n1 c1', .slice p2 n2 c2', .bool dn] 58)
  rw [halloc_size] at hba
  have HPG := Lib.hid hpg
  have H1 := Lib.hid (h.quiet hcw)
  have EV1 := Lib.hid hev
  have HCW := Lib.hid hcw
  have HBO := Lib.hid hbo
  have HBA := Lib.hid hba
  have HN := Lib.hid hn
  have HX1 := Lib.hid hx
  have HXN := Lib.hid hxn
  have hlli : (l.length : Int) ≤ 1099511627776 := by omega
  have hi00 : (0 : Int) ≤ (i : Int) := by omega
  have hi1 : ¬ ((i : Int) < 0) := by omega
  clear h hpg hcw hev hbo hba hn hx hxn hN
  go_enter Try.func33, Try.ntmps33
  go_wp2_with (first | (go_at_call 52; refine stop ?_))
  refine go ?_
  generalize (w.alloc (.cells #[.int .i64 2, .string nm, .slice pq bs.length cq, .int .i64 q, .int .i64 m] 56)).alloc (.cells #[.int .i64 ae, .int .i64 an, .int .i64 am, .slice p1 n1 c1', .slice p2 n2 c2', .bool dn] 58) = w1 at *
  refine (HPG.out _ HCW.out).mono ?_
  rintro e w' ⟨rfl, rfl⟩
  have k0 := hcell_of HBO.out 0
  have k1 := hcell_of HBO.out 1
  have k2 := hcell_of HBO.out 2
  have k3 := hcell_of HBO.out 3
  have k4 := hcell_of HBO.out 4
  have a0 := hcell_of HBA.out 0
  have a1 := hcell_of HBA.out 1
  simp only [List.getElem?_toArray, List.getElem?_cons_zero, List.getElem?_cons_succ] at k0 k1 k2 k3 k4 a0 a1
  subst hv
  obtain ⟨pb, x0, he0, -, hnc1, hx0, hxc, hob, z0, z1, z2, zf, hpl, hpb⟩ := H1.out.pg (k := i) (List.getElem?_eq_some_iff.1 HX1.out).1
  obtain rfl : x0 = x := Option.some.inj (hx0.symm.trans HX1.out)
  subst he0
  have e2 : x0.sv = .slice x0.p x0.bytes.length x0.cap := rfl
  rw [e2] at z1
  have hil : (i : Int) < (l.length : Int) := by have := (List.getElem?_eq_some_iff.1 HX1.out).1; omega
  have hil2 : (l.length : Int) ≤ c := by omega
  have c0 := hcell_of H1.out.head 0
  simp only [List.getElem?_toArray, List.getElem?_cons_zero] at c0
  have zf2 := zf (i * 3 + 2)
  clear e2 hob zf hx0
  go_wp2
  refine Rx.wp_region_sched (fun _ => True) [(0, .r), (1, .r), (2, .r), (3, .r), (4, .r), (5, .r), (6, .r), (7, .r), (8, .r), (9, .r), (10, .r), (11, .r), (12, .r), (13, .r), (14, .r), (15, .r), (16, .e)] (by kernel_rfl) (by kernel_rfl) trivial (fun _ _ x _ _ h => (by cases x <;> exact h)) ?_
  iterate 16 (refine Rx.wpSched_q rfl rfl ?_; go_wp2; refine ⟨rfl, ?_⟩)
  refine Rx.wpSched_e rfl ?_
  go_wp2
  refine ⟨trivial, ?_⟩
  refine Rx.wpSched_nil ?_
  go_wp2
  go_ret
  have hfin := BkRaw.put2_left EV1.out H1.out HX1.out x0.bytes.length
  rw [map_set_upd (g := fun f => { f with sure := f.bytes.length }) HN.out HX1.out HXN.out rfl] at hfin
  exact ⟨rfl, by first | exact hfin | exact hfin.drewN _⟩

set_option maxHeartbeats 4000000 in
theorem enters_gone {i : Nat} {x : LF} {q : Int} (hN : l.length ≤ 1099511627776) (h : BkRaw w b v l) (hn : (l.map (·.name)).Nodup) (hx : l[i]? = some x) (hxn : x.name = nm) :
    Calls Try.prog 33 #[.pointer (some ⟨b, 0, none⟩), .agg #[.int .i64 4, .string nm, .slice pq bs.length cq, .int .i64 q, .int .i64 m], .agg #[.int .i64 ae, .int .i64 an, .int .i64 am, .slice p1 n1 c1', .slice p2 n2 c2', .bool dn]] w fun e w' =>
      e = .returned (.bool true) ∧ BkLeft w b (b :: lblks v l) (del nm (l.map LF.fl)) w' := by
  have HGO := Lib.hid fun U (hU : BkRaw U b v l) => gone_walk (w := U) hN hU hn hx
  have hpg := fun U (hU : Chg (fun _ => False) w U) => page_some (w := U) (nm := nm) hN (h.quiet hU) hn hx hxn
  have hcw := ((Chg.refl (fun _ => False) w).alloc (.cells #[.int .i64 4, .string nm, .slice pq bs.length cq, .int .i64 q, .int .i64 m] 56)).alloc (.cells #[.int .i64 ae, .int .i64 an, .int .i64 am, .slice p1 n1 c1', .slice p2 n2 c2', .bool dn] 58)
  have hev := ((Ev.refl (b :: lblks v l) w).alloc (.cells #[.int .i64 4, .string nm, .slice pq bs.length cq, .int .i64 q, .int .i64 m] 56)).alloc (.cells #[.int .i64 ae, .int .i64 an, .int .i64 am, .slice p1 n1 c1', .slice p2 n2 c2', .bool dn] 58)
  have hbo := (halloc_lt (o := (.cells #[.int .i64 ae, .int .i64 an, .int .i64 am, .slice p1 n1 c1', .slice p2 n2 c2', .bool dn] 58)) (hlt_of (halloc_at w (.cells #[.int .i64 4, .string nm, .slice pq bs.length cq, .int .i64 q, .int .i64 m] 56)))).trans (halloc_at w (.cells #[.int .i64 4, .string nm, .slice pq bs.length cq, .int .i64 q, .int .i64 m] 56))
  have hba := halloc_at (w.alloc (.cells #[.int .i64 4, .string nm, .slice pq bs.length cq, .int .i64 q, .int .i64 m] 56)) (.cells #[.int .i64 ae, .int .i64 an, .int .i64 am, .slice p1 n1 c1', .slice p2 n2 c2', .bool dn] 58)
  rw [halloc_size] at hba
  have HPG := Lib.hid hpg
  have H1 := Lib.hid (h.quiet hcw)
  have EV1 := Lib.hid hev
  have HCW := Lib.hid hcw
  have HBO := Lib.hid hbo
  have HBA := Lib.hid hba
  have HN := Lib.hid hn
  have HX1 := Lib.hid hx
  have HXN := Lib.hid hxn
  have hlli : (l.length : Int) ≤ 1099511627776 := by omega
  have hi00 : (0 : Int) ≤ (i : Int) := by omega
  have hi1 : ¬ ((i : Int) < 0) := by omega
  clear h hpg hcw hev hbo hba hn hx hxn hN
  go_enter Try.func33, Try.ntmps33
  go_wp2_with (first | (go_at_call 52; refine stop ?_))
  refine go ?_
  generalize (w.alloc (.cells #[.int .i64 4, .string nm, .slice pq bs.length cq, .int .i64 q, .int .i64 m] 56)).alloc (.cells #[.int .i64 ae, .int .i64 an, .int .i64 am, .slice p1 n1 c1', .slice p2 n2 c2', .bool dn] 58) = w1 at *
  refine (HPG.out _ HCW.out).mono ?_
  rintro e w' ⟨rfl, rfl⟩
  have k0 := hcell_of HBO.out 0
  have k1 := hcell_of HBO.out 1
  have k2 := hcell_of HBO.out 2
  have k3 := hcell_of HBO.out 3
  have k4 := hcell_of HBO.out 4
  have a0 := hcell_of HBA.out 0
  have a1 := hcell_of HBA.out 1
  simp only [List.getElem?_toArray, List.getElem?_cons_zero, List.getElem?_cons_succ] at k0 k1 k2 k3 k4 a0 a1
  go_wp2_with (first | (go_at_call 54; refine stop ?_))
  refine go ?_
  refine (HGO.out _ H1.out).mono ?_
  rintro e w2 ⟨rfl, h2⟩
  have H2 := Lib.hid h2
  clear h2
  go_wp2
  go_ret
  have hfin := H2.out.mono EV1.out
  rw [HXN.out] at hfin
  exact ⟨rfl, by first | exact hfin | exact hfin.drewN _⟩

set_option maxHeartbeats 4000000 in
theorem enters_none {k q : Int} (hk : k ≠ 1 ∧ k ≠ 2 ∧ k ≠ 3 ∧ k ≠ 4 ∧ k ≠ 11) (hN : l.length ≤ 1099511627776) (h : BkRaw w b v l) :
    Calls Try.prog 33 #[.pointer (some ⟨b, 0, none⟩), .agg #[.int .i64 k, .string nm, .slice pq bs.length cq, .int .i64 q, .int .i64 m], .agg #[.int .i64 ae, .int .i64 an, .int .i64 am, .slice p1 n1 c1', .slice p2 n2 c2', .bool dn]] w fun e w' =>
      e = .returned (.bool true) ∧ BkLeft w b (b :: lblks v l) (l.map LF.fl) w' := by
  have hpg := fun U (hU : Chg (fun _ => False) w U) => page_same (w := U) (nm := nm) hN (h.quiet hU)
  have hcw := ((Chg.refl (fun _ => False) w).alloc (.cells #[.int .i64 k, .string nm, .slice pq bs.length cq, .int .i64 q, .int .i64 m] 56)).alloc (.cells #[.int .i64 ae, .int .i64 an, .int .i64 am, .slice p1 n1 c1', .slice p2 n2 c2', .bool dn] 58)
  have hev := ((Ev.refl (b :: lblks v l) w).alloc (.cells #[.int .i64 k, .string nm, .slice pq bs.length cq, .int .i64 q, .int .i64 m] 56)).alloc (.cells #[.int .i64 ae, .int .i64 an, .int .i64 am, .slice p1 n1 c1', .slice p2 n2 c2', .bool dn] 58)
  have hbo := (halloc_lt (o := (.cells #[.int .i64 ae, .int .i64 an, .int .i64 am, .slice p1 n1 c1', .slice p2 n2 c2', .bool dn] 58)) (hlt_of (halloc_at w (.cells #[.int .i64 k, .string nm, .slice pq bs.length cq, .int .i64 q, .int .i64 m] 56)))).trans (halloc_at w (.cells #[.int .i64 k, .string nm, .slice pq bs.length cq, .int .i64 q, .int .i64 m] 56))
  have hba := halloc_at (w.alloc (.cells #[.int .i64 k, .string nm, .slice pq bs.length cq, .int .i64 q, .int .i64 m] 56)) (.cells #[.int .i64 ae, .int .i64 an, .int .i64 am, .slice p1 n1 c1', .slice p2 n2 c2', .bool dn] 58)
  rw [halloc_size] at hba
  have HPG := Lib.hid hpg
  have H1 := Lib.hid (h.quiet hcw)
  have EV1 := Lib.hid hev
  have HCW := Lib.hid hcw
  have HBO := Lib.hid hbo
  have HBA := Lib.hid hba
  have g1 : (k == (1 : Int)) = false := beq_eq_false_iff_ne.2 hk.1
  have g2 : (k == (2 : Int)) = false := beq_eq_false_iff_ne.2 hk.2.1
  have g3 : (k == (3 : Int)) = false := beq_eq_false_iff_ne.2 hk.2.2.1
  have g4 : (k == (4 : Int)) = false := beq_eq_false_iff_ne.2 hk.2.2.2.1
  have g5 : (k == (11 : Int)) = false := beq_eq_false_iff_ne.2 hk.2.2.2.2
  clear h hpg hcw hev hbo hba hN hk
  go_enter Try.func33, Try.ntmps33
  go_wp2_with (first | (go_at_call 52; refine stop ?_))
  refine go ?_
  generalize (w.alloc (.cells #[.int .i64 k, .string nm, .slice pq bs.length cq, .int .i64 q, .int .i64 m] 56)).alloc (.cells #[.int .i64 ae, .int .i64 an, .int .i64 am, .slice p1 n1 c1', .slice p2 n2 c2', .bool dn] 58) = w1 at *
  refine (HPG.out _ HCW.out).mono ?_
  rintro e w' ⟨r, rfl, rfl⟩
  have k0 := hcell_of HBO.out 0
  have k1 := hcell_of HBO.out 1
  have k2 := hcell_of HBO.out 2
  have k3 := hcell_of HBO.out 3
  have k4 := hcell_of HBO.out 4
  have a0 := hcell_of HBA.out 0
  have a1 := hcell_of HBA.out 1
  simp only [List.getElem?_toArray, List.getElem?_cons_zero, List.getElem?_cons_succ] at k0 k1 k2 k3 k4 a0 a1
  go_wp2
  go_ret
  exact ⟨rfl, ⟨_, ⟨_, _, H1.out, rfl, rfl⟩, EV1.out⟩⟩

set_option maxHeartbeats 4000000 in
theorem enters_put {q : Int} {a e0 : Nat} (hN : l.length + 1 ≤ 1099511627776) (h : BkRaw w b v l) (hn : (l.map (·.name)).Nodup) (hT : total (l.map LF.fl) ≤ 1099511627776) (hbl : a ≤ 70368744177664)
    (hrb : RB w (.slice pq bs.length cq) bs) (hap : ∀ k, sblk (.slice pq bs.length cq) = some k → k ∉ b :: lblks v l) (ha : a ≤ bs.length) (he : e0 = 0 ↔ a = bs.length) :
    Calls Try.prog 33 #[.pointer (some ⟨b, 0, none⟩), .agg #[.int .i64 1, .string nm, .slice pq bs.length cq, .int .i64 q, .int .i64 m], .agg #[.int .i64 (e0 : Int), .int .i64 (a : Int), .int .i64 am, .slice p1 n1 c1', .slice p2 n2 c2', .bool dn]] w fun e w' =>
      e = .returned (.bool true) ∧ BkLeft w b (b :: lblks v l) (bput nm (bs.take a) (l.map LF.fl)) w' := by
  have hpg := fun U (hU : Chg (fun _ => False) w U) => page_same (w := U) (nm := nm) (by omega) (h.quiet hU)
  obtain ⟨ae, hae⟩ : ∃ ae : Int, ae = (e0 : Int) := ⟨_, rfl⟩
  obtain ⟨an, han⟩ : ∃ an : Int, an = (a : Int) := ⟨_, rfl⟩
  rw [← hae, ← han]
  have hcw := ((Chg.refl (fun _ => False) w).alloc (.cells #[.int .i64 1, .string nm, .slice pq bs.length cq, .int .i64 q, .int .i64 m] 56)).alloc (.cells #[.int .i64 ae, .int .i64 an, .int .i64 am, .slice p1 n1 c1', .slice p2 n2 c2', .bool dn] 58)
  have hev := ((Ev.refl (b :: lblks v l) w).alloc (.cells #[.int .i64 1, .string nm, .slice pq bs.length cq, .int .i64 q, .int .i64 m] 56)).alloc (.cells #[.int .i64 ae, .int .i64 an, .int .i64 am, .slice p1 n1 c1', .slice p2 n2 c2', .bool dn] 58)
  have hbo := (halloc_lt (o := (.cells #[.int .i64 ae, .int .i64 an, .int .i64 am, .slice p1 n1 c1', .slice p2 n2 c2', .bool dn] 58)) (hlt_of (halloc_at w (.cells #[.int .i64 1, .string nm, .slice pq bs.length cq, .int .i64 q, .int .i64 m] 56)))).trans (halloc_at w (.cells #[.int .i64 1, .string nm, .slice pq bs.length cq, .int .i64 q, .int .i64 m] 56))
  have hba := halloc_at (w.alloc (.cells #[.int .i64 1, .string nm, .slice pq bs.length cq, .int .i64 q, .int .i64 m] 56)) (.cells #[.int .i64 ae, .int .i64 an, .int .i64 am, .slice p1 n1 c1', .slice p2 n2 c2', .bool dn] 58)
  rw [halloc_size] at hba
  have htk := RB.takeQ hrb a ha
  have hw := fun U (hU : Chg (fun _ => False) w U) => wrote_any (w := U) (nm := nm) (bv := .slice pq a cq) (bs := bs.take a) (B := l.map LF.fl) (F := b :: lblks v l) (by simpa using hN) (by simpa [List.map_map, Function.comp_def, LF.fl] using hn) hT (by simp; omega) ⟨v, l, h.quiet hU, rfl, rfl⟩
    (RC.chg htk hU fun _ _ h => h) (fun k hk => hap k (by
      have hc : cq ≠ 0 := fun e => by subst e; cases pq <;> simp [sblk] at hk
      cases pq with
      | none => simp [sblk] at hk
      | some p => rw [sblk_some hc] at hk ⊢; exact hk))
  have hle : (bs.length : Int) ≤ cq := by obtain ⟨p', c', e, h1, -⟩ := hrb; simp only [Value.slice.injEq] at e; omega
  have HW := Lib.hid hw
  have HPG := Lib.hid hpg
  have EV1 := Lib.hid hev
  have HCW := Lib.hid hcw
  have HBO := Lib.hid hbo
  have HBA := Lib.hid hba
  have ha0 : (0 : Int) ≤ an := by omega
  have ha1 : an ≤ (bs.length : Int) := by omega
  by_cases h0 : e0 = 0
  · have hn1 : an = (bs.length : Int) := by have := he.1 h0; omega
    have he0 : ae = 0 := by omega
    have haa : a = bs.length := he.1 h0
    clear h hpg hcw hev hbo hba hN hn hT hbl hrb hap ha he htk hw h0 hae
    subst he0
    subst hn1
    clear ha0 ha1 han
    subst haa
    go_enter Try.func33, Try.ntmps33
    go_wp2_with (first | (go_at_call 52; refine stop ?_))
    refine go ?_
    generalize (w.alloc (.cells #[.int .i64 1, .string nm, .slice pq bs.length cq, .int .i64 q, .int .i64 m] 56)).alloc (.cells #[.int .i64 0, .int .i64 (bs.length : Int), .int .i64 am, .slice p1 n1 c1', .slice p2 n2 c2', .bool dn] 58) = w1 at *
    refine (HPG.out _ HCW.out).mono ?_
    rintro e w' ⟨r, rfl, rfl⟩
    have k0 := hcell_of HBO.out 0
    have k1 := hcell_of HBO.out 1
    have k2 := hcell_of HBO.out 2
    have k3 := hcell_of HBO.out 3
    have k4 := hcell_of HBO.out 4
    have a0 := hcell_of HBA.out 0
    have a1 := hcell_of HBA.out 1
    simp only [List.getElem?_toArray, List.getElem?_cons_zero, List.getElem?_cons_succ] at k0 k1 k2 k3 k4 a0 a1
    go_wp2
    refine Rx.wp_region_sched (fun _ => True) [(0, .r), (1, .r), (2, .r), (3, .r), (4, .r), (5, .r), (6, .r), (7, .r), (8, .e)] (by kernel_rfl) (by kernel_rfl) trivial (fun _ _ x _ _ h => (by cases x <;> exact h)) ?_
    iterate 8 (refine Rx.wpSched_q rfl rfl ?_; go_wp2; refine ⟨rfl, ?_⟩)
    refine Rx.wpSched_e rfl ?_
    go_wp2_with (first | (go_at_call 31; refine stop ?_))
    refine go ?_
    refine (HW.out _ (by first | exact (HCW.out.drew) | exact HCW.out)).mono ?_
    rintro e w5 ⟨rfl, h5⟩
    have H5 := Lib.hid h5
    clear h5
    go_wp2
    refine ⟨trivial, ?_⟩
    refine Rx.wpSched_nil ?_
    go_wp2
    go_ret
    have hfin := H5.out.mono (by first | exact EV1.out.drewN 1 | exact EV1.out)
    exact ⟨rfl, by first | exact hfin | exact hfin.drewN _⟩
  · have g1 : (ae == (0 : Int)) = false := by rw [hae]; exact beq_eq_false_iff_ne.2 (by omega)
    have g2 : (an == (bs.length : Int)) = false := beq_eq_false_iff_ne.2 (by have := fun e => h0 (he.2 e); omega)
    have hna : an.toNat = a := by omega
    clear h hpg hcw hev hbo hba hN hn hT hbl hrb hap ha he htk hw h0 hae
    subst han
    go_enter Try.func33, Try.ntmps33
    go_wp2_with (first | (go_at_call 52; refine stop ?_))
    refine go ?_
    generalize (w.alloc (.cells #[.int .i64 1, .string nm, .slice pq bs.length cq, .int .i64 q, .int .i64 m] 56)).alloc (.cells #[.int .i64 ae, .int .i64 (a : Int), .int .i64 am, .slice p1 n1 c1', .slice p2 n2 c2', .bool dn] 58) = w1 at *
    refine (HPG.out _ HCW.out).mono ?_
    rintro e w' ⟨r, rfl, rfl⟩
    have k0 := hcell_of HBO.out 0
    have k1 := hcell_of HBO.out 1
    have k2 := hcell_of HBO.out 2
    have k3 := hcell_of HBO.out 3
    have k4 := hcell_of HBO.out 4
    have a0 := hcell_of HBA.out 0
    have a1 := hcell_of HBA.out 1
    simp only [List.getElem?_toArray, List.getElem?_cons_zero, List.getElem?_cons_succ] at k0 k1 k2 k3 k4 a0 a1
    go_wp2
    refine Rx.wp_region_sched (fun _ => True) [(0, .r), (1, .r), (2, .r), (3, .r), (4, .r), (5, .r), (6, .r), (7, .r), (8, .e)] (by kernel_rfl) (by kernel_rfl) trivial (fun _ _ x _ _ h => (by cases x <;> exact h)) ?_
    iterate 8 (refine Rx.wpSched_q rfl rfl ?_; go_wp2; refine ⟨rfl, ?_⟩)
    refine Rx.wpSched_e rfl ?_
    go_wp2_with (first | (go_at_call 31; refine stop ?_))
    refine go ?_
    refine (HW.out _ (by first | exact (HCW.out.drew) | exact HCW.out)).mono ?_
    rintro e w5 ⟨rfl, h5⟩
    have H5 := Lib.hid h5
    clear h5
    go_wp2
    refine ⟨trivial, ?_⟩
    refine Rx.wpSched_nil ?_
    go_wp2
    go_ret
    have hfin := H5.out.mono (by first | exact EV1.out.drewN 1 | exact EV1.out)
    exact ⟨rfl, by first | exact hfin | exact hfin.drewN _⟩
end
end Go.Proofs
