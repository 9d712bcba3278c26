/- journal.Append. Conditions: the journal lies as HRaw says, no error has closed it, nobody else has changed its file; the disk takes the frame, or is full. -/
import Derived.Test.YtaiaghfckhgnnaaDoorJx
import Derived.Test.YtaiaghfckhgnnaaDoorWt
namespace Go.Proofs
open Go.RowKit Go.Hp Go.Dm Go.Dr Go.Jn
set_option linter.unusedVariables false
set_option maxRecDepth 10000
theorem Gl.chgF {w w' : World} {F : List Nat} (h : Gl w) (hc : Chg (· ∈ F) w w') (hF : ∀ k ∈ F, 1 < k) : Gl w' :=
  ⟨(cell_chg (hc.block 0 (by have := h.lt; omega) (fun h => by have := hF 0 h; omega))).trans h.err, fun i hi => (cell_chg (hc.block 1 (by have := h.lt; omega) (fun h => by have := hF 1 h; omega))).trans (h.tab i hi)⟩
def nApp : ByteArray := ⟨#[65, 112, 112, 101, 110, 100]⟩
theorem info_int8 : (Tryd.prog.info? 3).map (fun i => (i.zero, i.size, i.bytes)) = some (some (.int .i64 0), 1, 8) := by kernel_rfl
/-- append of numbers -/
theorem wpList_append_ints {w : World} {ops : Array Oper} {rest : List Oper} {o : Oper} {a : Act} {Q : Exit → Act → World → Prop} (hg : o.guard = none) (s x : Operand)
    (hop : o.op = .call { callee := .builtin .append, args := #[s, x], argTypes := #[58, 58] }) {v y : Value} {l m : List Value} (hs : a.eval s = v) (hx : a.eval x = y)
    (hv : OC w 1 3 v l.length l) (hy : RC w 1 y m.length m) (h1 : ∀ u ∈ m, u.oneCell' = true) (hlen : l.length + m.length ≤ 1099511627776)
    (h : ∀ pv lv cv w', OC w' 1 3 (.slice pv lv cv) (l ++ m).length (l ++ m) → lv = l.length + m.length → Chg (fun b => sblk v = some b) w w' → (∀ b, sblk (.slice pv lv cv) = some b → sblk v = some b ∨ w.heap.size ≤ b) →
      wpList Tryd.prog ops Q rest (a.put o.dst (.slice pv lv cv)) w') : wpList Tryd.prog ops Q (o :: rest) a w := by
  obtain ⟨i0, hi, hz0, hz1, hz2⟩ := info_parts info_int8
  refine wpList_append_oc hg s x 58 hop 3 i0 _ 1 8 Tryd.underlying58 hi hz0 hz1 hz2 rfl (by decide) hs hx hv hy h1 (by decide) (by omega) fun v' w' r1 h2 h3 h4 => ?_
  rw [← List.length_append] at r1
  obtain ⟨pv, cv, rfl, _⟩ := id r1
  exact h pv _ cv w' r1 (by simp) h2 h3
/-- a number more behind the ends -/
theorem HRaw.grow {w wa w6 : World} {d j : Nat} {H : Hs} {F : List Nat} {v v' : Value} {es' : List Nat} (h : HRaw w d j H F v) (hc : Chg (fun _ => False) w wa) (a1 : OC w6 1 3 v' es'.length (es'.map intV))
    (a3 : Chg (fun b => sblk v = some b) wa w6) (a4 : ∀ b, sblk v' = some b → sblk v = some b ∨ wa.heap.size ≤ b) :
    HRaw (w6.setCell ⟨j, 2, none⟩ v') d j { H with es := es' } F v' ∧ Ev (F ++ jbl j v) (F ++ jbl j v') w (w6.setCell ⟨j, 2, none⟩ v') := by
  have hj : j < w.heap.size := h.jrn.lt j (mem_jbl.2 (.inl rfl))
  have hjF : j ∉ F := h.off j (mem_jbl.2 (.inl rfl))
  have hjv' : sblk v' ≠ some j := fun e => (a4 j e).elim h.jrn.ne fun h2 => by have := hc.size; omega
  have hh6 : w6.heap[j]? = _ := ((a3.block j (by have := hc.size; omega) h.jrn.ne).trans (hc.block j hj (fun h => h))).trans h.jrn.head
  refine ⟨⟨h.disk.keep fun k hk => ?_, ⟨?_, OC.keep a1 fun b hb => hset_other fun e => hjv' (by have e : b = j := e; rw [← e]; exact hb), hjv'⟩, fun k hk hkF => ?_⟩, ⟨?_, fun k hk => ?_⟩⟩
  · have hkj : k ≠ j := fun e => hjF (e ▸ hk)
    have hkw := h.disk.lt k hk
    exact (hset_other (p := ⟨j, 2, none⟩) hkj).trans ((a3.block k (by have := hc.size; omega) fun e => h.off k (mem_jbl.2 (.inr e)) hk).trans (hc.block k hkw (fun h => h)))
  · have := hset_same hh6 2 v'
    simpa using this
  · rcases mem_jbl.1 hk with rfl | hk
    · exact hjF hkF
    · rcases a4 k hk with h1 | h1
      · exact h.off k (mem_jbl.2 (.inr h1)) hkF
      · have := h.disk.lt k hkF
        have := hc.size
        omega
  · exact ((hc.mono fun k hk => hk.elim).trans a3 fun k hk => .inl (List.mem_append.2 (.inr (mem_jbl.2 (.inr hk))))).setCell (p := ⟨j, 2, none⟩) (.inl (List.mem_append.2 (.inr (mem_jbl.2 (.inl rfl))))) _
  · rcases List.mem_append.1 hk with hk | hk
    · exact .inl (List.mem_append.2 (.inl hk))
    · rcases mem_jbl.1 hk with rfl | hk
      · exact .inl (List.mem_append.2 (.inr (mem_jbl.2 (.inl rfl))))
      · rcases a4 k hk with h1 | h1
        · exact .inl (List.mem_append.2 (.inr (mem_jbl.2 (.inr h1))))
        · exact .inr (by have := hc.size; omega)
section
variable {w : World} {d j : Nat} {H : Hs} {F : List Nat} {v : Value} {r : List UInt8} {p : Option Addr} {c : Nat}
set_option maxHeartbeats 16000000 in
theorem japp_ok {D1 : Dk} {n : Nat} (hg : Gl w) (h : HRaw w d j H F v) (her : H.er = .nilIface) (hs : H.nm.size ≤ maxLen) (hes : H.es.length ≤ 2147483647) (hdu : H.du ≤ H.es.length) (hlk : lookE H.D H.nm H.es H.du = 0)
    (hb : RB w (.slice p r.length c) r) (hap : ∀ k, sblk (.slice p r.length c) = some k → k ∉ F ++ jbl j v) (hF2 : ∀ k ∈ F ++ jbl j v, 1 < k) (hl : r.length ≤ 131068) (hz : endN H.es H.es.length ≤ 1099511627776) (ha : H.D.append H.nm (jwrap (jpay H.es.length r)) = ((n, 0), D1)) :
    Calls Tryd.prog 9 #[.pointer (some ⟨j, 0, none⟩), .slice p r.length c] w fun e w' => e = .returned .nilIface ∧
      HLeft w d j (F ++ jbl j v) ⟨D1, H.nm, H.es ++ [endN H.es H.es.length + (r.length + 16)], H.du, H.er⟩ w' := by
  have HLK := look_any h hs (by omega) hdu
  rw [hlk, show givenV 0 = .nilIface from rfl] at HLK
  have HLK := Lib.hid HLK
  have HH := Lib.hid (And.intro h (And.intro hg (And.intro hb (And.intro hap hF2))))
  have HN := Lib.hid (And.intro hs (And.intro hes (And.intro hdu (And.intro hl hz))))
  have HA := Lib.hid ha
  have g0 := hcell_of (h.jrn).head 0
  have g1 := hcell_of (h.jrn).head 1
  have g2 := hcell_of (h.jrn).head 2
  have g3 := hcell_of (h.jrn).head 3
  have g4 := hcell_of (h.jrn).head 4
  simp only [List.getElem?_toArray, List.getElem?_cons_zero, List.getElem?_cons_succ] at g0 g1 g2 g3 g4
  rw [her] at g4
  obtain ⟨pv, cv, hpv, -⟩ := id h.jrn.oc
  rw [hpv] at g2
  have irl : (r.length : Int) ≤ 131068 := by omega
  have iel : (H.es.length : Int) ≤ 2147483647 := by omega
  clear h her hs hes hdu hlk hb hap hF2 hl hz ha hg g0 g1 g3 hpv
  go_enter Tryd.func9, Tryd.ntmps9
  go_wp2_with (first | (go_at_call 33; refine stop ?_))
  refine go ?_
  refine HLK.out.mono ?_
  rintro e w1 ⟨rfl, F1, r1, v1⟩
  have c1 : Chg (fun k => k ∈ F ++ jbl j v) w w1 := v1.chg
  have hb1 : RB w1 (.slice p r.length c) r := RC.chg HH.out.2.2.1 c1 HH.out.2.2.2.1
  have G1 := Lib.hid (HH.out.2.1.chgF c1 HH.out.2.2.2.2)
  have R1 := Lib.hid (And.intro r1 v1)
  have HPL := Lib.hid (payload_any HN.out.2.1 hb1 (by have := HN.out.2.2.2.1; omega))
  clear r1 v1 c1 hb1 g2 g4
  go_wp2_with (first | (go_at_call 35; refine stop ?_))
  refine go ?_
  refine HPL.out.mono ?_
  rintro e w2 ⟨v2, rfl, o2, c2, n2⟩
  obtain ⟨p2, cc2, rfl, -⟩ := id o2
  have G2 := Lib.hid (G1.out.chg c2)
  have hwr := wrap_any G2.out (OB.rb o2) (by rw [payload_len]; have := HN.out.2.2.2.1; omega)
  have HWR := Lib.hid hwr
  have C2 := Lib.hid c2
  clear o2 c2 n2 hwr
  go_wp2_with (first | (go_at_call 22; refine stop ?_))
  refine go ?_
  refine HWR.out.mono ?_
  rintro e w3 ⟨v3, rfl, o3, c3, n3⟩
  obtain ⟨p3, cc3, rfl, -⟩ := id o3
  have hc13 : Chg (fun _ => False) w1 w3 := C2.out.trans c3 fun _ h => h.elim
  have r3 := R1.out.1.quiet hc13
  have g0 := hcell_of (r3.jrn).head 0
  have g1 := hcell_of (r3.jrn).head 1
  have g2 := hcell_of (r3.jrn).head 2
  have g3 := hcell_of (r3.jrn).head 3
  have g4 := hcell_of (r3.jrn).head 4
  simp only [List.getElem?_toArray, List.getElem?_cons_zero, List.getElem?_cons_succ] at g0 g1 g2 g3 g4
  have hD := append_any HN.out.1 (w := w3.drew) (bs := jwrap (jpay H.es.length r)) (bv := .slice p3 (jwrap (jpay H.es.length r)).length cc3) (r3.disk.keep fun _ _ => rfl) (RC.chg (OB.rb o3) ((Chg.refl (fun _ => False) w3).drew) fun _ _ h => h) (fun k hk hkF => by
    have h1 := n3 k hk
    have h2 := R1.out.1.disk.lt k hkF
    have h3 := C2.out.size
    omega)
  rw [HA.out] at hD
  have HD := Lib.hid hD
  have R3 := Lib.hid (And.intro r3 (And.intro hc13 o3))
  have hfl : (jwrap (jpay H.es.length r)).length = r.length + 16 := by rw [wrap_len, payload_len]
  clear o3 c3 n3 hc13 r3 hD g2 g3 g4
  obtain ⟨fl, hfl2⟩ : ∃ fl, fl = (jwrap (jpay H.es.length r)).length := ⟨_, rfl⟩
  rw [← hfl2] at HD R3 ⊢
  rw [← hfl2] at hfl
  have HFL := Lib.hid hfl
  clear hfl hfl2
  go_wp2
  refine Rx.ws_region (fun _ => True) [(0, .r), (1, .r), (2, .r), (3, .r), (4, .r), (5, .r), (6, .r), (7, .r), (8, .r), (9, .e), (10, .r), (11, .r), (12, .r), (13, .r), (14, .r)] (by kernel_rfl) (by kernel_rfl) trivial (fun _ _ x _ _ h => (by cases x <;> exact h)) ?_
  iterate 9 (refine Rx.ws_q rfl rfl ?_; go_wp2; refine Rx.atS_mk ?_)
  refine Rx.ws_e rfl ?_
  go_wp2_with (first | (go_at_call 24; refine stop ?_))
  refine go ?_
  refine HD.out.mono ?_
  rintro e w4 ⟨rfl, hl4⟩
  go_wp2
  refine ⟨trivial, ?_⟩
  iterate 5 (refine Rx.ws_q rfl rfl ?_; go_wp2; refine Rx.atS_mk ?_)
  refine Rx.ws_nil ?_
  have hl4' : Left w3 d F1 D1 w4 := by
    obtain ⟨F', h1, h2⟩ := hl4
    exact ⟨F', h1, ⟨((Chg.refl (· ∈ F1) w3).drew).trans h2.chg fun k hk => .inl hk, h2.new⟩⟩
  obtain ⟨F4, r4, v4⟩ := R3.out.1.left hl4'
  have R4 := Lib.hid (And.intro r4 v4)
  have r5 : HRaw w4.drew d j { H with D := D1 } F4 v := r4.quiet ((Chg.refl _ _).drew)
  have R5 := Lib.hid r5
  obtain ⟨pv5, cv5, hpv5, -⟩ := id r5.jrn.oc
  have g0 := hcell_of (r5.jrn).head 0
  have g1 := hcell_of (r5.jrn).head 1
  have g2 := hcell_of (r5.jrn).head 2
  have g3 := hcell_of (r5.jrn).head 3
  have g4 := hcell_of (r5.jrn).head 4
  simp only [List.getElem?_toArray, List.getElem?_cons_zero, List.getElem?_cons_succ] at g0 g1 g2 g3 g4
  subst hpv5
  have HSZ := Lib.hid (jsize_any r5.jrn (by have := HN.out.2.1; show H.es.length ≤ _; omega))
  rw [show ({ H with D := D1 } : Hs).es = H.es from rfl] at HSZ
  obtain ⟨Z, hZ⟩ : ∃ Z, Z = endN H.es H.es.length := ⟨_, rfl⟩
  rw [← hZ] at HSZ
  have iZ : (Z : Int) ≤ 1099511627776 := by have := HN.out.2.2.2.2; omega
  have HZ := Lib.hid hZ
  have iZ0 : (0 : Int) ≤ (Z : Int) := by omega
  have ifl : (fl : Int) ≤ 131084 := by have := HFL.out; omega
  have ifl0 : (0 : Int) ≤ (fl : Int) := by omega
  have g2' : w4.drew.cell? ⟨j, 2, none⟩ = some (.slice pv5 H.es.length cv5) := g2
  clear hl4 hl4' r4 v4 r5 g0 g1 g2 g3 g4 hZ
  go_wp2
  refine Rx.wt_region (fun W => W.cell? ⟨j, 2, none⟩ = some (.slice pv5 H.es.length cv5)) 14 [(5, .r), (0, .h), (1, .h), (2, .h), (3, .h), (7, .h), (4, .h), (8, .h), (6, .e), (9, .r), (10, .e), (11, .e), (12, .r), (13, .r), (14, .e)] (by kernel_rfl) (by kernel_rfl) (by kernel_rfl) g2' (fun _ _ x _ _ h => (by cases x <;> exact h)) ?_
  (refine Rx.wt_q rfl rfl ?_; go_wp2; refine Rx.atS_mk ?_)
  iterate 7 (refine Rx.wt_h (v := ?_) rfl rfl ?_ ?_; rotate_left; (intro w' hS'; go_simp; try with_reducible rfl))
  refine Rx.wt_e rfl ?_
  go_wp2_with (first | (go_at_call 32; refine stop ?_))
  refine go ?_
  refine HSZ.out.mono ?_
  rintro e w' ⟨rfl, rfl⟩
  go_wp2
  refine ⟨fun _ => g2', ?_⟩
  (refine Rx.wt_q rfl rfl ?_; go_wp2; refine Rx.atS_mk ?_)
  refine Rx.wt_e rfl ?_
  go_wp2
  rw [show (Z : Int) + (fl : Int) = ((Z + fl : Nat) : Int) by omega]
  have hca : Chg (fun _ => False) w4 (w4.alloc (.cells #[.int .i64 ((Z + fl : Nat) : Int)] 3)).drew := ((Chg.refl _ w4).alloc _).drew
  have r6 := R4.out.1.quiet hca
  have g0 := hcell_of (r6.jrn).head 0
  have g1 := hcell_of (r6.jrn).head 1
  have g2 := hcell_of (r6.jrn).head 2
  have g3 := hcell_of (r6.jrn).head 3
  have g4 := hcell_of (r6.jrn).head 4
  simp only [List.getElem?_toArray, List.getElem?_cons_zero, List.getElem?_cons_succ] at g0 g1 g2 g3 g4
  refine ⟨fun _ => g2, ?_⟩
  have R6 := Lib.hid r6
  have HCA := Lib.hid hca
  have hnew : RC (w4.alloc (.cells #[.int .i64 ((Z + fl : Nat) : Int)] 3)).drew 1 (.slice (some ⟨w4.heap.size, 0, none⟩) 1 1) [intV (Z + fl)].length [intV (Z + fl)] := RC.chg (OC_new w4 1 3 #[.int .i64 ((Z + fl : Nat) : Int)] 1 1 (by decide) (by unfold maxLen; decide) rfl).rc ((Chg.refl (fun _ => False) _).drew) fun _ _ h => h
  generalize (w4.alloc (.cells #[.int .i64 ((Z + fl : Nat) : Int)] 3)).drew = wa at R6 HCA hnew g0 g1 g2 g3 g4 r6 hca ⊢
  have HNW := Lib.hid hnew
  clear r6 hca hnew g0 g1 g3 g4
  refine Rx.wt_e rfl ?_
  refine wpList_append_ints rfl _ _ rfl (v := .slice pv5 H.es.length cv5) (l := H.es.map intV) (m := [intV (Z + fl)]) rfl rfl (by rw [List.length_map]; exact R6.out.jrn.oc) HNW.out (by simp [intV, Value.oneCell']) (by have := HN.out.2.1; simp; omega) ?_
  intro pv6 lv6 cv6 w6 a1 a2 a3 a4
  have hoc : OC w6 1 3 (.slice pv6 lv6 cv6) (H.es ++ [Z + fl]).length ((H.es ++ [Z + fl]).map intV) := by
    rw [List.map_append, List.length_append]
    rw [List.length_append, List.length_map] at a1
    exact a1
  have hgr := R4.out.1.grow HCA.out hoc a3 a4
  have hh6 : w6.heap[j]? = _ := (a3.block j (R6.out.jrn.lt j (mem_jbl.2 (.inl rfl))) R6.out.jrn.ne).trans R6.out.jrn.head
  have k2 := hcell_of hh6 2
  have z2 := hfree_of hh6 2
  simp only [List.getElem?_toArray, List.getElem?_cons_zero, List.getElem?_cons_succ] at k2
  have HGR := Lib.hid hgr
  clear a1 a2 a3 a4 hoc hgr hh6 g2 g2'
  go_wp2
  refine ⟨k2, ?_⟩
  iterate 2 (refine Rx.wt_q rfl rfl ?_; go_wp2; refine Rx.atS_mk ?_)
  refine Rx.wt_e rfl ?_
  go_wp2
  refine ⟨by simp, ?_⟩
  refine Rx.wt_nil ?_
  clear k2 z2
  go_wp2
  go_ret
  refine ⟨rfl, F4 ++ jbl j (.slice pv6 lv6 cv6), ⟨F4, .slice pv6 lv6 cv6, ?_, rfl⟩, ?_⟩
  · have := HGR.out.1
    rw [HZ.out, HFL.out] at this
    rw [← HZ.out]
    rw [HZ.out]
    exact this
  · exact ((R1.out.2.trans ⟨R3.out.2.1.mono fun k hk => hk.elim, fun k hk => .inl hk⟩).trans R4.out.2).trans HGR.out.2
set_option maxHeartbeats 16000000 in
theorem japp_full {D1 D2 : Dk} {n : Nat} (hg : Gl w) (h : HRaw w d j H F v) (her : H.er = .nilIface) (hs : H.nm.size ≤ maxLen) (hes : H.es.length ≤ 2147483647) (hdu : H.du ≤ H.es.length) (hlk : lookE H.D H.nm H.es H.du = 0)
    (hb : RB w (.slice p r.length c) r) (hap : ∀ k, sblk (.slice p r.length c) = some k → k ∉ F ++ jbl j v) (hF2 : ∀ k ∈ F ++ jbl j v, 1 < k) (hl : r.length ≤ 131068) (hz : endN H.es H.es.length ≤ 1099511627776) (ha : H.D.append H.nm (jwrap (jpay H.es.length r)) = ((n, 111), D1))
    (hn : n ≤ 1099511627776) (hc0 : n = 0 → D2 = D1) (hc1 : 0 < n → D1.cut H.nm (endN H.es H.es.length : Int) = (0, D2)) :
    Calls Tryd.prog 9 #[.pointer (some ⟨j, 0, none⟩), .slice p r.length c] w fun e w' => ∃ b, e = .returned (faultV b) ∧ w'.heap[b]? = some (faultO nApp (H.es.length : Int) 111) ∧
      HLeft w d j (F ++ jbl j v) ⟨D2, H.nm, H.es, H.du, H.er⟩ w' := by
  have HC0 := Lib.hid (And.intro hc0 (And.intro hc1 hn))
  clear hc0 hc1 hn
  have HLK := look_any h hs (by omega) hdu
  rw [hlk, show givenV 0 = .nilIface from rfl] at HLK
  have HLK := Lib.hid HLK
  have HH := Lib.hid (And.intro h (And.intro hg (And.intro hb (And.intro hap hF2))))
  have HN := Lib.hid (And.intro hs (And.intro hes (And.intro hdu (And.intro hl hz))))
  have HA := Lib.hid ha
  have g0 := hcell_of (h.jrn).head 0
  have g1 := hcell_of (h.jrn).head 1
  have g2 := hcell_of (h.jrn).head 2
  have g3 := hcell_of (h.jrn).head 3
  have g4 := hcell_of (h.jrn).head 4
  simp only [List.getElem?_toArray, List.getElem?_cons_zero, List.getElem?_cons_succ] at g0 g1 g2 g3 g4
  rw [her] at g4
  obtain ⟨pv, cv, hpv, -⟩ := id h.jrn.oc
  rw [hpv] at g2
  have irl : (r.length : Int) ≤ 131068 := by omega
  have iel : (H.es.length : Int) ≤ 2147483647 := by omega
  clear h her hs hes hdu hlk hb hap hF2 hl hz ha hg g0 g1 g3 hpv
  go_enter Tryd.func9, Tryd.ntmps9
  go_wp2_with (first | (go_at_call 33; refine stop ?_))
  refine go ?_
  refine HLK.out.mono ?_
  rintro e w1 ⟨rfl, F1, r1, v1⟩
  have c1 : Chg (fun k => k ∈ F ++ jbl j v) w w1 := v1.chg
  have hb1 : RB w1 (.slice p r.length c) r := RC.chg HH.out.2.2.1 c1 HH.out.2.2.2.1
  have G1 := Lib.hid (HH.out.2.1.chgF c1 HH.out.2.2.2.2)
  have R1 := Lib.hid (And.intro r1 v1)
  have HPL := Lib.hid (payload_any HN.out.2.1 hb1 (by have := HN.out.2.2.2.1; omega))
  clear r1 v1 c1 hb1 g2 g4
  go_wp2_with (first | (go_at_call 35; refine stop ?_))
  refine go ?_
  refine HPL.out.mono ?_
  rintro e w2 ⟨v2, rfl, o2, c2, n2⟩
  obtain ⟨p2, cc2, rfl, -⟩ := id o2
  have G2 := Lib.hid (G1.out.chg c2)
  have hwr := wrap_any G2.out (OB.rb o2) (by rw [payload_len]; have := HN.out.2.2.2.1; omega)
  have HWR := Lib.hid hwr
  have C2 := Lib.hid c2
  clear o2 c2 n2 hwr
  go_wp2_with (first | (go_at_call 22; refine stop ?_))
  refine go ?_
  refine HWR.out.mono ?_
  rintro e w3 ⟨v3, rfl, o3, c3, n3⟩
  obtain ⟨p3, cc3, rfl, -⟩ := id o3
  have hc13 : Chg (fun _ => False) w1 w3 := C2.out.trans c3 fun _ h => h.elim
  have r3 := R1.out.1.quiet hc13
  have g0 := hcell_of (r3.jrn).head 0
  have g1 := hcell_of (r3.jrn).head 1
  have g2 := hcell_of (r3.jrn).head 2
  have g3 := hcell_of (r3.jrn).head 3
  have g4 := hcell_of (r3.jrn).head 4
  simp only [List.getElem?_toArray, List.getElem?_cons_zero, List.getElem?_cons_succ] at g0 g1 g2 g3 g4
  have hD := append_any HN.out.1 (w := w3.drew) (bs := jwrap (jpay H.es.length r)) (bv := .slice p3 (jwrap (jpay H.es.length r)).length cc3) (r3.disk.keep fun _ _ => rfl) (RC.chg (OB.rb o3) ((Chg.refl (fun _ => False) w3).drew) fun _ _ h => h) (fun k hk hkF => by
    have h1 := n3 k hk
    have h2 := R1.out.1.disk.lt k hkF
    have h3 := C2.out.size
    omega)
  rw [HA.out] at hD
  have HD := Lib.hid hD
  have R3 := Lib.hid (And.intro r3 (And.intro hc13 o3))
  have hfl : (jwrap (jpay H.es.length r)).length = r.length + 16 := by rw [wrap_len, payload_len]
  clear o3 c3 n3 hc13 r3 hD g2 g3 g4
  obtain ⟨fl, hfl2⟩ : ∃ fl, fl = (jwrap (jpay H.es.length r)).length := ⟨_, rfl⟩
  rw [← hfl2] at HD R3 ⊢
  rw [← hfl2] at hfl
  have HFL := Lib.hid hfl
  clear hfl hfl2
  go_wp2
  refine Rx.ws_region (fun _ => True) [(0, .r), (1, .r), (2, .r), (3, .r), (4, .r), (5, .r), (6, .r), (7, .r), (8, .r), (9, .e), (10, .r), (11, .r), (12, .r), (13, .r), (14, .r)] (by kernel_rfl) (by kernel_rfl) trivial (fun _ _ x _ _ h => (by cases x <;> exact h)) ?_
  iterate 9 (refine Rx.ws_q rfl rfl ?_; go_wp2; refine Rx.atS_mk ?_)
  refine Rx.ws_e rfl ?_
  go_wp2_with (first | (go_at_call 24; refine stop ?_))
  refine go ?_
  refine HD.out.mono ?_
  rintro e w4 ⟨rfl, hl4⟩
  go_wp2
  refine ⟨trivial, ?_⟩
  iterate 5 (refine Rx.ws_q rfl rfl ?_; go_wp2; refine Rx.atS_mk ?_)
  refine Rx.ws_nil ?_
  have hl4' : Left w3 d F1 D1 w4 := by
    obtain ⟨F', h1, h2⟩ := hl4
    exact ⟨F', h1, ⟨((Chg.refl (· ∈ F1) w3).drew).trans h2.chg fun k hk => .inl hk, h2.new⟩⟩
  obtain ⟨F4, r4, v4⟩ := R3.out.1.left hl4'
  have R4 := Lib.hid (And.intro r4 v4)
  have G3 := G1.out.chg R3.out.2.1
  have hF4 : ∀ k ∈ F1 ++ jbl j v, 1 < k := fun k hk => (R1.out.2.new k hk).elim (HH.out.2.2.2.2 k) fun h => by have := HH.out.2.1.lt; omega
  have G4 := Lib.hid (G3.chgF R4.out.2.chg hF4)
  have hF5 : ∀ k ∈ F4 ++ jbl j v, 1 < k := fun k hk => (R4.out.2.new k hk).elim (hF4 k) fun h => by have := G3.lt; omega
  have HF5 := Lib.hid hF5
  have HEV := Lib.hid ((R1.out.2.trans (⟨R3.out.2.1.mono fun k hk => hk.elim, fun k hk => .inl hk⟩ : Ev (F1 ++ jbl j v) (F1 ++ jbl j v) w1 w3)).trans R4.out.2)
  clear hl4 hl4' r4 v4 g0 g1 G3 hF4 hF5
  by_cases hn0 : n = 0
  · subst hn0
    have hfa := fault_any G4.out nApp (H.es.length : Int) 111
    unfold errV at hfa
    rw [show ((111 : Nat) : Int) = 111 from rfl] at hfa
    have HFA := Lib.hid hfa
    clear hfa
    go_wp2_with (first | (go_at_call 26; refine stop ?_))
    refine go ?_
    refine HFA.out.mono ?_
    rintro e w6 ⟨b, rfl, -, hb6, c6⟩
    have HB6 := Lib.hid (And.intro hb6 c6)
    clear hb6 c6
    go_wp2
    go_ret
    refine ⟨b, rfl, HB6.out.1, F4 ++ jbl j v, ⟨F4, v, ?_, rfl⟩, ⟨HEV.out.chg.trans HB6.out.2 fun _ h => h.elim, HEV.out.new⟩⟩
    have := R4.out.1.quiet HB6.out.2
    rw [HC0.out.1 trivial]
    exact this
  · have hn1 : decide ((0 : Int) < (n : Int)) = true := decide_eq_true (by omega)
    have inn : (n : Int) ≤ 1099511627776 := by have := HC0.out.2.2; omega
    have r5 : HRaw w4.drew d j { H with D := D1 } F4 v := R4.out.1.quiet ((Chg.refl _ _).drew)
    have R5 := Lib.hid r5
    have hcut := cut_any (endN H.es H.es.length : Int) HN.out.1 r5.disk
    have HC1 := HC0.out.2.1 (by omega)
    rw [show ({ H with D := D1 } : Hs).D = D1 from rfl, HC1] at hcut
    have HCUT := Lib.hid hcut
    have HSZ := Lib.hid (jsize_any r5.jrn (by have := HN.out.2.1; show H.es.length ≤ _; omega))
    rw [show ({ H with D := D1 } : Hs).es = H.es from rfl] at HSZ
    have g0 := hcell_of (r5.jrn).head 0
    have g1 := hcell_of (r5.jrn).head 1
    have g2 := hcell_of (r5.jrn).head 2
    have g3 := hcell_of (r5.jrn).head 3
    have g4 := hcell_of (r5.jrn).head 4
    simp only [List.getElem?_toArray, List.getElem?_cons_zero, List.getElem?_cons_succ] at g0 g1 g2 g3 g4
    clear hcut r5 HC1 g2 g3 g4
    go_wp2
    refine Rx.ws_region (fun W => W.cell? ⟨j, 0, none⟩ = some (.pointer (some ⟨d, 0, none⟩)) ∧ W.cell? ⟨j, 1, none⟩ = some (.string H.nm)) [(8, .r), (0, .h), (1, .h), (2, .h), (4, .h), (5, .h), (6, .h), (3, .h), (7, .h), (9, .e), (10, .e), (11, .e), (12, .r)] (by kernel_rfl) (by kernel_rfl) ⟨g0, g1⟩ (fun _ _ x _ _ h => (by cases x <;> exact h)) ?_
    (refine Rx.ws_q rfl rfl ?_; go_wp2; refine Rx.atS_mk ?_)
    iterate 8 (refine Rx.ws_h (v := ?_) rfl rfl ?_ ?_; rotate_left; (intro w' hS'; go_simp; try with_reducible rfl))
    refine Rx.ws_e rfl ?_
    go_wp2_with (first | (go_at_call 32; refine stop ?_))
    refine go ?_
    refine HSZ.out.mono ?_
    rintro e w' ⟨rfl, rfl⟩
    go_wp2
    refine ⟨⟨g0, g1⟩, ?_⟩
    refine Rx.ws_e rfl ?_
    go_wp2_with (first | (go_at_call 30; refine stop ?_))
    refine go ?_
    refine HCUT.out.mono ?_
    rintro e w5 ⟨rfl, hl5⟩
    obtain ⟨F5, r5, v5⟩ := R5.out.left hl5
    have g0 := hcell_of (r5.jrn).head 0
    have g1 := hcell_of (r5.jrn).head 1
    have g2 := hcell_of (r5.jrn).head 2
    have g3 := hcell_of (r5.jrn).head 3
    have g4 := hcell_of (r5.jrn).head 4
    simp only [List.getElem?_toArray, List.getElem?_cons_zero, List.getElem?_cons_succ] at g0 g1 g2 g3 g4
    have R6 := Lib.hid (And.intro r5 v5)
    have G5 := Lib.hid (G4.out.chgF (((Chg.refl (· ∈ F4 ++ jbl j v) w4).drew).trans v5.chg fun k hk => .inl hk) HF5.out)
    clear hl5 r5 v5 g2 g3 g4
    go_wp2
    refine ⟨⟨g0, g1⟩, ?_⟩
    refine Rx.ws_e rfl ?_
    go_wp2_with (first | (go_at_call 36; refine (given_any 0).mono ?_; rintro e w' ⟨rfl, rfl⟩))
    refine ⟨⟨g0, g1⟩, ?_⟩
    (refine Rx.ws_q rfl rfl ?_; go_wp2; refine Rx.atS_mk ?_)
    refine Rx.ws_nil ?_
    have hfa := fault_any G5.out nApp (H.es.length : Int) 111
    unfold errV at hfa
    rw [show ((111 : Nat) : Int) = 111 from rfl] at hfa
    have HFA := Lib.hid hfa
    clear hfa g0 g1
    rw [show givenV 0 = .nilIface from rfl]
    go_wp2_with (first | (go_at_call 26; refine stop ?_))
    refine go ?_
    refine HFA.out.mono ?_
    rintro e w6 ⟨b, rfl, -, hb6, c6⟩
    have HB6 := Lib.hid (And.intro hb6 c6)
    clear hb6 c6
    go_wp2
    go_ret
    have e5 : Ev (F4 ++ jbl j v) (F5 ++ jbl j v) w4 w5 := ⟨((Chg.refl (· ∈ F4 ++ jbl j v) w4).drew).trans R6.out.2.chg fun k hk => .inl hk, R6.out.2.new⟩
    refine ⟨b, rfl, HB6.out.1, F5 ++ jbl j v, ⟨F5, v, R6.out.1.quiet HB6.out.2, rfl⟩, ?_⟩
    have e6 := HEV.out.trans e5
    exact ⟨e6.chg.trans HB6.out.2 fun _ h => h.elim, e6.new⟩
end
end Go.Proofs
