/- journal.Append and journal.Sync that the disk refuses: the journal is closed. Conditions: it lies as the pieces say, no error has closed it, nobody else has changed its file. -/
import Derived.Test.YtaiaghfckhgnnaaGreatDoorJ6
namespace Go.Proofs
open Go.RowKit Go.Hp Go.Dm Go.Dr Go.Jn
set_option linter.unusedVariables false
set_option maxRecDepth 10000
section
variable {W w0 : World} {L : List Ent} {d j : Nat} {H : Hs} {G : List Nat} {r : List UInt8} {p : Option Addr} {c : Nat}
set_option maxHeartbeats 16000000 in
theorem japp_fail {D1 : Dk} {n code : Nat} (hg0 : Gl W) (hm : Many W w0 (Ent.house d j H G :: L)) (her : H.er = .nilIface) (hs : H.nm.size ≤ maxLen) (hes : H.es.length ≤ 2147483647) (hdu : H.du ≤ H.es.length) (hlk : lookE H.D H.nm H.es H.du = 0)
    (hb : RB w0 (.slice p r.length c) r) (hap0 : ∀ k, sblk (.slice p r.length c) = some k → k ∉ G) (hl : r.length ≤ 131068) (hz : endN H.es H.es.length ≤ 1099511627776) (ha : H.D.append H.nm (jwrap (jpay H.es.length r)) = ((n, code), D1)) (hc0 : code ≠ 0) (hc1 : code ≠ 111) :
    Calls Tryz.prog 19 #[.pointer (some ⟨j, 0, none⟩), .slice p r.length c] w0 fun ev w' => ∃ b G', ev = .returned (faultV b) ∧ Many W w' (Ent.box b (faultO nApp (H.es.length : Int) code) :: Ent.house d j { H with D := D1, er := faultV b } G' :: L) := by
  obtain ⟨w, hw⟩ : ∃ w, w = w0 := ⟨_, rfl⟩
  subst hw
  obtain ⟨F, v, h, hG⟩ := hm.first
  have hF2 : ∀ k ∈ F ++ jbl j v, 1 < k := fun k hk => by
    have h1 := hm.new (Ent.house d j H G) (by simp) k (by rw [hG]; exact hk)
    have := hg0.lt
    omega
  have hap : ∀ k, sblk (.slice p r.length c) = some k → k ∉ F ++ jbl j v := fun k hk => by rw [← hG]; exact hap0 k hk
  have hg : Gl w := hg0.chg hm.chg
  have HMM := Lib.hid (And.intro hg0 (And.intro hm hG))
  have b111 : ((code : Int) == 111) = false := by rw [beq_eq_false_iff_ne]; omega
  have b0 : ((code : Int) == 0) = false := by rw [beq_eq_false_iff_ne]; omega
  clear hg0 hm hG hap0 hc0 hc1
  have HLK := look_any h hs (by omega) hdu
  rw [hlk, show givenV 0 = .nilIface from rfl] at HLK
  have HLK := Lib.hid HLK
  have HH := Lib.hid (And.intro h (And.intro hg (And.intro hb (And.intro hap hF2))))
  have HN := Lib.hid (And.intro hs (And.intro hes (And.intro hdu (And.intro hl hz))))
  have HA := Lib.hid ha
  have g0 := hcell_of (h.jrn).head 0
  have g1 := hcell_of (h.jrn).head 1
  have g2 := hcell_of (h.jrn).head 2
  have g3 := hcell_of (h.jrn).head 3
  have g4 := hcell_of (h.jrn).head 4
  simp only [List.getElem?_toArray, List.getElem?_cons_zero, List.getElem?_cons_succ] at g0 g1 g2 g3 g4
  rw [her] at g4
  obtain ⟨pv, cv, hpv, -⟩ := id h.jrn.oc
  rw [hpv] at g2
  have irl : (r.length : Int) ≤ 131068 := by omega
  have iel : (H.es.length : Int) ≤ 2147483647 := by omega
  clear h her hs hes hdu hlk hb hap hF2 hl hz ha hg g0 g1 g3 hpv
  go_enter Tryz.func19, Tryz.ntmps19
  go_wp2_with (first | (go_at_call 55; refine stop ?_))
  refine go ?_
  refine HLK.out.mono ?_
  rintro e w1 ⟨rfl, F1, r1, v1⟩
  have c1 : Chg (fun k => k ∈ F ++ jbl j v) w w1 := v1.chg
  have hb1 : RB w1 (.slice p r.length c) r := RC.chg HH.out.2.2.1 c1 HH.out.2.2.2.1
  have G1 := Lib.hid (HH.out.2.1.chgF c1 HH.out.2.2.2.2)
  have R1 := Lib.hid (And.intro r1 v1)
  have HPL := Lib.hid (payload_any HN.out.2.1 hb1 (by have := HN.out.2.2.2.1; omega))
  clear r1 v1 c1 hb1 g2 g4
  go_wp2_with (first | (go_at_call 57; refine stop ?_))
  refine go ?_
  refine HPL.out.mono ?_
  rintro e w2 ⟨v2, rfl, o2, c2, n2⟩
  obtain ⟨p2, cc2, rfl, -⟩ := id o2
  have G2 := Lib.hid (G1.out.chg c2)
  have hwr := wrap_any G2.out (OB.rb o2) (by rw [payload_len]; have := HN.out.2.2.2.1; omega)
  have HWR := Lib.hid hwr
  have C2 := Lib.hid c2
  clear o2 c2 n2 hwr
  go_wp2_with (first | (go_at_call 14; refine stop ?_))
  refine go ?_
  refine HWR.out.mono ?_
  rintro e w3 ⟨v3, rfl, o3, c3, n3⟩
  obtain ⟨p3, cc3, rfl, -⟩ := id o3
  have hc13 : Chg (fun _ => False) w1 w3 := C2.out.trans c3 fun _ h => h.elim
  have r3 := R1.out.1.quiet hc13
  have g0 := hcell_of (r3.jrn).head 0
  have g1 := hcell_of (r3.jrn).head 1
  have g2 := hcell_of (r3.jrn).head 2
  have g3 := hcell_of (r3.jrn).head 3
  have g4 := hcell_of (r3.jrn).head 4
  simp only [List.getElem?_toArray, List.getElem?_cons_zero, List.getElem?_cons_succ] at g0 g1 g2 g3 g4
  have hD := append_any HN.out.1 (w := w3.drew) (bs := jwrap (jpay H.es.length r)) (bv := .slice p3 (jwrap (jpay H.es.length r)).length cc3) (r3.disk.keep fun _ _ => rfl) (RC.chg (OB.rb o3) ((Chg.refl (fun _ => False) w3).drew) fun _ _ h => h) (fun k hk hkF => by
    have h1 := n3 k hk
    have h2 := R1.out.1.disk.lt k hkF
    have h3 := C2.out.size
    omega)
  rw [HA.out] at hD
  have HD := Lib.hid hD
  have R3 := Lib.hid (And.intro r3 (And.intro hc13 o3))
  have hfl : (jwrap (jpay H.es.length r)).length = r.length + 16 := by rw [wrap_len, payload_len]
  clear o3 c3 n3 hc13 r3 hD g2 g3 g4
  obtain ⟨fl, hfl2⟩ : ∃ fl, fl = (jwrap (jpay H.es.length r)).length := ⟨_, rfl⟩
  rw [← hfl2] at HD R3 ⊢
  rw [← hfl2] at hfl
  have HFL := Lib.hid hfl
  clear hfl hfl2
  go_wp2
  refine Rx.ws_region (fun _ => True) [(0, .r), (1, .r), (2, .r), (3, .r), (4, .r), (5, .r), (6, .r), (7, .r), (8, .r), (9, .e), (10, .r), (11, .r), (12, .r), (13, .r), (14, .r)] (by kernel_rfl) (by kernel_rfl) trivial (fun _ _ x _ _ h => (by cases x <;> exact h)) ?_
  iterate 9 (refine Rx.ws_q rfl rfl ?_; go_wp2; refine Rx.atS_mk ?_)
  refine Rx.ws_e rfl ?_
  go_wp2_with (first | (go_at_call 58; refine stop ?_))
  refine go ?_
  refine HD.out.mono ?_
  rintro e w4 ⟨rfl, hl4⟩
  go_wp2
  refine ⟨trivial, ?_⟩
  iterate 5 (refine Rx.ws_q rfl rfl ?_; go_wp2; refine Rx.atS_mk ?_)
  refine Rx.ws_nil ?_
  have hl4' : Left w3 d F1 D1 w4 := by
    obtain ⟨F', h1, h2⟩ := hl4
    exact ⟨F', h1, ⟨((Chg.refl (· ∈ F1) w3).drew).trans h2.chg fun k hk => .inl hk, h2.new⟩⟩
  obtain ⟨F4, r4, v4⟩ := R3.out.1.left hl4'
  have R4 := Lib.hid (And.intro r4 v4)
  have hev : Ev (F ++ jbl j v) (F4 ++ jbl j v) w w4 := (R1.out.2.trans (⟨R3.out.2.1.mono fun k hk => hk.elim, fun k hk => .inl hk⟩ : Ev (F1 ++ jbl j v) (F1 ++ jbl j v) w1 w3)).trans R4.out.2
  have m4 := HMM.out.2.1.turn (y := Ent.house d j { H with D := D1 } (F4 ++ jbl j v)) ⟨F4, v, r4, rfl⟩ (good_house _ _ _ _) (by rw [HMM.out.2.2]; exact hev)
  have hsh := shut_many HMM.out.1 m4 nApp (H.es.length : Int) code
  unfold errV at hsh
  have HSH := Lib.hid hsh
  clear hl4 hl4' r4 v4 hev m4 hsh g0 g1
  go_wp2_with (first | (go_at_call 56; refine stop ?_))
  refine go ?_
  refine HSH.out.mono ?_
  rintro ev w5 ⟨b, rfl, m5⟩
  have M5 := Lib.hid m5
  clear m5
  go_wp2
  go_ret
  exact ⟨b, _, rfl, M5.out⟩
set_option maxHeartbeats 16000000 in
theorem jsync_fail {D1 : Dk} {code : Nat} (hg : Gl W) (hm : Many W w0 (Ent.house d j H G :: L)) (her : H.er = .nilIface) (hs : H.nm.size ≤ maxLen) (hes : H.es.length ≤ 2147483647) (hdu : H.du ≤ H.es.length) (hlk : lookE H.D H.nm H.es H.du = 0)
    (hne : H.du ≠ H.es.length) (hsy : H.D.sync H.nm = (code, D1)) (hc0 : code ≠ 0) :
    Calls Tryz.prog 23 #[.pointer (some ⟨j, 0, none⟩)] w0 fun ev w' => ∃ b G', ev = .returned (faultV b) ∧ Many W w' (Ent.box b (faultO nSync (H.du : Int) code) :: Ent.house d j { H with D := D1, er := faultV b } G' :: L) := by
  obtain ⟨w, hw⟩ : ∃ w, w = w0 := ⟨_, rfl⟩
  subst hw
  obtain ⟨F, v, h, hG⟩ := hm.first
  have HLK := look_any h hs (by omega) hdu
  rw [hlk, show givenV 0 = .nilIface from rfl] at HLK
  have HLK := Lib.hid HLK
  have HN := Lib.hid (And.intro hs (And.intro hes (And.intro hne hsy)))
  have HMM := Lib.hid (And.intro hg (And.intro hm hG))
  have HC0 := Lib.hid hc0
  have g0 := hcell_of (h.jrn).head 0
  have g1 := hcell_of (h.jrn).head 1
  have g2 := hcell_of (h.jrn).head 2
  have g3 := hcell_of (h.jrn).head 3
  have g4 := hcell_of (h.jrn).head 4
  simp only [List.getElem?_toArray, List.getElem?_cons_zero, List.getElem?_cons_succ] at g0 g1 g2 g3 g4
  rw [her] at g4
  clear h her hs hes hdu hlk hne hsy hg hm hG hc0 g0 g1 g2 g3
  go_enter Tryz.func23, Tryz.ntmps23
  go_wp2_with (first | (go_at_call 55; refine stop ?_))
  refine go ?_
  refine HLK.out.mono ?_
  rintro e w1 ⟨rfl, F1, r1, v1⟩
  have R1 := Lib.hid (And.intro r1 v1)
  obtain ⟨pv, cv, hpv, -⟩ := id r1.jrn.oc
  have g0 := hcell_of (r1.jrn).head 0
  have g1 := hcell_of (r1.jrn).head 1
  have g2 := hcell_of (r1.jrn).head 2
  have g3 := hcell_of (r1.jrn).head 3
  have g4 := hcell_of (r1.jrn).head 4
  simp only [List.getElem?_toArray, List.getElem?_cons_zero, List.getElem?_cons_succ] at g0 g1 g2 g3 g4
  subst hpv
  clear r1 v1 g4
  obtain ⟨n, hn⟩ : ∃ n, n = H.es.length := ⟨_, rfl⟩
  obtain ⟨u, hu⟩ : ∃ u, u = H.du := ⟨_, rfl⟩
  have HNU := Lib.hid (And.intro hn hu)
  rw [← hn] at g2
  rw [← hu] at g3
  have hun : u ≠ n := by rw [hu, hn]; exact HN.out.2.2.1
  clear hn hu
  have b1 : (u == n) = false := beq_eq_false_iff_ne.2 hun
  have b2 : ¬ ((u : Int) = (n : Int)) := by omega
  have HUN := Lib.hid hun
  have r2 : HRaw w1.drew.drew d j H F1 _ := R1.out.1.quiet (((Chg.refl (fun _ => False) w1).drew).drew)
  have hsy := sync_any HN.out.1 r2.disk
  rw [HN.out.2.2.2] at hsy
  have HSY := Lib.hid hsy
  have R2 := Lib.hid r2
  clear hsy r2
  go_wp2
  refine Rx.ws_region (fun _ => True) [(0, .r), (1, .r), (2, .r), (3, .r), (4, .r), (5, .r), (6, .r), (7, .r), (8, .r), (9, .r)] (by kernel_rfl) (by kernel_rfl) trivial (fun _ _ x _ _ h => (by cases x <;> exact h)) ?_
  iterate 10 (refine Rx.ws_q rfl rfl ?_; go_wp2; refine Rx.atS_mk ?_)
  refine Rx.ws_nil ?_
  clear g2 g3
  go_wp2
  refine Rx.ws_region (fun _ => True) [(0, .r), (1, .r), (2, .r), (3, .r), (4, .r), (5, .r), (6, .r), (7, .r), (8, .e), (9, .e), (10, .r)] (by kernel_rfl) (by kernel_rfl) trivial (fun _ _ x _ _ h => (by cases x <;> exact h)) ?_
  iterate 8 (refine Rx.ws_q rfl rfl ?_; go_wp2; refine Rx.atS_mk ?_)
  refine Rx.ws_e rfl ?_
  go_wp2_with (first | (go_at_call 50; refine stop ?_))
  refine go ?_
  refine HSY.out.mono ?_
  rintro e w3 ⟨rfl, hl3⟩
  obtain ⟨F3, r3, v3⟩ := R2.out.left hl3
  have R3 := Lib.hid (And.intro r3 v3)
  clear hl3 r3 v3
  go_wp2
  refine ⟨trivial, ?_⟩
  refine Rx.ws_e rfl ?_
  go_wp2_with (first | (go_at_call 59; refine (given_any code).mono ?_; rintro e w' ⟨rfl, rfl⟩))
  refine ⟨trivial, ?_⟩
  (refine Rx.ws_q rfl rfl ?_; go_wp2; refine Rx.atS_mk ?_)
  refine Rx.ws_nil ?_
  rw [show givenV code = errV code from by unfold givenV; rw [if_neg HC0.out]]
  clear g0 g1
  have g0 := hcell_of (R3.out.1.jrn).head 0
  have g1 := hcell_of (R3.out.1.jrn).head 1
  have g2 := hcell_of (R3.out.1.jrn).head 2
  have g3 := hcell_of (R3.out.1.jrn).head 3
  have g4 := hcell_of (R3.out.1.jrn).head 4
  simp only [List.getElem?_toArray, List.getElem?_cons_zero, List.getElem?_cons_succ] at g0 g1 g2 g3 g4
  have g3 : w3.cell? ⟨j, 3, none⟩ = some (.int .i64 (H.du : Int)) := g3
  have hev : Ev (F ++ jbl j (.slice pv H.es.length cv)) (F3 ++ jbl j (.slice pv H.es.length cv)) w w3 := by
    have e2 : Ev (F1 ++ jbl j (.slice pv H.es.length cv)) (F1 ++ jbl j (.slice pv H.es.length cv)) w1 w1.drew.drew := ⟨((Chg.refl _ w1).drew).drew, fun k hk => .inl hk⟩
    exact (R1.out.2.trans e2).trans R3.out.2
  have m4 := HMM.out.2.1.turn (y := Ent.house d j { H with D := D1 } (F3 ++ jbl j (.slice pv H.es.length cv))) ⟨F3, .slice pv H.es.length cv, R3.out.1, rfl⟩ (good_house _ _ _ _) (by rw [HMM.out.2.2]; exact hev)
  have hsh := shut_many HMM.out.1 m4 nSync (H.du : Int) code
  unfold errV at hsh ⊢
  have HSH := Lib.hid hsh
  clear hev m4 hsh g0 g1 g2 g4
  go_wp2_with (first | (go_at_call 56; refine stop ?_))
  refine go ?_
  refine HSH.out.mono ?_
  rintro ev w5 ⟨b, rfl, m5⟩
  have M5 := Lib.hid m5
  clear m5
  go_wp2
  go_ret
  exact ⟨b, _, rfl, M5.out⟩
end
end Go.Proofs
