/- journal.Open of any file: what it finds, cuts, syncs, and how it is refused. Conditions: the disk lies as DRep says; the file has at most 2147483647 bytes; the listed variables lie as they were laid. -/
import Derived.Test.YtaiaghfckhgnnaaDoorJo
import Derived.Test.YtaiaghfckhgnnaaDoorJn
namespace Go.Proofs
open Go.RowKit Go.Hp Go.Dm Go.Dr Go.Jn
set_option linter.unusedVariables false
set_option linter.unusedSimpArgs false
set_option maxRecDepth 10000
def nOpen : ByteArray := ⟨#[79, 112, 101, 110]⟩
section
variable {W w : World} {d : Nat} {D : Dk} {F : List Nat} {L : List Ent} {nm : ByteArray}
set_option maxHeartbeats 64000000 in
theorem open_any (hg : Gl W) (hM : Many W w (Ent.disk d D F :: L)) (hs : nm.size ≤ maxLen) (hB : (bytesOf D.files nm).length ≤ 2147483647) {rs : List (List UInt8)} {cut at_ code : Nat} {DR : Dk} (hR : openR D nm = (rs, cut, at_, code, DR)) :
    Calls Tryd.prog 7 #[.pointer (some ⟨d, 0, none⟩), .string nm] w fun e w' =>
      (code = 0 ∧ ∃ j G rv ls, e = .returned (.tuple #[.pointer (some ⟨j, 0, none⟩), rv, .int .i64 (cut : Int), .nilIface]) ∧ ls.map LF.bytes = rs ∧ Many W w' (Ent.house d j ⟨DR, nm, endsOf rs, rs.length, .nilIface⟩ G :: Ent.recs rv ls :: L)) ∨
      (code ≠ 0 ∧ ∃ b F', e = .returned (.tuple #[.pointer none, .slice none 0 0, .int .i64 0, faultV b]) ∧ Many W w' (Ent.disk d DR F' :: Ent.box b (faultO nOpen (at_ : Int) code) :: L)) := by
  have m1 := (hM.addBox (.cells #[.pointer (some ⟨d, 0, none⟩), .string nm, .slice none 0 0, .int .i64 0, .nilIface] 60)).swap12
  obtain ⟨j, hj⟩ : ∃ j, j = w.heap.size := ⟨_, rfl⟩
  rw [← hj] at m1
  have hsz := size_any hs m1.first
  obtain ⟨S0, S1, S2, hS⟩ : ∃ S0 S1 S2, D.size nm = (S0, S1, S2) := ⟨_, _, _, rfl⟩
  rw [hS] at hsz
  have HSZ := Lib.hid hsz
  have M1 := Lib.hid m1
  have HW := Lib.hid hR
  have HG := Lib.hid hg
  have HRD := Lib.hid (And.intro hS (And.intro hs hj))
  have HB := Lib.hid hB
  clear m1 hsz hS hM hs hg hj hB hR
  go_enter Tryd.func7, Tryd.ntmps7
  go_wp2_with (first | (go_at_call 27; refine stop ?_))
  rw [← HRD.out.2.2]
  refine go ?_
  refine HSZ.out.mono ?_
  rintro e w1 ⟨rfl, hl1⟩
  obtain ⟨F1, m2⟩ := M1.out.left hl1
  have M2 := Lib.hid m2
  clear hl1 m2
  by_cases h112 : S2 = 112
  · subst h112
    have hfin : rs = [] ∧ cut = 0 ∧ code = 0 ∧ DR = D := by
      have h1 := HW.out
      unfold openR at h1
      rw [if_pos (by rw [HRD.out.1])] at h1
      simp at h1
      exact ⟨h1.1, h1.2.1.symm, h1.2.2.2.1.symm, h1.2.2.2.2.symm⟩
    obtain ⟨rfl, rfl, hcode, rfl⟩ := hfin
    have HCD := Lib.hid hcode
    clear hcode
    have M3 := Lib.hid M2.out.house
    simp only [show ((112 : Nat) : Int) = 112 from rfl]
    go_wp2
    (try simp only [Exit.inBlock, Exit.then])
    refine bodyPost_ret (results_tmp4 rfl _ _ _) rfl ?_
    have m4 := (M3.out.add (y := Ent.recs (.slice none 0 0) []) (Chg.refl _ _) (Recs.nil _) (good_recs _ _) (by simp [Ent.recs, rblks, sblk])).swap12
    exact .inl ⟨HCD.out, j, _, .slice none 0 0, [], by simp, rfl, m4⟩
  · have b1 : ((S2 : Int) == 112) = false := by rw [beq_eq_false_iff_ne]; omega
    by_cases h0 : S2 = 0
    · subst h0
      have hk := size_ok (D := D) (nm := nm) (by rw [HRD.out.1])
      obtain ⟨hk0, hk1, hk2⟩ := hk
      rw [HRD.out.1] at hk1
      simp only [Prod.mk.injEq, and_true] at hk1
      obtain ⟨s, hs⟩ : ∃ s, s = (bytesOf D.files nm).length := ⟨_, rfl⟩
      obtain ⟨l, g, y, hP⟩ : ∃ l g y, jparse (bytesOf D.files nm) = (l, g, y) := ⟨_, _, _, rfl⟩
      have hin := parse_inv (bytesOf D.files nm)
      have hgl := parse_good_le (bytesOf D.files nm)
      rw [hP] at hin hgl
      dsimp only at hin hgl
      have hw0 := HW.out
      unfold openR at hw0
      rw [HRD.out.1, if_neg (by simp), if_neg (by simp), hP] at hw0
      rw [← hs] at hk1 hgl
      obtain ⟨rfl, rfl⟩ := hk1
      have hrd := read_any 0 (S0 : Int) HRD.out.2.1 M2.out.first
      rw [hs, hk2, ← hs] at hrd
      have hBs := HB.out
      rw [← hs] at hBs
      have iB : (S0 : Int) ≤ 2147483647 := by omega
      have iB0 : (0 : Int) ≤ (S0 : Int) := by omega
      have ig : (g : Int) ≤ (S0 : Int) := by omega
      have ig0 : (0 : Int) ≤ (g : Int) := by omega
      obtain ⟨u, hu⟩ : ∃ u, u = sureOf D.files nm := ⟨_, rfl⟩
      rw [← hu] at hw0 ⊢
      obtain ⟨s, rfl⟩ : ∃ s, s = S0 := ⟨_, rfl⟩
      have HR1 := Lib.hid hrd
      have HW := Lib.hid hw0
      have HPP := Lib.hid (And.intro hs hP)
      have HGS := Lib.hid hgl
      have hcl : l.length ≤ 2147483647 := by have := count_le l 0; have := hin.2.2; omega
      have HPR := Lib.hid (And.intro hcl (And.intro hin.1 (show g ≤ 2147483647 by omega)))
      have HEB : Hid (∀ k, endN (endsOf (l.take k)) (endsOf (l.take k)).length ≤ g) := Lib.hid fun k => ends_bound (by rw [← hin.2.2]; exact Nat.le_refl _) k
      clear h112 b1 hk0 hk2 hrd hw0 hin hgl hcl hs hP hBs hu
      simp only [show ((0 : Nat) : Int) = 0 from rfl]
      go_wp2_with (first | (go_at_call 28; refine stop ?_))
      refine go ?_
      refine HR1.out.mono ?_
      rintro e w2 ⟨v2, rfl, o2, n2, c2, -⟩
      have m3 := M2.out.addBytes o2 c2 n2
      obtain ⟨p2, cc2, rfl, -⟩ := id o2
      have hpa := parse_any (HG.out.chg m3.chg) (OB.rb o2) HB.out
      rw [HPP.out.2, ← HPP.out.1] at hpa
      have HPA := Lib.hid hpa
      have M3 := Lib.hid m3
      clear o2 n2 c2 m3 hpa
      rw [← HPP.out.1]
      simp only [show ((0 : Nat) : Int) = 0 from rfl]
      go_wp2_with (first | (go_at_call 29; refine stop ?_))
      refine go ?_
      refine HPA.out.mono ?_
      rintro e w3 ⟨rv, ls, rfl, hls, hrec, c3, hnew⟩
      have m4 : Many W w3 (Ent.recs rv ls :: _) := M3.out.add (y := Ent.recs rv ls) c3 hrec (good_recs _ _) hnew
      have m5 := m4.swap12.tail.back3
      have hlsl : ls.length = l.length := by rw [← hls, List.length_map]
      obtain ⟨pr, cr, rfl, -⟩ := id hrec.oc
      obtain ⟨N, hN⟩ : ∃ N, N = ls.length := ⟨_, rfl⟩
      rw [← hN] at m5 ⊢
      have hNl : N = l.length := by rw [hN, hlsl]
      have iN : (N : Int) ≤ 2147483647 := by have := HPR.out.1; omega
      have hcr : N ≤ cr := by obtain ⟨_, _, e, h1, -⟩ := hrec.oc; simp only [Value.slice.injEq] at e; omega
      have icr : (N : Int) ≤ (cr : Int) := by omega
      have HNL := Lib.hid (And.intro hN (And.intro hNl hls))
      have M5 := Lib.hid m5
      clear hls hrec c3 hnew m4 m5 hlsl hN hNl hcr
      by_cases hgs : (g : Int) < (s : Int)
      · have d1 : decide ((g : Int) < (s : Int)) = true := decide_eq_true hgs
        have d1n : decide (g < s) = true := decide_eq_true (by omega)
        have hcu := cut_any (g : Int) HRD.out.2.1 M5.out.first
        obtain ⟨e1, DY, hC⟩ : ∃ e1 DY, D.cut nm (g : Int) = (e1, DY) := ⟨_, _, rfl⟩
        rw [hC] at hcu
        have HCU := Lib.hid hcu
        have hw1 := HW.out
        (try simp only at hw1)
        rw [if_pos (show g < s by omega), hC] at hw1
        have HW := Lib.hid hw1
        clear hcu hC hw1 hgs
        go_wp2_with (first | (go_at_call 30; refine stop ?_))
        refine go ?_
        refine HCU.out.mono ?_
        rintro e w4 ⟨rfl, hl4⟩
        obtain ⟨F4, m7⟩ := M5.out.left hl4
        by_cases he1 : e1 = 0
        · subst he1
          have M7 := Lib.hid m7
          clear hl4 m7
          (try simp only [show ((0 : Nat) : Int) = 0 from rfl])
          by_cases hug : (u : Int) < (g : Int)
          · have d2 : decide ((u : Int) < (g : Int)) = true := decide_eq_true hug
            have d2n : decide (u < g) = true := decide_eq_true (by omega)
            have hsy := sync_any HRD.out.2.1 M7.out.first
            obtain ⟨e2, D2, hY⟩ : ∃ e2 D2, DY.sync nm = (e2, D2) := ⟨_, _, rfl⟩
            rw [hY] at hsy
            have HSY := Lib.hid hsy
            have HY := Lib.hid hY
            have HUG := Lib.hid hug
            clear hsy hY hug
            go_wp2_with (first | (go_at_call 31; refine stop ?_))
            refine go ?_
            refine HSY.out.mono ?_
            rintro e w5 ⟨rfl, hl5⟩
            obtain ⟨F5, m8⟩ := M7.out.left hl5
            by_cases he2 : e2 = 0
            · subst he2
              have hfin : (s - g : Nat) = (s : Int) - (g : Int) ∧ code = 0 ∧ cut = s - g ∧ l = rs ∧ DR = D2 := by
                have h1 := HW.out
                simp only [ne_eq, not_true_eq_false, if_false] at h1
                rw [if_pos (show u < g by have := HUG.out; omega), HY.out] at h1
                simp at h1
                exact ⟨by have := HGS.out; omega, h1.2.2.2.1.symm, h1.2.1.symm, h1.1, h1.2.2.2.2.symm⟩
              obtain ⟨h1, h2, h3, h4, h5⟩ := hfin
              subst h3 h4 h5
              have hfin : ((s - g : Nat) : Int) = (s : Int) - (g : Int) ∧ code = 0 := ⟨h1, h2⟩
              have mX := m8
              clear hl5 m8 h1 h2
              (try simp only [show ((0 : Nat) : Int) = 0 from rfl])
              have HFIN := Lib.hid hfin
              have mh := mX.house
              have M5 := Lib.hid mh
              clear mX mh hfin
              go_wp2
              go_loopw [87] (fun t87 wr => ∃ k : Nat, t87 = .int .i64 (k : Int) ∧ k ≤ N ∧ ∃ G, Many W wr (Ent.house d j ⟨DR, nm, endsOf (l.take k), 0, .nilIface⟩ G :: Ent.recs (.slice pr N cr) ls :: L)) (fun t87 _ => N - (Lib.intOf t87).toNat)
              case atStart => exact ⟨0, rfl, Nat.zero_le _, _, M5.out⟩
              case round =>
                obtain ⟨k, rfl, hk, G, hMk⟩ := hrel
                have HMK := Lib.hid hMk
                have ik0 : (0 : Int) ≤ (k : Int) := by omega
                by_cases hkl : (k : Int) < (N : Int)
                · have hrec : Recs wr (.slice pr N cr) ls := hMk.get (x := Ent.recs (.slice pr N cr) ls) (by simp)
                  obtain ⟨x, hx⟩ : ∃ x, ls[k]? = some x := ⟨_, List.getElem?_eq_getElem (by have := HNL.out.1; omega)⟩
                  have hlk : l[k]? = some x.bytes := by rw [← HNL.out.2.2, List.getElem?_map, hx]; rfl
                  obtain ⟨rb, rfl⟩ := OC.blk1 hrec.oc (by have := HNL.out.1; omega)
                  have q1 := (OC.atk hrec.oc (j := k) (u := x.sv) (by rw [List.getElem?_map, hx]; rfl)).1
                  change wr.cell? ⟨rb, k, none⟩ = some (.slice x.p x.bytes.length x.cap) at q1
                  obtain ⟨Fk, vk, hr, hG⟩ := hMk.first
                  have hHK := Lib.hid (And.intro hr hG)
                  obtain ⟨pv5, cv5, hpv5, -⟩ := id hr.jrn.oc
                  have hel : (endsOf (l.take k)).length = k := by rw [endsOf_len, List.length_take]; have := HNL.out.2.1; omega
                  have hes : ({ D := DR, nm := nm, es := endsOf (l.take k), du := 0, er := .nilIface } : Hs).es.length = k := hel
                  have hsz2 := jsize_any hr.jrn (by rw [hes]; have := HNL.out.2.1; have := HPR.out.1; omega)
                  have hzb := HEB.out k
                  have htk : endsOf (l.take (k + 1)) = endsOf (l.take k) ++ [endN (endsOf (l.take k)) (endsOf (l.take k)).length + (x.bytes.length + 16)] := by
                    rw [List.take_add_one, hlk]; exact endsOf_snoc _ _
                  obtain ⟨Z, hZ⟩ : ∃ Z, Z = endN (endsOf (l.take k)) (endsOf (l.take k)).length := ⟨_, rfl⟩
                  rw [show ({ D := DR, nm := nm, es := endsOf (l.take k), du := 0, er := .nilIface } : Hs).es = endsOf (l.take k) from rfl, ← hZ] at hsz2
                  rw [← hZ] at htk hzb
                  rw [hes] at hpv5
                  have hxb : x.bytes.length ≤ 131068 := HPR.out.2.1 _ (List.mem_of_getElem? hlk)
                  have ixb : (x.bytes.length : Int) ≤ 131068 := by omega
                  have iZ : (Z : Int) ≤ 2147483647 := by have := HPR.out.2.2; omega
                  have iZ0 : (0 : Int) ≤ (Z : Int) := by omega
                  have g0 := hcell_of (hr.jrn).head 0
                  have g1 := hcell_of (hr.jrn).head 1
                  have g2 := hcell_of (hr.jrn).head 2
                  have g3 := hcell_of (hr.jrn).head 3
                  have g4 := hcell_of (hr.jrn).head 4
                  simp only [List.getElem?_toArray, List.getElem?_cons_zero, List.getElem?_cons_succ] at g0 g1 g2 g3 g4
                  subst hpv5
                  obtain ⟨xl, hxl⟩ : ∃ xl, xl = x.bytes.length := ⟨_, rfl⟩
                  rw [← hxl] at q1 ixb htk
                  have ixl0 : (0 : Int) ≤ (xl : Int) := by omega
                  have g2' : wr.drew.cell? ⟨j, 2, none⟩ = some (.slice pv5 k cv5) := g2
                  have HTK := Lib.hid (And.intro htk (And.intro hel (And.intro hG hxl)))
                  have HSZ2 := Lib.hid (jsize_any (hr.quiet ((Chg.refl (fun _ => False) wr).drew)).jrn (by rw [hes]; have := HNL.out.2.1; have := HPR.out.1; omega))
                  rw [show ({ D := DR, nm := nm, es := endsOf (l.take k), du := 0, er := .nilIface } : Hs).es = endsOf (l.take k) from rfl] at HSZ2
                  have HSZ3 : Hid (Calls Tryd.prog 32 #[.pointer (some ⟨j, 0, none⟩)] wr.drew fun e w' => e = .returned (.int .i64 (Z : Int)) ∧ wr.drew = w') := Lib.hid (by rw [hZ]; exact HSZ2.out)
                  have HHR := Lib.hid hr
                  have HKN := Lib.hid (And.intro hk hkl)
                  clear hMk hrec hx hlk hr hG hel hes hsz2 hzb htk hZ hxb hxl g0 g1 g2 g3 g4 HSZ2
                  go_wp2
                  refine Rx.wt_region (fun W => W.cell? ⟨j, 2, none⟩ = some (.slice pv5 k cv5)) 15 [(5, .r), (0, .h), (1, .h), (2, .h), (3, .h), (8, .h), (4, .h), (9, .h), (6, .e), (7, .r), (10, .r), (11, .e), (12, .e), (13, .r), (14, .r), (15, .e)] (by kernel_rfl) (by kernel_rfl) (by kernel_rfl) g2' (fun _ _ x _ _ h => (by cases x <;> exact h)) ?_
                  (refine Rx.wt_q rfl rfl ?_; go_wp2; refine Rx.atS_mk ?_)
                  iterate 7 (refine Rx.wt_h (v := ?_) rfl rfl ?_ ?_; rotate_left; (intro w' hS'; go_simp; try with_reducible rfl))
                  refine Rx.wt_e rfl ?_
                  go_wp2_with (first | (go_at_call 32; refine stop ?_))
                  refine go ?_
                  refine HSZ3.out.mono ?_
                  rintro e w' ⟨rfl, rfl⟩
                  go_wp2
                  refine ⟨fun _ => g2', ?_⟩
                  iterate 2 (refine Rx.wt_q rfl rfl ?_; go_wp2; refine Rx.atS_mk ?_)
                  refine Rx.wt_e rfl ?_
                  go_wp2
                  rw [show (Z : Int) + 16 + (xl : Int) = ((Z + (xl + 16) : Nat) : Int) by omega]
                  have hca : Chg (fun _ => False) wr (wr.alloc (.cells #[.int .i64 ((Z + (xl + 16) : Nat) : Int)] 3)).drew := ((Chg.refl _ wr).alloc _).drew
                  have r6 := HHR.out.quiet hca
                  have g0 := hcell_of (r6.jrn).head 0
                  have g1 := hcell_of (r6.jrn).head 1
                  have g2 := hcell_of (r6.jrn).head 2
                  have g3 := hcell_of (r6.jrn).head 3
                  have g4 := hcell_of (r6.jrn).head 4
                  simp only [List.getElem?_toArray, List.getElem?_cons_zero, List.getElem?_cons_succ] at g0 g1 g2 g3 g4
                  refine ⟨fun _ => g2, ?_⟩
                  have R6 := Lib.hid r6
                  have HCA := Lib.hid hca
                  have hnew : RC (wr.alloc (.cells #[.int .i64 ((Z + (xl + 16) : Nat) : Int)] 3)).drew 1 (.slice (some ⟨wr.heap.size, 0, none⟩) 1 1) [intV (Z + (xl + 16))].length [intV (Z + (xl + 16))] := RC.chg (OC_new wr 1 3 #[.int .i64 ((Z + (xl + 16) : Nat) : Int)] 1 1 (by decide) (by unfold maxLen; decide) rfl).rc ((Chg.refl (fun _ => False) _).drew) fun _ _ h => h
                  generalize (wr.alloc (.cells #[.int .i64 ((Z + (xl + 16) : Nat) : Int)] 3)).drew = wa at R6 HCA hnew g0 g1 g2 g3 g4 r6 hca ⊢
                  have HNW := Lib.hid hnew
                  clear r6 hca hnew g0 g1 g3 g4
                  refine Rx.wt_e rfl ?_
                  refine wpList_append_ints rfl _ _ rfl (v := .slice pv5 k cv5) (l := (endsOf (l.take k)).map intV) (m := [intV (Z + (xl + 16))]) rfl rfl (by rw [List.length_map]; exact R6.out.jrn.oc) HNW.out (by simp [intV, Value.oneCell']) (by rw [List.length_map, HTK.out.2.1]; have := HKN.out.1; have := HNL.out.2.1; have := HPR.out.1; simp; omega) ?_
                  intro pv6 lv6 cv6 w6 a1 a2 a3 a4
                  have hoc : OC w6 1 3 (.slice pv6 lv6 cv6) (endsOf (l.take (k + 1))).length ((endsOf (l.take (k + 1))).map intV) := by
                    rw [HTK.out.1, List.map_append, List.length_append]
                    rw [List.length_append, List.length_map] at a1
                    exact a1
                  have hne : sblk (.slice pv5 k cv5) ≠ some j := R6.out.jrn.ne
                  have hgr := HHR.out.grow HCA.out hoc a3 a4
                  have hh6 : w6.heap[j]? = _ := (a3.block j (R6.out.jrn.lt j (mem_jbl.2 (.inl rfl))) hne).trans R6.out.jrn.head
                  have k2 := hcell_of hh6 2
                  have z2 := hfree_of hh6 2
                  simp only [List.getElem?_toArray, List.getElem?_cons_zero, List.getElem?_cons_succ] at k2
                  have HGR := Lib.hid hgr
                  clear a1 a2 a3 a4 hoc hgr hh6 g2 g2' hne
                  go_wp2
                  refine ⟨k2, ?_⟩
                  iterate 2 (refine Rx.wt_q rfl rfl ?_; go_wp2; refine Rx.atS_mk ?_)
                  refine Rx.wt_e rfl ?_
                  go_wp2
                  refine ⟨by simp, ?_⟩
                  refine Rx.wt_nil ?_
                  clear k2 z2 q1
                  go_wp2
                  go_roundw
                  case rel =>
                    refine ⟨k + 1, by go_num, by omega, _, HMK.out.turn (y := Ent.house d j ⟨DR, nm, endsOf (l.take (k + 1)), 0, .nilIface⟩ _) ⟨Fk, .slice pv6 lv6 cv6, HGR.out.1, rfl⟩ (good_house _ _ _ _) ?_⟩
                    rw [HTK.out.2.2.1]
                    exact HGR.out.2
                  case measure => simp [Lib.intOf]; omega
                · obtain ⟨Fk, vk, hr, hG⟩ := hMk.first
                  have hkN : k = N := by omega
                  have hsu := hr.sure N
                  have z3 := hfree_of hr.jrn.head 3
                  have g0 := hcell_of (hr.jrn).head 0
                  have g1 := hcell_of (hr.jrn).head 1
                  have g2 := hcell_of (hr.jrn).head 2
                  have g3 := hcell_of (hr.jrn).head 3
                  have g4 := hcell_of (hr.jrn).head 4
                  simp only [List.getElem?_toArray, List.getElem?_cons_zero, List.getElem?_cons_succ] at g0 g1 g2 g3 g4
                  have HHR := Lib.hid (And.intro hsu (And.intro hG hkN))
                  clear hMk hr hG hsu hkN g0 g1 g2 g4
                  have m9 := HMK.out.turn (y := Ent.house d j ⟨DR, nm, endsOf l, l.length, .nilIface⟩ (Fk ++ jbl j vk)) (w' := wr.setCell ⟨j, 3, none⟩ (.int .i64 (N : Int))) (by
                    have h2 := HHR.out.1.1
                    have e1 : l.take k = l := by rw [HHR.out.2.2, HNL.out.2.1, List.take_length]
                    rw [e1] at h2
                    rw [← HNL.out.2.1]
                    exact ⟨Fk, vk, h2, rfl⟩) (good_house _ _ _ _) (by rw [HHR.out.2.1]; exact HHR.out.1.2)
                  have M9 := Lib.hid m9
                  clear m9
                  go_wp2
                  (try simp only [Exit.inBlock, Exit.then])
                  refine bodyPost_ret (results_tmp4 rfl _ _ _) rfl ?_
                  have hf1 := HFIN.out.1
                  first
                  | exact .inl ⟨HFIN.out.2, j, _, .slice pr N cr, by simp [hf1], ls, HNL.out.2.2, M9.out⟩
                  | exact .inl ⟨HFIN.out.2, j, _, .slice pr N cr, ls, by simp [hf1], HNL.out.2.2, M9.out⟩
            · have h02 : ((e2 : Int) == 0) = false := by rw [beq_eq_false_iff_ne]; omega
              have hfin : code = e2 ∧ DR = D2 ∧ at_ = N ∧ e2 ≠ 0 := by
                have h1 := HW.out
                simp only [ne_eq, not_true_eq_false, if_false] at h1
                rw [if_pos (show u < g by have := HUG.out; omega), HY.out] at h1
                (try simp only at h1)
                rw [if_pos he2] at h1
                simp at h1
                exact ⟨h1.2.2.2.1.symm, h1.2.2.2.2.symm, by rw [HNL.out.2.1]; exact h1.2.2.1.symm, he2⟩
              obtain ⟨h1, h2, h3, h4⟩ := hfin
              subst h1 h2 h3
              have hfin : code ≠ 0 ∧ DR = DR := ⟨he2, rfl⟩
              have mX : Many W w5 (Ent.disk d DR F5 :: L) := m8.sub (by simp)
              clear hl5 m8 h4 he2
              have hfa := fault_any (HG.out.chg mX.chg) nOpen (at_ : Int) code
              unfold errV at hfa
              have HFA := Lib.hid hfa
              have MX := Lib.hid mX
              have HFIN := Lib.hid hfin
              clear hfa mX hfin
              (try simp only [show ((0 : Nat) : Int) = 0 from rfl] at HFA ⊢)
              go_wp2_with (first | (go_at_call 26; refine stop ?_))
              refine go ?_
              refine HFA.out.mono ?_
              rintro e w9 ⟨b, rfl, hbn, hb, c9⟩
              have m9 := (MX.out.add (y := Ent.box b (faultO nOpen (at_ : Int) code)) c9 hb (good_box _ _) (fun k hk => by
                obtain rfl : k = b := by simpa [Ent.box] using hk
                exact hbn)).swap12
              have M9 := Lib.hid m9
              clear hbn hb c9 m9
              go_wp2
              (try simp only [Exit.inBlock, Exit.then])
              refine bodyPost_ret (results_tmp4 rfl _ _ _) rfl ?_
              first | exact .inr ⟨HFIN.out.1, b, _, by simp, M9.out⟩ | exact .inr ⟨HFIN.out.1, b, by simp, _, M9.out⟩
          · have d2 : decide ((u : Int) < (g : Int)) = false := decide_eq_false hug
            have d2n : decide (u < g) = false := decide_eq_false (by omega)
            have hfin : (s - g : Nat) = (s : Int) - (g : Int) ∧ code = 0 ∧ cut = s - g ∧ l = rs ∧ DR = DY := by
              have h1 := HW.out
              simp only [ne_eq, not_true_eq_false, if_false] at h1
              rw [if_neg (show ¬ u < g by omega)] at h1
              simp at h1
              exact ⟨by have := HGS.out; omega, h1.2.2.2.1.symm, h1.2.1.symm, h1.1, h1.2.2.2.2.symm⟩
            obtain ⟨h1, h2, h3, h4, h5⟩ := hfin
            subst h3 h4 h5
            have hfin : ((s - g : Nat) : Int) = (s : Int) - (g : Int) ∧ code = 0 := ⟨h1, h2⟩
            have mX := M7.out
            clear hug h1 h2
            (try simp only [show ((0 : Nat) : Int) = 0 from rfl])
            have HFIN := Lib.hid hfin
            have mh := mX.house
            have M5 := Lib.hid mh
            clear mX mh hfin
            go_wp2
            go_loopw [87] (fun t87 wr => ∃ k : Nat, t87 = .int .i64 (k : Int) ∧ k ≤ N ∧ ∃ G, Many W wr (Ent.house d j ⟨DR, nm, endsOf (l.take k), 0, .nilIface⟩ G :: Ent.recs (.slice pr N cr) ls :: L)) (fun t87 _ => N - (Lib.intOf t87).toNat)
            case atStart => exact ⟨0, rfl, Nat.zero_le _, _, M5.out⟩
            case round =>
              obtain ⟨k, rfl, hk, G, hMk⟩ := hrel
              have HMK := Lib.hid hMk
              have ik0 : (0 : Int) ≤ (k : Int) := by omega
              by_cases hkl : (k : Int) < (N : Int)
              · have hrec : Recs wr (.slice pr N cr) ls := hMk.get (x := Ent.recs (.slice pr N cr) ls) (by simp)
                obtain ⟨x, hx⟩ : ∃ x, ls[k]? = some x := ⟨_, List.getElem?_eq_getElem (by have := HNL.out.1; omega)⟩
                have hlk : l[k]? = some x.bytes := by rw [← HNL.out.2.2, List.getElem?_map, hx]; rfl
                obtain ⟨rb, rfl⟩ := OC.blk1 hrec.oc (by have := HNL.out.1; omega)
                have q1 := (OC.atk hrec.oc (j := k) (u := x.sv) (by rw [List.getElem?_map, hx]; rfl)).1
                change wr.cell? ⟨rb, k, none⟩ = some (.slice x.p x.bytes.length x.cap) at q1
                obtain ⟨Fk, vk, hr, hG⟩ := hMk.first
                have hHK := Lib.hid (And.intro hr hG)
                obtain ⟨pv5, cv5, hpv5, -⟩ := id hr.jrn.oc
                have hel : (endsOf (l.take k)).length = k := by rw [endsOf_len, List.length_take]; have := HNL.out.2.1; omega
                have hes : ({ D := DR, nm := nm, es := endsOf (l.take k), du := 0, er := .nilIface } : Hs).es.length = k := hel
                have hsz2 := jsize_any hr.jrn (by rw [hes]; have := HNL.out.2.1; have := HPR.out.1; omega)
                have hzb := HEB.out k
                have htk : endsOf (l.take (k + 1)) = endsOf (l.take k) ++ [endN (endsOf (l.take k)) (endsOf (l.take k)).length + (x.bytes.length + 16)] := by
                  rw [List.take_add_one, hlk]; exact endsOf_snoc _ _
                obtain ⟨Z, hZ⟩ : ∃ Z, Z = endN (endsOf (l.take k)) (endsOf (l.take k)).length := ⟨_, rfl⟩
                rw [show ({ D := DR, nm := nm, es := endsOf (l.take k), du := 0, er := .nilIface } : Hs).es = endsOf (l.take k) from rfl, ← hZ] at hsz2
                rw [← hZ] at htk hzb
                rw [hes] at hpv5
                have hxb : x.bytes.length ≤ 131068 := HPR.out.2.1 _ (List.mem_of_getElem? hlk)
                have ixb : (x.bytes.length : Int) ≤ 131068 := by omega
                have iZ : (Z : Int) ≤ 2147483647 := by have := HPR.out.2.2; omega
                have iZ0 : (0 : Int) ≤ (Z : Int) := by omega
                have g0 := hcell_of (hr.jrn).head 0
                have g1 := hcell_of (hr.jrn).head 1
                have g2 := hcell_of (hr.jrn).head 2
                have g3 := hcell_of (hr.jrn).head 3
                have g4 := hcell_of (hr.jrn).head 4
                simp only [List.getElem?_toArray, List.getElem?_cons_zero, List.getElem?_cons_succ] at g0 g1 g2 g3 g4
                subst hpv5
                obtain ⟨xl, hxl⟩ : ∃ xl, xl = x.bytes.length := ⟨_, rfl⟩
                rw [← hxl] at q1 ixb htk
                have ixl0 : (0 : Int) ≤ (xl : Int) := by omega
                have g2' : wr.drew.cell? ⟨j, 2, none⟩ = some (.slice pv5 k cv5) := g2
                have HTK := Lib.hid (And.intro htk (And.intro hel (And.intro hG hxl)))
                have HSZ2 := Lib.hid (jsize_any (hr.quiet ((Chg.refl (fun _ => False) wr).drew)).jrn (by rw [hes]; have := HNL.out.2.1; have := HPR.out.1; omega))
                rw [show ({ D := DR, nm := nm, es := endsOf (l.take k), du := 0, er := .nilIface } : Hs).es = endsOf (l.take k) from rfl] at HSZ2
                have HSZ3 : Hid (Calls Tryd.prog 32 #[.pointer (some ⟨j, 0, none⟩)] wr.drew fun e w' => e = .returned (.int .i64 (Z : Int)) ∧ wr.drew = w') := Lib.hid (by rw [hZ]; exact HSZ2.out)
                have HHR := Lib.hid hr
                have HKN := Lib.hid (And.intro hk hkl)
                clear hMk hrec hx hlk hr hG hel hes hsz2 hzb htk hZ hxb hxl g0 g1 g2 g3 g4 HSZ2
                go_wp2
                refine Rx.wt_region (fun W => W.cell? ⟨j, 2, none⟩ = some (.slice pv5 k cv5)) 15 [(5, .r), (0, .h), (1, .h), (2, .h), (3, .h), (8, .h), (4, .h), (9, .h), (6, .e), (7, .r), (10, .r), (11, .e), (12, .e), (13, .r), (14, .r), (15, .e)] (by kernel_rfl) (by kernel_rfl) (by kernel_rfl) g2' (fun _ _ x _ _ h => (by cases x <;> exact h)) ?_
                (refine Rx.wt_q rfl rfl ?_; go_wp2; refine Rx.atS_mk ?_)
                iterate 7 (refine Rx.wt_h (v := ?_) rfl rfl ?_ ?_; rotate_left; (intro w' hS'; go_simp; try with_reducible rfl))
                refine Rx.wt_e rfl ?_
                go_wp2_with (first | (go_at_call 32; refine stop ?_))
                refine go ?_
                refine HSZ3.out.mono ?_
                rintro e w' ⟨rfl, rfl⟩
                go_wp2
                refine ⟨fun _ => g2', ?_⟩
                iterate 2 (refine Rx.wt_q rfl rfl ?_; go_wp2; refine Rx.atS_mk ?_)
                refine Rx.wt_e rfl ?_
                go_wp2
                rw [show (Z : Int) + 16 + (xl : Int) = ((Z + (xl + 16) : Nat) : Int) by omega]
                have hca : Chg (fun _ => False) wr (wr.alloc (.cells #[.int .i64 ((Z + (xl + 16) : Nat) : Int)] 3)).drew := ((Chg.refl _ wr).alloc _).drew
                have r6 := HHR.out.quiet hca
                have g0 := hcell_of (r6.jrn).head 0
                have g1 := hcell_of (r6.jrn).head 1
                have g2 := hcell_of (r6.jrn).head 2
                have g3 := hcell_of (r6.jrn).head 3
                have g4 := hcell_of (r6.jrn).head 4
                simp only [List.getElem?_toArray, List.getElem?_cons_zero, List.getElem?_cons_succ] at g0 g1 g2 g3 g4
                refine ⟨fun _ => g2, ?_⟩
                have R6 := Lib.hid r6
                have HCA := Lib.hid hca
                have hnew : RC (wr.alloc (.cells #[.int .i64 ((Z + (xl + 16) : Nat) : Int)] 3)).drew 1 (.slice (some ⟨wr.heap.size, 0, none⟩) 1 1) [intV (Z + (xl + 16))].length [intV (Z + (xl + 16))] := RC.chg (OC_new wr 1 3 #[.int .i64 ((Z + (xl + 16) : Nat) : Int)] 1 1 (by decide) (by unfold maxLen; decide) rfl).rc ((Chg.refl (fun _ => False) _).drew) fun _ _ h => h
                generalize (wr.alloc (.cells #[.int .i64 ((Z + (xl + 16) : Nat) : Int)] 3)).drew = wa at R6 HCA hnew g0 g1 g2 g3 g4 r6 hca ⊢
                have HNW := Lib.hid hnew
                clear r6 hca hnew g0 g1 g3 g4
                refine Rx.wt_e rfl ?_
                refine wpList_append_ints rfl _ _ rfl (v := .slice pv5 k cv5) (l := (endsOf (l.take k)).map intV) (m := [intV (Z + (xl + 16))]) rfl rfl (by rw [List.length_map]; exact R6.out.jrn.oc) HNW.out (by simp [intV, Value.oneCell']) (by rw [List.length_map, HTK.out.2.1]; have := HKN.out.1; have := HNL.out.2.1; have := HPR.out.1; simp; omega) ?_
                intro pv6 lv6 cv6 w6 a1 a2 a3 a4
                have hoc : OC w6 1 3 (.slice pv6 lv6 cv6) (endsOf (l.take (k + 1))).length ((endsOf (l.take (k + 1))).map intV) := by
                  rw [HTK.out.1, List.map_append, List.length_append]
                  rw [List.length_append, List.length_map] at a1
                  exact a1
                have hne : sblk (.slice pv5 k cv5) ≠ some j := R6.out.jrn.ne
                have hgr := HHR.out.grow HCA.out hoc a3 a4
                have hh6 : w6.heap[j]? = _ := (a3.block j (R6.out.jrn.lt j (mem_jbl.2 (.inl rfl))) hne).trans R6.out.jrn.head
                have k2 := hcell_of hh6 2
                have z2 := hfree_of hh6 2
                simp only [List.getElem?_toArray, List.getElem?_cons_zero, List.getElem?_cons_succ] at k2
                have HGR := Lib.hid hgr
                clear a1 a2 a3 a4 hoc hgr hh6 g2 g2' hne
                go_wp2
                refine ⟨k2, ?_⟩
                iterate 2 (refine Rx.wt_q rfl rfl ?_; go_wp2; refine Rx.atS_mk ?_)
                refine Rx.wt_e rfl ?_
                go_wp2
                refine ⟨by simp, ?_⟩
                refine Rx.wt_nil ?_
                clear k2 z2 q1
                go_wp2
                go_roundw
                case rel =>
                  refine ⟨k + 1, by go_num, by omega, _, HMK.out.turn (y := Ent.house d j ⟨DR, nm, endsOf (l.take (k + 1)), 0, .nilIface⟩ _) ⟨Fk, .slice pv6 lv6 cv6, HGR.out.1, rfl⟩ (good_house _ _ _ _) ?_⟩
                  rw [HTK.out.2.2.1]
                  exact HGR.out.2
                case measure => simp [Lib.intOf]; omega
              · obtain ⟨Fk, vk, hr, hG⟩ := hMk.first
                have hkN : k = N := by omega
                have hsu := hr.sure N
                have z3 := hfree_of hr.jrn.head 3
                have g0 := hcell_of (hr.jrn).head 0
                have g1 := hcell_of (hr.jrn).head 1
                have g2 := hcell_of (hr.jrn).head 2
                have g3 := hcell_of (hr.jrn).head 3
                have g4 := hcell_of (hr.jrn).head 4
                simp only [List.getElem?_toArray, List.getElem?_cons_zero, List.getElem?_cons_succ] at g0 g1 g2 g3 g4
                have HHR := Lib.hid (And.intro hsu (And.intro hG hkN))
                clear hMk hr hG hsu hkN g0 g1 g2 g4
                have m9 := HMK.out.turn (y := Ent.house d j ⟨DR, nm, endsOf l, l.length, .nilIface⟩ (Fk ++ jbl j vk)) (w' := wr.setCell ⟨j, 3, none⟩ (.int .i64 (N : Int))) (by
                  have h2 := HHR.out.1.1
                  have e1 : l.take k = l := by rw [HHR.out.2.2, HNL.out.2.1, List.take_length]
                  rw [e1] at h2
                  rw [← HNL.out.2.1]
                  exact ⟨Fk, vk, h2, rfl⟩) (good_house _ _ _ _) (by rw [HHR.out.2.1]; exact HHR.out.1.2)
                have M9 := Lib.hid m9
                clear m9
                go_wp2
                (try simp only [Exit.inBlock, Exit.then])
                refine bodyPost_ret (results_tmp4 rfl _ _ _) rfl ?_
                have hf1 := HFIN.out.1
                first
                | exact .inl ⟨HFIN.out.2, j, _, .slice pr N cr, by simp [hf1], ls, HNL.out.2.2, M9.out⟩
                | exact .inl ⟨HFIN.out.2, j, _, .slice pr N cr, ls, by simp [hf1], HNL.out.2.2, M9.out⟩
        · have h01 : ((e1 : Int) == 0) = false := by rw [beq_eq_false_iff_ne]; omega
          have hfin : code = e1 ∧ DR = DY ∧ at_ = N := by
            have h1 := HW.out
            (try simp only at h1)
            rw [if_pos he1] at h1
            simp at h1
            exact ⟨h1.2.2.2.1.symm, h1.2.2.2.2.symm, by rw [HNL.out.2.1]; exact h1.2.2.1.symm⟩
          obtain ⟨h1, h2, h3⟩ := hfin
          subst h1 h2 h3
          have hfin : code ≠ 0 ∧ DR = DR := ⟨he1, rfl⟩
          have mX : Many W w4 (Ent.disk d DR F4 :: L) := m7.sub (by simp)
          clear hl4 m7 he1
          have hfa := fault_any (HG.out.chg mX.chg) nOpen (at_ : Int) code
          unfold errV at hfa
          have HFA := Lib.hid hfa
          have MX := Lib.hid mX
          have HFIN := Lib.hid hfin
          clear hfa mX hfin
          (try simp only [show ((0 : Nat) : Int) = 0 from rfl] at HFA ⊢)
          go_wp2_with (first | (go_at_call 26; refine stop ?_))
          refine go ?_
          refine HFA.out.mono ?_
          rintro e w9 ⟨b, rfl, hbn, hb, c9⟩
          have m9 := (MX.out.add (y := Ent.box b (faultO nOpen (at_ : Int) code)) c9 hb (good_box _ _) (fun k hk => by
            obtain rfl : k = b := by simpa [Ent.box] using hk
            exact hbn)).swap12
          have M9 := Lib.hid m9
          clear hbn hb c9 m9
          go_wp2
          (try simp only [Exit.inBlock, Exit.then])
          refine bodyPost_ret (results_tmp4 rfl _ _ _) rfl ?_
          first | exact .inr ⟨HFIN.out.1, b, _, by simp, M9.out⟩ | exact .inr ⟨HFIN.out.1, b, by simp, _, M9.out⟩
      · have d1 : decide ((g : Int) < (s : Int)) = false := decide_eq_false hgs
        have d1n : decide (g < s) = false := decide_eq_false (by omega)
        have hw1 := HW.out
        (try simp only at hw1)
        rw [if_neg (show ¬ g < s by omega)] at hw1
        have HW := Lib.hid hw1
        obtain ⟨DY, hDY⟩ : ∃ DY, DY = D := ⟨_, rfl⟩
        have M7 := M5
        clear hw1 hgs
        subst hDY
        by_cases hug : (u : Int) < (g : Int)
        · have d2 : decide ((u : Int) < (g : Int)) = true := decide_eq_true hug
          have d2n : decide (u < g) = true := decide_eq_true (by omega)
          have hsy := sync_any HRD.out.2.1 M7.out.first
          obtain ⟨e2, D2, hY⟩ : ∃ e2 D2, DY.sync nm = (e2, D2) := ⟨_, _, rfl⟩
          rw [hY] at hsy
          have HSY := Lib.hid hsy
          have HY := Lib.hid hY
          have HUG := Lib.hid hug
          clear hsy hY hug
          go_wp2_with (first | (go_at_call 31; refine stop ?_))
          refine go ?_
          refine HSY.out.mono ?_
          rintro e w5 ⟨rfl, hl5⟩
          obtain ⟨F5, m8⟩ := M7.out.left hl5
          by_cases he2 : e2 = 0
          · subst he2
            have hfin : (s - g : Nat) = (s : Int) - (g : Int) ∧ code = 0 ∧ cut = s - g ∧ l = rs ∧ DR = D2 := by
              have h1 := HW.out
              simp only [ne_eq, not_true_eq_false, if_false] at h1
              rw [if_pos (show u < g by have := HUG.out; omega), HY.out] at h1
              simp at h1
              exact ⟨by have := HGS.out; omega, h1.2.2.2.1.symm, h1.2.1.symm, h1.1, h1.2.2.2.2.symm⟩
            obtain ⟨h1, h2, h3, h4, h5⟩ := hfin
            subst h3 h4 h5
            have hfin : ((s - g : Nat) : Int) = (s : Int) - (g : Int) ∧ code = 0 := ⟨h1, h2⟩
            have mX := m8
            clear hl5 m8 h1 h2
            (try simp only [show ((0 : Nat) : Int) = 0 from rfl])
            have HFIN := Lib.hid hfin
            have mh := mX.house
            have M5 := Lib.hid mh
            clear mX mh hfin
            go_wp2
            go_loopw [87] (fun t87 wr => ∃ k : Nat, t87 = .int .i64 (k : Int) ∧ k ≤ N ∧ ∃ G, Many W wr (Ent.house d j ⟨DR, nm, endsOf (l.take k), 0, .nilIface⟩ G :: Ent.recs (.slice pr N cr) ls :: L)) (fun t87 _ => N - (Lib.intOf t87).toNat)
            case atStart => exact ⟨0, rfl, Nat.zero_le _, _, M5.out⟩
            case round =>
              obtain ⟨k, rfl, hk, G, hMk⟩ := hrel
              have HMK := Lib.hid hMk
              have ik0 : (0 : Int) ≤ (k : Int) := by omega
              by_cases hkl : (k : Int) < (N : Int)
              · have hrec : Recs wr (.slice pr N cr) ls := hMk.get (x := Ent.recs (.slice pr N cr) ls) (by simp)
                obtain ⟨x, hx⟩ : ∃ x, ls[k]? = some x := ⟨_, List.getElem?_eq_getElem (by have := HNL.out.1; omega)⟩
                have hlk : l[k]? = some x.bytes := by rw [← HNL.out.2.2, List.getElem?_map, hx]; rfl
                obtain ⟨rb, rfl⟩ := OC.blk1 hrec.oc (by have := HNL.out.1; omega)
                have q1 := (OC.atk hrec.oc (j := k) (u := x.sv) (by rw [List.getElem?_map, hx]; rfl)).1
                change wr.cell? ⟨rb, k, none⟩ = some (.slice x.p x.bytes.length x.cap) at q1
                obtain ⟨Fk, vk, hr, hG⟩ := hMk.first
                have hHK := Lib.hid (And.intro hr hG)
                obtain ⟨pv5, cv5, hpv5, -⟩ := id hr.jrn.oc
                have hel : (endsOf (l.take k)).length = k := by rw [endsOf_len, List.length_take]; have := HNL.out.2.1; omega
                have hes : ({ D := DR, nm := nm, es := endsOf (l.take k), du := 0, er := .nilIface } : Hs).es.length = k := hel
                have hsz2 := jsize_any hr.jrn (by rw [hes]; have := HNL.out.2.1; have := HPR.out.1; omega)
                have hzb := HEB.out k
                have htk : endsOf (l.take (k + 1)) = endsOf (l.take k) ++ [endN (endsOf (l.take k)) (endsOf (l.take k)).length + (x.bytes.length + 16)] := by
                  rw [List.take_add_one, hlk]; exact endsOf_snoc _ _
                obtain ⟨Z, hZ⟩ : ∃ Z, Z = endN (endsOf (l.take k)) (endsOf (l.take k)).length := ⟨_, rfl⟩
                rw [show ({ D := DR, nm := nm, es := endsOf (l.take k), du := 0, er := .nilIface } : Hs).es = endsOf (l.take k) from rfl, ← hZ] at hsz2
                rw [← hZ] at htk hzb
                rw [hes] at hpv5
                have hxb : x.bytes.length ≤ 131068 := HPR.out.2.1 _ (List.mem_of_getElem? hlk)
                have ixb : (x.bytes.length : Int) ≤ 131068 := by omega
                have iZ : (Z : Int) ≤ 2147483647 := by have := HPR.out.2.2; omega
                have iZ0 : (0 : Int) ≤ (Z : Int) := by omega
                have g0 := hcell_of (hr.jrn).head 0
                have g1 := hcell_of (hr.jrn).head 1
                have g2 := hcell_of (hr.jrn).head 2
                have g3 := hcell_of (hr.jrn).head 3
                have g4 := hcell_of (hr.jrn).head 4
                simp only [List.getElem?_toArray, List.getElem?_cons_zero, List.getElem?_cons_succ] at g0 g1 g2 g3 g4
                subst hpv5
                obtain ⟨xl, hxl⟩ : ∃ xl, xl = x.bytes.length := ⟨_, rfl⟩
                rw [← hxl] at q1 ixb htk
                have ixl0 : (0 : Int) ≤ (xl : Int) := by omega
                have g2' : wr.drew.cell? ⟨j, 2, none⟩ = some (.slice pv5 k cv5) := g2
                have HTK := Lib.hid (And.intro htk (And.intro hel (And.intro hG hxl)))
                have HSZ2 := Lib.hid (jsize_any (hr.quiet ((Chg.refl (fun _ => False) wr).drew)).jrn (by rw [hes]; have := HNL.out.2.1; have := HPR.out.1; omega))
                rw [show ({ D := DR, nm := nm, es := endsOf (l.take k), du := 0, er := .nilIface } : Hs).es = endsOf (l.take k) from rfl] at HSZ2
                have HSZ3 : Hid (Calls Tryd.prog 32 #[.pointer (some ⟨j, 0, none⟩)] wr.drew fun e w' => e = .returned (.int .i64 (Z : Int)) ∧ wr.drew = w') := Lib.hid (by rw [hZ]; exact HSZ2.out)
                have HHR := Lib.hid hr
                have HKN := Lib.hid (And.intro hk hkl)
                clear hMk hrec hx hlk hr hG hel hes hsz2 hzb htk hZ hxb hxl g0 g1 g2 g3 g4 HSZ2
                go_wp2
                refine Rx.wt_region (fun W => W.cell? ⟨j, 2, none⟩ = some (.slice pv5 k cv5)) 15 [(5, .r), (0, .h), (1, .h), (2, .h), (3, .h), (8, .h), (4, .h), (9, .h), (6, .e), (7, .r), (10, .r), (11, .e), (12, .e), (13, .r), (14, .r), (15, .e)] (by kernel_rfl) (by kernel_rfl) (by kernel_rfl) g2' (fun _ _ x _ _ h => (by cases x <;> exact h)) ?_
                (refine Rx.wt_q rfl rfl ?_; go_wp2; refine Rx.atS_mk ?_)
                iterate 7 (refine Rx.wt_h (v := ?_) rfl rfl ?_ ?_; rotate_left; (intro w' hS'; go_simp; try with_reducible rfl))
                refine Rx.wt_e rfl ?_
                go_wp2_with (first | (go_at_call 32; refine stop ?_))
                refine go ?_
                refine HSZ3.out.mono ?_
                rintro e w' ⟨rfl, rfl⟩
                go_wp2
                refine ⟨fun _ => g2', ?_⟩
                iterate 2 (refine Rx.wt_q rfl rfl ?_; go_wp2; refine Rx.atS_mk ?_)
                refine Rx.wt_e rfl ?_
                go_wp2
                rw [show (Z : Int) + 16 + (xl : Int) = ((Z + (xl + 16) : Nat) : Int) by omega]
                have hca : Chg (fun _ => False) wr (wr.alloc (.cells #[.int .i64 ((Z + (xl + 16) : Nat) : Int)] 3)).drew := ((Chg.refl _ wr).alloc _).drew
                have r6 := HHR.out.quiet hca
                have g0 := hcell_of (r6.jrn).head 0
                have g1 := hcell_of (r6.jrn).head 1
                have g2 := hcell_of (r6.jrn).head 2
                have g3 := hcell_of (r6.jrn).head 3
                have g4 := hcell_of (r6.jrn).head 4
                simp only [List.getElem?_toArray, List.getElem?_cons_zero, List.getElem?_cons_succ] at g0 g1 g2 g3 g4
                refine ⟨fun _ => g2, ?_⟩
                have R6 := Lib.hid r6
                have HCA := Lib.hid hca
                have hnew : RC (wr.alloc (.cells #[.int .i64 ((Z + (xl + 16) : Nat) : Int)] 3)).drew 1 (.slice (some ⟨wr.heap.size, 0, none⟩) 1 1) [intV (Z + (xl + 16))].length [intV (Z + (xl + 16))] := RC.chg (OC_new wr 1 3 #[.int .i64 ((Z + (xl + 16) : Nat) : Int)] 1 1 (by decide) (by unfold maxLen; decide) rfl).rc ((Chg.refl (fun _ => False) _).drew) fun _ _ h => h
                generalize (wr.alloc (.cells #[.int .i64 ((Z + (xl + 16) : Nat) : Int)] 3)).drew = wa at R6 HCA hnew g0 g1 g2 g3 g4 r6 hca ⊢
                have HNW := Lib.hid hnew
                clear r6 hca hnew g0 g1 g3 g4
                refine Rx.wt_e rfl ?_
                refine wpList_append_ints rfl _ _ rfl (v := .slice pv5 k cv5) (l := (endsOf (l.take k)).map intV) (m := [intV (Z + (xl + 16))]) rfl rfl (by rw [List.length_map]; exact R6.out.jrn.oc) HNW.out (by simp [intV, Value.oneCell']) (by rw [List.length_map, HTK.out.2.1]; have := HKN.out.1; have := HNL.out.2.1; have := HPR.out.1; simp; omega) ?_
                intro pv6 lv6 cv6 w6 a1 a2 a3 a4
                have hoc : OC w6 1 3 (.slice pv6 lv6 cv6) (endsOf (l.take (k + 1))).length ((endsOf (l.take (k + 1))).map intV) := by
                  rw [HTK.out.1, List.map_append, List.length_append]
                  rw [List.length_append, List.length_map] at a1
                  exact a1
                have hne : sblk (.slice pv5 k cv5) ≠ some j := R6.out.jrn.ne
                have hgr := HHR.out.grow HCA.out hoc a3 a4
                have hh6 : w6.heap[j]? = _ := (a3.block j (R6.out.jrn.lt j (mem_jbl.2 (.inl rfl))) hne).trans R6.out.jrn.head
                have k2 := hcell_of hh6 2
                have z2 := hfree_of hh6 2
                simp only [List.getElem?_toArray, List.getElem?_cons_zero, List.getElem?_cons_succ] at k2
                have HGR := Lib.hid hgr
                clear a1 a2 a3 a4 hoc hgr hh6 g2 g2' hne
                go_wp2
                refine ⟨k2, ?_⟩
                iterate 2 (refine Rx.wt_q rfl rfl ?_; go_wp2; refine Rx.atS_mk ?_)
                refine Rx.wt_e rfl ?_
                go_wp2
                refine ⟨by simp, ?_⟩
                refine Rx.wt_nil ?_
                clear k2 z2 q1
                go_wp2
                go_roundw
                case rel =>
                  refine ⟨k + 1, by go_num, by omega, _, HMK.out.turn (y := Ent.house d j ⟨DR, nm, endsOf (l.take (k + 1)), 0, .nilIface⟩ _) ⟨Fk, .slice pv6 lv6 cv6, HGR.out.1, rfl⟩ (good_house _ _ _ _) ?_⟩
                  rw [HTK.out.2.2.1]
                  exact HGR.out.2
                case measure => simp [Lib.intOf]; omega
              · obtain ⟨Fk, vk, hr, hG⟩ := hMk.first
                have hkN : k = N := by omega
                have hsu := hr.sure N
                have z3 := hfree_of hr.jrn.head 3
                have g0 := hcell_of (hr.jrn).head 0
                have g1 := hcell_of (hr.jrn).head 1
                have g2 := hcell_of (hr.jrn).head 2
                have g3 := hcell_of (hr.jrn).head 3
                have g4 := hcell_of (hr.jrn).head 4
                simp only [List.getElem?_toArray, List.getElem?_cons_zero, List.getElem?_cons_succ] at g0 g1 g2 g3 g4
                have HHR := Lib.hid (And.intro hsu (And.intro hG hkN))
                clear hMk hr hG hsu hkN g0 g1 g2 g4
                have m9 := HMK.out.turn (y := Ent.house d j ⟨DR, nm, endsOf l, l.length, .nilIface⟩ (Fk ++ jbl j vk)) (w' := wr.setCell ⟨j, 3, none⟩ (.int .i64 (N : Int))) (by
                  have h2 := HHR.out.1.1
                  have e1 : l.take k = l := by rw [HHR.out.2.2, HNL.out.2.1, List.take_length]
                  rw [e1] at h2
                  rw [← HNL.out.2.1]
                  exact ⟨Fk, vk, h2, rfl⟩) (good_house _ _ _ _) (by rw [HHR.out.2.1]; exact HHR.out.1.2)
                have M9 := Lib.hid m9
                clear m9
                go_wp2
                (try simp only [Exit.inBlock, Exit.then])
                refine bodyPost_ret (results_tmp4 rfl _ _ _) rfl ?_
                have hf1 := HFIN.out.1
                first
                | exact .inl ⟨HFIN.out.2, j, _, .slice pr N cr, by simp [hf1], ls, HNL.out.2.2, M9.out⟩
                | exact .inl ⟨HFIN.out.2, j, _, .slice pr N cr, ls, by simp [hf1], HNL.out.2.2, M9.out⟩
          · have h02 : ((e2 : Int) == 0) = false := by rw [beq_eq_false_iff_ne]; omega
            have hfin : code = e2 ∧ DR = D2 ∧ at_ = N ∧ e2 ≠ 0 := by
              have h1 := HW.out
              simp only [ne_eq, not_true_eq_false, if_false] at h1
              rw [if_pos (show u < g by have := HUG.out; omega), HY.out] at h1
              (try simp only at h1)
              rw [if_pos he2] at h1
              simp at h1
              exact ⟨h1.2.2.2.1.symm, h1.2.2.2.2.symm, by rw [HNL.out.2.1]; exact h1.2.2.1.symm, he2⟩
            obtain ⟨h1, h2, h3, h4⟩ := hfin
            subst h1 h2 h3
            have hfin : code ≠ 0 ∧ DR = DR := ⟨he2, rfl⟩
            have mX : Many W w5 (Ent.disk d DR F5 :: L) := m8.sub (by simp)
            clear hl5 m8 h4 he2
            have hfa := fault_any (HG.out.chg mX.chg) nOpen (at_ : Int) code
            unfold errV at hfa
            have HFA := Lib.hid hfa
            have MX := Lib.hid mX
            have HFIN := Lib.hid hfin
            clear hfa mX hfin
            (try simp only [show ((0 : Nat) : Int) = 0 from rfl] at HFA ⊢)
            go_wp2_with (first | (go_at_call 26; refine stop ?_))
            refine go ?_
            refine HFA.out.mono ?_
            rintro e w9 ⟨b, rfl, hbn, hb, c9⟩
            have m9 := (MX.out.add (y := Ent.box b (faultO nOpen (at_ : Int) code)) c9 hb (good_box _ _) (fun k hk => by
              obtain rfl : k = b := by simpa [Ent.box] using hk
              exact hbn)).swap12
            have M9 := Lib.hid m9
            clear hbn hb c9 m9
            go_wp2
            (try simp only [Exit.inBlock, Exit.then])
            refine bodyPost_ret (results_tmp4 rfl _ _ _) rfl ?_
            first | exact .inr ⟨HFIN.out.1, b, _, by simp, M9.out⟩ | exact .inr ⟨HFIN.out.1, b, by simp, _, M9.out⟩
        · have d2 : decide ((u : Int) < (g : Int)) = false := decide_eq_false hug
          have d2n : decide (u < g) = false := decide_eq_false (by omega)
          have hfin : (s - g : Nat) = (s : Int) - (g : Int) ∧ code = 0 ∧ cut = s - g ∧ l = rs ∧ DR = DY := by
            have h1 := HW.out
            simp only [ne_eq, not_true_eq_false, if_false] at h1
            rw [if_neg (show ¬ u < g by omega)] at h1
            simp at h1
            exact ⟨by have := HGS.out; omega, h1.2.2.2.1.symm, h1.2.1.symm, h1.1, h1.2.2.2.2.symm⟩
          obtain ⟨h1, h2, h3, h4, h5⟩ := hfin
          subst h3 h4 h5
          have hfin : ((s - g : Nat) : Int) = (s : Int) - (g : Int) ∧ code = 0 := ⟨h1, h2⟩
          have mX := M7.out
          clear hug h1 h2
          (try simp only [show ((0 : Nat) : Int) = 0 from rfl])
          have HFIN := Lib.hid hfin
          have mh := mX.house
          have M5 := Lib.hid mh
          clear mX mh hfin
          go_wp2
          go_loopw [87] (fun t87 wr => ∃ k : Nat, t87 = .int .i64 (k : Int) ∧ k ≤ N ∧ ∃ G, Many W wr (Ent.house d j ⟨DR, nm, endsOf (l.take k), 0, .nilIface⟩ G :: Ent.recs (.slice pr N cr) ls :: L)) (fun t87 _ => N - (Lib.intOf t87).toNat)
          case atStart => exact ⟨0, rfl, Nat.zero_le _, _, M5.out⟩
          case round =>
            obtain ⟨k, rfl, hk, G, hMk⟩ := hrel
            have HMK := Lib.hid hMk
            have ik0 : (0 : Int) ≤ (k : Int) := by omega
            by_cases hkl : (k : Int) < (N : Int)
            · have hrec : Recs wr (.slice pr N cr) ls := hMk.get (x := Ent.recs (.slice pr N cr) ls) (by simp)
              obtain ⟨x, hx⟩ : ∃ x, ls[k]? = some x := ⟨_, List.getElem?_eq_getElem (by have := HNL.out.1; omega)⟩
              have hlk : l[k]? = some x.bytes := by rw [← HNL.out.2.2, List.getElem?_map, hx]; rfl
              obtain ⟨rb, rfl⟩ := OC.blk1 hrec.oc (by have := HNL.out.1; omega)
              have q1 := (OC.atk hrec.oc (j := k) (u := x.sv) (by rw [List.getElem?_map, hx]; rfl)).1
              change wr.cell? ⟨rb, k, none⟩ = some (.slice x.p x.bytes.length x.cap) at q1
              obtain ⟨Fk, vk, hr, hG⟩ := hMk.first
              have hHK := Lib.hid (And.intro hr hG)
              obtain ⟨pv5, cv5, hpv5, -⟩ := id hr.jrn.oc
              have hel : (endsOf (l.take k)).length = k := by rw [endsOf_len, List.length_take]; have := HNL.out.2.1; omega
              have hes : ({ D := DR, nm := nm, es := endsOf (l.take k), du := 0, er := .nilIface } : Hs).es.length = k := hel
              have hsz2 := jsize_any hr.jrn (by rw [hes]; have := HNL.out.2.1; have := HPR.out.1; omega)
              have hzb := HEB.out k
              have htk : endsOf (l.take (k + 1)) = endsOf (l.take k) ++ [endN (endsOf (l.take k)) (endsOf (l.take k)).length + (x.bytes.length + 16)] := by
                rw [List.take_add_one, hlk]; exact endsOf_snoc _ _
              obtain ⟨Z, hZ⟩ : ∃ Z, Z = endN (endsOf (l.take k)) (endsOf (l.take k)).length := ⟨_, rfl⟩
              rw [show ({ D := DR, nm := nm, es := endsOf (l.take k), du := 0, er := .nilIface } : Hs).es = endsOf (l.take k) from rfl, ← hZ] at hsz2
              rw [← hZ] at htk hzb
              rw [hes] at hpv5
              have hxb : x.bytes.length ≤ 131068 := HPR.out.2.1 _ (List.mem_of_getElem? hlk)
              have ixb : (x.bytes.length : Int) ≤ 131068 := by omega
              have iZ : (Z : Int) ≤ 2147483647 := by have := HPR.out.2.2; omega
              have iZ0 : (0 : Int) ≤ (Z : Int) := by omega
              have g0 := hcell_of (hr.jrn).head 0
              have g1 := hcell_of (hr.jrn).head 1
              have g2 := hcell_of (hr.jrn).head 2
              have g3 := hcell_of (hr.jrn).head 3
              have g4 := hcell_of (hr.jrn).head 4
              simp only [List.getElem?_toArray, List.getElem?_cons_zero, List.getElem?_cons_succ] at g0 g1 g2 g3 g4
              subst hpv5
              obtain ⟨xl, hxl⟩ : ∃ xl, xl = x.bytes.length := ⟨_, rfl⟩
              rw [← hxl] at q1 ixb htk
              have ixl0 : (0 : Int) ≤ (xl : Int) := by omega
              have g2' : wr.drew.cell? ⟨j, 2, none⟩ = some (.slice pv5 k cv5) := g2
              have HTK := Lib.hid (And.intro htk (And.intro hel (And.intro hG hxl)))
              have HSZ2 := Lib.hid (jsize_any (hr.quiet ((Chg.refl (fun _ => False) wr).drew)).jrn (by rw [hes]; have := HNL.out.2.1; have := HPR.out.1; omega))
              rw [show ({ D := DR, nm := nm, es := endsOf (l.take k), du := 0, er := .nilIface } : Hs).es = endsOf (l.take k) from rfl] at HSZ2
              have HSZ3 : Hid (Calls Tryd.prog 32 #[.pointer (some ⟨j, 0, none⟩)] wr.drew fun e w' => e = .returned (.int .i64 (Z : Int)) ∧ wr.drew = w') := Lib.hid (by rw [hZ]; exact HSZ2.out)
              have HHR := Lib.hid hr
              have HKN := Lib.hid (And.intro hk hkl)
              clear hMk hrec hx hlk hr hG hel hes hsz2 hzb htk hZ hxb hxl g0 g1 g2 g3 g4 HSZ2
              go_wp2
              refine Rx.wt_region (fun W => W.cell? ⟨j, 2, none⟩ = some (.slice pv5 k cv5)) 15 [(5, .r), (0, .h), (1, .h), (2, .h), (3, .h), (8, .h), (4, .h), (9, .h), (6, .e), (7, .r), (10, .r), (11, .e), (12, .e), (13, .r), (14, .r), (15, .e)] (by kernel_rfl) (by kernel_rfl) (by kernel_rfl) g2' (fun _ _ x _ _ h => (by cases x <;> exact h)) ?_
              (refine Rx.wt_q rfl rfl ?_; go_wp2; refine Rx.atS_mk ?_)
              iterate 7 (refine Rx.wt_h (v := ?_) rfl rfl ?_ ?_; rotate_left; (intro w' hS'; go_simp; try with_reducible rfl))
              refine Rx.wt_e rfl ?_
              go_wp2_with (first | (go_at_call 32; refine stop ?_))
              refine go ?_
              refine HSZ3.out.mono ?_
              rintro e w' ⟨rfl, rfl⟩
              go_wp2
              refine ⟨fun _ => g2', ?_⟩
              iterate 2 (refine Rx.wt_q rfl rfl ?_; go_wp2; refine Rx.atS_mk ?_)
              refine Rx.wt_e rfl ?_
              go_wp2
              rw [show (Z : Int) + 16 + (xl : Int) = ((Z + (xl + 16) : Nat) : Int) by omega]
              have hca : Chg (fun _ => False) wr (wr.alloc (.cells #[.int .i64 ((Z + (xl + 16) : Nat) : Int)] 3)).drew := ((Chg.refl _ wr).alloc _).drew
              have r6 := HHR.out.quiet hca
              have g0 := hcell_of (r6.jrn).head 0
              have g1 := hcell_of (r6.jrn).head 1
              have g2 := hcell_of (r6.jrn).head 2
              have g3 := hcell_of (r6.jrn).head 3
              have g4 := hcell_of (r6.jrn).head 4
              simp only [List.getElem?_toArray, List.getElem?_cons_zero, List.getElem?_cons_succ] at g0 g1 g2 g3 g4
              refine ⟨fun _ => g2, ?_⟩
              have R6 := Lib.hid r6
              have HCA := Lib.hid hca
              have hnew : RC (wr.alloc (.cells #[.int .i64 ((Z + (xl + 16) : Nat) : Int)] 3)).drew 1 (.slice (some ⟨wr.heap.size, 0, none⟩) 1 1) [intV (Z + (xl + 16))].length [intV (Z + (xl + 16))] := RC.chg (OC_new wr 1 3 #[.int .i64 ((Z + (xl + 16) : Nat) : Int)] 1 1 (by decide) (by unfold maxLen; decide) rfl).rc ((Chg.refl (fun _ => False) _).drew) fun _ _ h => h
              generalize (wr.alloc (.cells #[.int .i64 ((Z + (xl + 16) : Nat) : Int)] 3)).drew = wa at R6 HCA hnew g0 g1 g2 g3 g4 r6 hca ⊢
              have HNW := Lib.hid hnew
              clear r6 hca hnew g0 g1 g3 g4
              refine Rx.wt_e rfl ?_
              refine wpList_append_ints rfl _ _ rfl (v := .slice pv5 k cv5) (l := (endsOf (l.take k)).map intV) (m := [intV (Z + (xl + 16))]) rfl rfl (by rw [List.length_map]; exact R6.out.jrn.oc) HNW.out (by simp [intV, Value.oneCell']) (by rw [List.length_map, HTK.out.2.1]; have := HKN.out.1; have := HNL.out.2.1; have := HPR.out.1; simp; omega) ?_
              intro pv6 lv6 cv6 w6 a1 a2 a3 a4
              have hoc : OC w6 1 3 (.slice pv6 lv6 cv6) (endsOf (l.take (k + 1))).length ((endsOf (l.take (k + 1))).map intV) := by
                rw [HTK.out.1, List.map_append, List.length_append]
                rw [List.length_append, List.length_map] at a1
                exact a1
              have hne : sblk (.slice pv5 k cv5) ≠ some j := R6.out.jrn.ne
              have hgr := HHR.out.grow HCA.out hoc a3 a4
              have hh6 : w6.heap[j]? = _ := (a3.block j (R6.out.jrn.lt j (mem_jbl.2 (.inl rfl))) hne).trans R6.out.jrn.head
              have k2 := hcell_of hh6 2
              have z2 := hfree_of hh6 2
              simp only [List.getElem?_toArray, List.getElem?_cons_zero, List.getElem?_cons_succ] at k2
              have HGR := Lib.hid hgr
              clear a1 a2 a3 a4 hoc hgr hh6 g2 g2' hne
              go_wp2
              refine ⟨k2, ?_⟩
              iterate 2 (refine Rx.wt_q rfl rfl ?_; go_wp2; refine Rx.atS_mk ?_)
              refine Rx.wt_e rfl ?_
              go_wp2
              refine ⟨by simp, ?_⟩
              refine Rx.wt_nil ?_
              clear k2 z2 q1
              go_wp2
              go_roundw
              case rel =>
                refine ⟨k + 1, by go_num, by omega, _, HMK.out.turn (y := Ent.house d j ⟨DR, nm, endsOf (l.take (k + 1)), 0, .nilIface⟩ _) ⟨Fk, .slice pv6 lv6 cv6, HGR.out.1, rfl⟩ (good_house _ _ _ _) ?_⟩
                rw [HTK.out.2.2.1]
                exact HGR.out.2
              case measure => simp [Lib.intOf]; omega
            · obtain ⟨Fk, vk, hr, hG⟩ := hMk.first
              have hkN : k = N := by omega
              have hsu := hr.sure N
              have z3 := hfree_of hr.jrn.head 3
              have g0 := hcell_of (hr.jrn).head 0
              have g1 := hcell_of (hr.jrn).head 1
              have g2 := hcell_of (hr.jrn).head 2
              have g3 := hcell_of (hr.jrn).head 3
              have g4 := hcell_of (hr.jrn).head 4
              simp only [List.getElem?_toArray, List.getElem?_cons_zero, List.getElem?_cons_succ] at g0 g1 g2 g3 g4
              have HHR := Lib.hid (And.intro hsu (And.intro hG hkN))
              clear hMk hr hG hsu hkN g0 g1 g2 g4
              have m9 := HMK.out.turn (y := Ent.house d j ⟨DR, nm, endsOf l, l.length, .nilIface⟩ (Fk ++ jbl j vk)) (w' := wr.setCell ⟨j, 3, none⟩ (.int .i64 (N : Int))) (by
                have h2 := HHR.out.1.1
                have e1 : l.take k = l := by rw [HHR.out.2.2, HNL.out.2.1, List.take_length]
                rw [e1] at h2
                rw [← HNL.out.2.1]
                exact ⟨Fk, vk, h2, rfl⟩) (good_house _ _ _ _) (by rw [HHR.out.2.1]; exact HHR.out.1.2)
              have M9 := Lib.hid m9
              clear m9
              go_wp2
              (try simp only [Exit.inBlock, Exit.then])
              refine bodyPost_ret (results_tmp4 rfl _ _ _) rfl ?_
              have hf1 := HFIN.out.1
              first
              | exact .inl ⟨HFIN.out.2, j, _, .slice pr N cr, by simp [hf1], ls, HNL.out.2.2, M9.out⟩
              | exact .inl ⟨HFIN.out.2, j, _, .slice pr N cr, ls, by simp [hf1], HNL.out.2.2, M9.out⟩
    · have b2 : ((S2 : Int) == 0) = false := by rw [beq_eq_false_iff_ne]; omega
      have hfin : at_ = 0 ∧ code = S2 ∧ DR = D := by
        have h1 := HW.out
        unfold openR at h1
        rw [HRD.out.1, if_neg h112, if_pos h0] at h1
        simp at h1
        exact ⟨h1.2.2.1.symm, h1.2.2.2.1.symm, h1.2.2.2.2.symm⟩
      obtain ⟨rfl, rfl, rfl⟩ := hfin
      have hfin : code ≠ 0 ∧ DR = DR := ⟨h0, rfl⟩
      have mX : Many W w1 (Ent.disk d DR F1 :: L) := M2.out.sub (by simp)
      clear h112 h0
      have hfa := fault_any (HG.out.chg mX.chg) nOpen (0 : Int) code
      unfold errV at hfa
      have HFA := Lib.hid hfa
      have MX := Lib.hid mX
      have HFIN := Lib.hid hfin
      clear hfa mX hfin
      (try simp only [show ((0 : Nat) : Int) = 0 from rfl] at HFA ⊢)
      go_wp2_with (first | (go_at_call 26; refine stop ?_))
      refine go ?_
      refine HFA.out.mono ?_
      rintro e w9 ⟨b, rfl, hbn, hb, c9⟩
      have m9 := (MX.out.add (y := Ent.box b (faultO nOpen (0 : Int) code)) c9 hb (good_box _ _) (fun k hk => by
        obtain rfl : k = b := by simpa [Ent.box] using hk
        exact hbn)).swap12
      have M9 := Lib.hid m9
      clear hbn hb c9 m9
      go_wp2
      (try simp only [Exit.inBlock, Exit.then])
      refine bodyPost_ret (results_tmp4 rfl _ _ _) rfl ?_
      first | exact .inr ⟨HFIN.out.1, b, _, by simp, M9.out⟩ | exact .inr ⟨HFIN.out.1, b, by simp, _, M9.out⟩
end
end Go.Proofs
