/- opens, where the disk runs and what is found is a beginning of what was appended. Conditions: each sentence's own; the listed variables lie as they were laid. -/
import Derived.Test.YtaiaghfckhgnnaaGreatDoorJ6
import Derived.Test.YtaiaghfckhgnnaaGreatDoorD9
namespace Go.Proofs
open Go.RowKit Go.Hp Go.Dm Go.Dr Go.Jn
set_option linter.unusedVariables false
set_option maxRecDepth 10000
section
variable {W w : World} {L : List Ent} {hb d j0 su : Nat} {hp : Option Addr} {hc : Nat} {lv : Value} {kp : Int} {hs : List LF} {D DR : Dk} {F : List Nat} {rs : List (List UInt8)} {cut at_ : Nat}
set_option maxHeartbeats 64000000 in
theorem opens_all (hg : Gl W) (hm : Many W w (Ent.box hb (houseO d j0 (.slice hp hs.length hc) su lv kp) :: Ent.disk d D F :: Ent.recs (.slice hp hs.length hc) hs :: L))
    (hB : (bytesOf D.files nL).length ≤ 2147483647) (hR : openR D nL = (rs, cut, at_, 0, DR)) (hup : DR.down = false) (hdur : Dur rs DR.files) (hz : (fileOf 0 rs).length ≤ 1048576) (hr : ∀ x ∈ rs, x.length ≤ 131068)
    (hn : hs.length ≤ 1000) (hsu : su ≤ rs.length) (hle : rs.length ≤ hs.length) (he : rs = (hs.map LF.bytes).take rs.length) :
    Calls Tryz.prog 26 #[.pointer (some ⟨hb, 0, none⟩), .int .i64 (rs.length : Int)] w fun e w' => e = .returned (.bool true) ∧ ∃ j hp' hc' hs' G', hs'.map LF.bytes = rs ∧
      Many W w' (Ent.box hb (houseO d j (.slice hp' hs'.length hc') hs'.length (.slice none 0 0) kp) :: Ent.house d j ⟨{ DR with steps := 0, keep := 0 }, nL, endsOf rs, rs.length, .nilIface⟩ G' :: Ent.recs (.slice hp' hs'.length hc') hs' :: L) := by
  have HOP := Lib.hid (open_any hg hm.swap12 (show nL.size ≤ maxLen by decide) hB hR)
  have hbx : w.heap[hb]? = _ := hm.first
  unfold houseO at hbx
  have q0 := hcell_of hbx 0
  have q1 := hcell_of hbx 1
  have q2 := hcell_of hbx 2
  simp only [List.getElem?_toArray, List.getElem?_cons_zero, List.getElem?_cons_succ] at q0 q1 q2
  have HBX := Lib.hid (And.intro q0 (And.intro q1 q2))
  have HP := Lib.hid (And.intro hg (And.intro hm (And.intro hn (And.intro hsu (And.intro hle he)))))
  have HD := Lib.hid (And.intro hup (And.intro hdur (And.intro hz hr)))
  obtain ⟨nw, hnw⟩ : ∃ nw, nw = rs.length := ⟨_, rfl⟩
  rw [← hnw]
  have HNW := Lib.hid hnw
  clear hg hm hB hR hup hdur hz hr hn hsu hle he hbx q0 q1 q2 hnw
  -- the journal is opened; the records are copied
  obtain ⟨q0, q1z, q2z⟩ := HBX.out
  go_enter Tryz.func26, Tryz.ntmps26
  go_wp2_with (first | (go_at_call 17; refine stop ?_))
  refine go ?_
  refine HOP.out.mono ?_
  rintro e w1 (⟨-, j, G, rv, ls, rfl, hls, m2⟩ | ⟨h, -⟩)
  case inr => exact absurd rfl h
  have hrec : Recs w1 rv ls := m2.get (x := Ent.recs rv ls) (by simp)
  obtain ⟨p1, c1, rfl, hcap1, -⟩ := id hrec.oc
  have hlsl : ls.length = rs.length := by rw [← hls, List.length_map]
  have hrec0 : Recs w1 (.slice hp hs.length hc) hs := m2.get (x := Ent.recs (.slice hp hs.length hc) hs) (by simp)
  have hbx1 : w1.heap[hb]? = _ := m2.get (x := Ent.box hb (houseO d j0 (.slice hp hs.length hc) su lv kp)) (by simp)
  have hfit := fits_pre hbx1 hrec0.rows hrec.rows (by have := HP.out.2.2.1; omega) (by rw [hlsl]; exact HP.out.2.2.2.1) (by rw [hlsl]; exact HP.out.2.2.2.2.1) (by rw [hls, hlsl]; exact HP.out.2.2.2.2.2)
  obtain ⟨N, hN⟩ : ∃ N, N = ls.length := ⟨_, rfl⟩
  rw [← hN] at hfit m2 hcap1 hlsl ⊢
  have HFIT := Lib.hid hfit
  obtain ⟨F1, u1, hraw1, hG1⟩ := m2.first
  have hel : (endsOf rs).length = N := by rw [endsOf_len, hlsl]
  have hle1 := fun U (hU : Chg (fun _ => False) w1 U) => jlen_any (hraw1.quiet hU).jrn
  have hdu1 := fun U (hU : Chg (fun _ => False) w1 U) => jdurable_any (hraw1.quiet hU).jrn
  simp only [hel, ← hlsl] at hle1 hdu1
  have HLE := Lib.hid hle1
  have HDU := Lib.hid hdu1
  have iN : (N : Int) ≤ 1000 := by have := HP.out.2.2.1; have := HP.out.2.2.2.2.1; omega
  have iN0 : (0 : Int) ≤ (N : Int) := by omega
  have icap1 : (N : Int) ≤ (c1 : Int) := by omega
  obtain rfl : N = nw := by rw [HNW.out]; exact hlsl
  have dN : decide ((0 : Int) ≤ (N : Int)) = true := decide_eq_true iN0
  have HN := Lib.hid (And.intro hN (And.intro hlsl hls))
  have M2 := Lib.hid m2
  clear hrec hrec0 hbx1 hfit hN hlsl hls hraw1 hG1 hel hle1 hdu1 m2 hcap1 q0 q1z q2z
  go_wp2_with (first | (go_at_call 61; refine stop ?_))
  refine go ?_
  refine HFIT.out.mono ?_
  rintro e w2 ⟨rfl, c2⟩
  have m3 := (M2.out.quiet c2).front3
  have hbx2 := m3.first
  change w2.heap[hb]? = _ at hbx2
  unfold houseO at hbx2
  have z1 := hfree_of hbx2 1
  have z2 := hfree_of hbx2 2
  have k1 := hcell_of hbx2 1
  have k2 := hcell_of hbx2 2
  simp only [List.getElem?_toArray, List.getElem?_cons_zero, List.getElem?_cons_succ] at k1 k2
  have m4 := (m3.setBox (i := 1) (v := .pointer (some ⟨j, 0, none⟩)) rfl)
  have m5 := (m4.setBox (i := 2) (v := .slice none 0 0) rfl)
  have hbx5 := m5.first
  change ((w2.setCell ⟨hb, 1, none⟩ (.pointer (some ⟨j, 0, none⟩))).setCell ⟨hb, 2, none⟩ (.slice none 0 0)).heap[hb]? = some (houseO d j (.slice none 0 0) su lv kp) at hbx5
  have hbx4 := m4.first
  change (w2.setCell ⟨hb, 1, none⟩ (.pointer (some ⟨j, 0, none⟩))).heap[hb]? = some (houseO d j (.slice hp hs.length hc) su lv kp) at hbx4
  unfold houseO at hbx4
  have z2' := hfree_of hbx4 2
  have k2' := hcell_of hbx4 2
  simp only [List.getElem?_toArray, List.getElem?_cons_zero, List.getElem?_cons_succ] at k2'
  have m6 : Many W ((w2.setCell ⟨hb, 1, none⟩ (.pointer (some ⟨j, 0, none⟩))).setCell ⟨hb, 2, none⟩ (.slice none 0 0)) (Ent.box hb (houseO d j (.slice none 0 0) su lv kp) :: Ent.house d j ⟨DR, nL, endsOf rs, rs.length, .nilIface⟩ G :: Ent.recs (.slice p1 N c1) ls :: L) := Many.sub m5 (.cons_cons _ (.cons_cons _ (.cons_cons _ (.cons _ (List.Sublist.refl _)))))
  have m7 := (m6.add (y := Ent.recs (.slice none 0 0) []) (Chg.refl _ _) (Recs.nil _) (good_recs _ _) (by simp [Ent.recs, rblks, sblk])).back3
  have C2 := Lib.hid c2
  have M7 := Lib.hid m7
  clear c2 m3 hbx2 m4 m5 m6 m7 hbx4 hbx5
  go_wp2_with (first | (go_at_call 25; refine stop ?_))
  refine go ?_
  refine (HLE.out _ C2.out).mono ?_
  rintro e w' ⟨rfl, rfl⟩
  go_wp2_with (first | (go_at_call 44; refine stop ?_))
  refine go ?_
  refine (HDU.out _ C2.out).mono ?_
  rintro e w' ⟨rfl, rfl⟩
  go_wp2
  go_loopw [10] (fun t10 wr => ∃ (hp2 : Option Addr) (hc2 : Nat) (hs2 : List LF), t10 = .int .i64 (hs2.length : Int) ∧ hs2.length ≤ N ∧ hs2.map LF.bytes = rs.take hs2.length ∧
    Many W wr (Ent.box hb (houseO d j (.slice hp2 hs2.length hc2) su lv kp) :: Ent.house d j ⟨DR, nL, endsOf rs, rs.length, .nilIface⟩ G :: Ent.recs (.slice hp2 hs2.length hc2) hs2 :: Ent.recs (.slice p1 N c1) ls :: L)) (fun t10 _ => N - (Lib.intOf t10).toNat)
  case atStart => exact ⟨none, 0, [], rfl, Nat.zero_le _, by simp, M7.out⟩
  case round =>
    obtain ⟨hp2, hc2, hs2, rfl, hi, hbs, hM⟩ := hrel
    obtain ⟨i, hid⟩ : ∃ i, i = hs2.length := ⟨_, rfl⟩
    rw [← hid] at hi hbs hM ⊢
    have ii0 : (0 : Int) ≤ (i : Int) := by omega
    have iiN : (i : Int) ≤ (N : Int) := by omega
    have HR := Lib.hid (And.intro hid (And.intro hi (And.intro hbs hM)))
    by_cases hil : (i : Int) < (N : Int)
    · have d1 : decide ((i : Int) < (N : Int)) = true := decide_eq_true hil
      have d1n : decide (i < N) = true := decide_eq_true (by omega)
      have hrec : Recs wr (.slice p1 N c1) ls := hM.get (x := Ent.recs (.slice p1 N c1) ls) (by simp)
      obtain ⟨x, hx⟩ : ∃ x, ls[i]? = some x := ⟨_, List.getElem?_eq_getElem (by have := HN.out.1; omega)⟩
      obtain ⟨rb, rfl⟩ := OC.blk1 hrec.oc (by have := HN.out.1; omega)
      have q1 := (OC.atk hrec.oc (j := i) (u := x.sv) (by rw [List.getElem?_map, hx]; rfl)).1
      change wr.cell? ⟨rb, i, none⟩ = some (.slice x.p x.bytes.length x.cap) at q1
      have hxr : rs[i]? = some x.bytes := by rw [← HN.out.2.2, List.getElem?_map, hx]; rfl
      have hxb : x.bytes.length ≤ 131068 := HD.out.2.2.2 _ (List.mem_of_getElem? hxr)
      have hxo : OB wr 5 x.sv x.bytes := hrec.each x (List.mem_of_getElem? hx)
      have hcp := copied_any (w := wr.drew) (l := x.bytes) (by omega) (RC.chg (OB.rb hxo) ((Chg.refl (fun _ => False) wr).drew) fun _ _ h => h)
      change Calls Tryz.prog 11 #[.slice x.p x.bytes.length x.cap] wr.drew (FreshB wr.drew x.bytes) at hcp
      have HCP := Lib.hid hcp
      have hbx := hM.first
      change wr.heap[hb]? = _ at hbx
      unfold houseO at hbx
      have g2 := hcell_of hbx 2
      simp only [List.getElem?_toArray, List.getElem?_cons_zero, List.getElem?_cons_succ] at g2
      have g2' : wr.drew.cell? ⟨hb, 2, none⟩ = some (.slice hp2 i hc2) := g2
      obtain ⟨xl, hxl⟩ : ∃ xl, xl = x.bytes.length := ⟨_, rfl⟩
      rw [← hxl] at q1 HCP
      have HX := Lib.hid (And.intro hxr (And.intro hxb (And.intro g2 hxl)))
      have ixl : (xl : Int) ≤ 131068 := by omega
      have ixl0 : (0 : Int) ≤ (xl : Int) := by omega
      clear hrec hx hxr hxb hxo hcp hbx g2 hi hbs hM hid hxl
      go_wp2
      refine Rx.wt_region (fun W => W.cell? ⟨hb, 2, none⟩ = some (.slice hp2 i hc2)) 14 [(5, .r), (6, .r), (7, .r), (8, .r), (0, .h), (1, .h), (2, .h), (3, .h), (4, .h), (9, .e), (10, .e), (11, .e), (12, .r), (13, .r), (14, .e)] (by kernel_rfl) (by kernel_rfl) (by kernel_rfl) g2' (fun _ _ x _ _ h => (by cases x <;> exact h)) ?_
      iterate 4 (refine Rx.wt_q rfl rfl ?_; go_wp2; refine Rx.atS_mk ?_)
      iterate 5 (refine Rx.wt_h (v := ?_) rfl rfl ?_ ?_; rotate_left; (intro w' hS'; go_simp; try with_reducible rfl))
      refine Rx.wt_e rfl ?_
      go_wp2_with (first | (go_at_call 11; refine stop ?_))
      refine go ?_
      refine HCP.out.mono ?_
      rintro e w4 ⟨v4, rfl, o4, c4, n4⟩
      obtain ⟨p4, cc4, rfl, -⟩ := id o4
      rw [← HX.out.2.2.2]
      have c4' : Chg (fun _ => False) wr w4 := ((Chg.refl (fun _ => False) wr).drew).trans c4 fun _ h => h.elim
      have m4 := ((HR.out.2.2.2.addBytes o4 c4' n4).front4).swap12
      have C4 := Lib.hid c4'
      have M4 := Lib.hid m4
      clear o4 c4 n4 c4' m4 g2'
      go_wp2
      refine ⟨fun _ => Chg.cellSome C4.out HX.out.2.2.1, ?_⟩
      refine Rx.wt_e rfl ?_
      go_wp2
      have hc6 : Chg (fun _ => False) w4 (w4.alloc (.cells #[.slice p4 xl cc4] 23)) := (Chg.refl _ w4).alloc _
      refine ⟨fun _ => Chg.cellSome (C4.out.alloc _) HX.out.2.2.1, ?_⟩
      have hrec6 : Recs (w4.alloc (.cells #[.slice p4 xl cc4] 23)) (.slice hp2 i hc2) hs2 := (M4.out.quiet hc6).get (x := Ent.recs (.slice hp2 i hc2) hs2) (by simp)
      have HR6 := Lib.hid (And.intro hc6 hrec6)
      clear hc6 hrec6
      refine Rx.wt_e rfl ?_
      refine wpList_append_rows rfl _ _ rfl (v := .slice hp2 i hc2) (l := hs2.map LF.sv) (m := [.slice p4 xl cc4]) rfl rfl (by rw [List.length_map]; exact HR6.out.2.oc) (OC_new w4 1 23 #[.slice p4 xl cc4] 1 1 (by decide) (by unfold maxLen; decide) rfl).rc (by simp [Value.oneCell']) (by rw [List.length_map, ← HR.out.1]; simp; omega) ?_
      intro hp7 lv7 hc7 w7 b1 b2 b3 b4
      have hxs : (⟨⟨#[]⟩, p4, cc4, x.bytes, 0⟩ : LF).sv = .slice p4 xl cc4 := by show Value.slice p4 x.bytes.length cc4 = _; rw [← HX.out.2.2.2]
      have hm6 := M4.out
      change Many W w4 (Ent.bytes (⟨⟨#[]⟩, p4, cc4, x.bytes, 0⟩ : LF).sv x.bytes :: Ent.recs (.slice hp2 i hc2) hs2 :: _) at hm6
      have m9 := (hm6.pushRec HR6.out.1 (by rw [hxs]; exact b1) b3 b4).swap12
      have hlv : lv7 = i + 1 := by rw [b2, List.length_map, ← HR.out.1]; rfl
      subst hlv
      have hbx7 : w7.heap[hb]? = _ := m9.first
      unfold houseO at hbx7
      have z2 := hfree_of hbx7 2
      have k2 := hcell_of hbx7 2
      simp only [List.getElem?_toArray, List.getElem?_cons_zero, List.getElem?_cons_succ] at k2
      have m11 := (m9.setBox (i := 2) (v := .slice hp7 (i + 1) hc7) rfl).swap23
      have M11 := Lib.hid m11
      clear b1 b2 b3 b4 hxs hm6 m9 m11 hbx7
      go_wp2
      refine ⟨fun _ => k2, ?_⟩
      iterate 2 (refine Rx.wt_q rfl rfl ?_; go_wp2; refine Rx.atS_mk ?_)
      refine Rx.wt_e rfl ?_
      go_wp2
      refine ⟨by simp, ?_⟩
      refine Rx.wt_nil ?_
      clear k2 z2 q1
      go_wp2
      go_roundw
      case rel =>
        have hl7 : (hs2 ++ [(⟨⟨#[]⟩, p4, cc4, x.bytes, 0⟩ : LF)]).length = i + 1 := by rw [List.length_append, ← HR.out.1]; rfl
        refine ⟨hp7, hc7, hs2 ++ [(⟨⟨#[]⟩, p4, cc4, x.bytes, 0⟩ : LF)], ?_, ?_, ?_, ?_⟩
        · rw [hl7]; go_num
        · rw [hl7]; omega
        · rw [hl7, List.map_append, HR.out.2.2.1, List.take_add_one, HX.out.1]; rfl
        · rw [hl7]; exact M11.out
      case measure => simp [Lib.intOf]; omega
    · have d1 : decide ((i : Int) < (N : Int)) = false := decide_eq_false hil
      have d1n : decide (i < N) = false := decide_eq_false (by omega)
      have hiN : i = N := by omega
      clear hid hi hbs hM
      subst hiN
      have hbs2 : hs2.map LF.bytes = rs := by rw [HR.out.2.2.1, HN.out.2.1, List.take_length]
      have HB2 := Lib.hid hbs2
      have hM := HR.out.2.2.2
      have hbx := hM.first
      change wr.heap[hb]? = _ at hbx
      unfold houseO at hbx
      have z3 := hfree_of hbx 3
      have k3 := hcell_of hbx 3
      simp only [List.getElem?_toArray, List.getElem?_cons_zero, List.getElem?_cons_succ] at k3
      have m1 := hM.setBox (i := 3) (v := .int .i64 (i : Int)) rfl
      have hbx1 := m1.first
      change (wr.setCell ⟨hb, 3, none⟩ (.int .i64 (i : Int))).heap[hb]? = some (houseO d j (.slice hp2 i hc2) i lv kp) at hbx1
      unfold houseO at hbx1
      have z4 := hfree_of hbx1 4
      have k4 := hcell_of hbx1 4
      simp only [List.getElem?_toArray, List.getElem?_cons_zero, List.getElem?_cons_succ] at k4
      have m2 := m1.setBox (i := 4) (v := .slice none 0 0) rfl
      change Many W ((wr.setCell ⟨hb, 3, none⟩ (.int .i64 (i : Int))).setCell ⟨hb, 4, none⟩ (.slice none 0 0)) (Ent.box hb (houseO d j (.slice hp2 i hc2) i (.slice none 0 0) kp) :: _) at m2
      have hbx2 := m2.first
      change ((wr.setCell ⟨hb, 3, none⟩ (.int .i64 (i : Int))).setCell ⟨hb, 4, none⟩ (.slice none 0 0)).heap[hb]? = _ at hbx2
      unfold houseO at hbx2
      have k0 := hcell_of hbx2 0
      simp only [List.getElem?_toArray, List.getElem?_cons_zero] at k0
      have m3 := m2.swap12
      obtain ⟨F3, u3, hraw3, hG3⟩ := m3.first
      have harm := arm_any 0 0 (by decide) (by decide) (by decide) hraw3.disk
      have ha0 : DR.arm 0 0 = (0, { DR with steps := 0, keep := 0 }) := by
        unfold Dk.arm
        rw [if_neg (by rw [HD.out.1]; simp), if_neg (by simp)]
        rfl
      rw [show ({ D := DR, nm := nL, es := endsOf rs, du := rs.length, er := .nilIface } : Hs).D = DR from rfl, ha0] at harm
      have HARM := Lib.hid harm
      have M3 := Lib.hid (And.intro m3 (And.intro hG3 hraw3))
      clear hbs2 hM hbx m1 hbx1 m2 hbx2 m3 hraw3 hG3 harm ha0
      go_wp2_with (first | (go_at_call 29; refine stop ?_))
      refine go ?_
      refine HARM.out.mono ?_
      rintro e w3 ⟨rfl, h3, v3⟩
      obtain ⟨DA, hDA⟩ : ∃ DA, DA = ({ DR with steps := 0, keep := 0 } : Dk) := ⟨_, rfl⟩
      rw [← hDA] at h3
      have HDA : Hid (DA.down = false ∧ Dur rs DA.files) := Lib.hid ⟨by rw [hDA]; exact HD.out.1, by rw [hDA]; exact HD.out.2.1⟩
      obtain ⟨F4, hraw4, ev4⟩ := M3.out.2.2.left ⟨F3, h3, v3⟩
      obtain ⟨G4, m4⟩ := M3.out.1.housed (by rw [M3.out.2.1]; exact ⟨_, ⟨F4, u3, hraw4, rfl⟩, ev4⟩)
      change Many W w3 (Ent.house d j ⟨DA, nL, endsOf rs, rs.length, .nilIface⟩ G4 :: _) at m4
      obtain ⟨F5, u5, hraw5, hG5⟩ := m4.first
      have hfl : DA.files.length ≤ 1 := by rcases HDA.out.2 with ⟨h, -⟩ | h <;> rw [h] <;> simp
      have hfa := files_any (w := w3) (by show DA.files.length ≤ _; omega) hraw5.disk
      have HFA := Lib.hid hfa
      have hbx : w3.heap[hb]? = _ := m4.get (x := Ent.box hb (houseO d j (.slice hp2 i hc2) i (.slice none 0 0) kp)) (by simp)
      unfold houseO at hbx
      have g0 := hcell_of hbx 0
      simp only [List.getElem?_toArray, List.getElem?_cons_zero] at g0
      have HDE := Lib.hid hDA
      have M4 := Lib.hid m4
      clear h3 v3 hDA hraw4 ev4 m4 hraw5 hG5 hfa hbx z3 k3 z4 k4 k0 hfl
      go_wp2_with (first | (go_at_call 18; refine stop ?_))
      refine go ?_
      refine HFA.out.mono ?_
      rintro e w4 ⟨vf, lf, rfl, hf1, hf2, hf3, c4⟩
      have m5 := (M4.out.filesOf hf1 hf3 c4).swap12
      obtain ⟨pf, cf, rfl, -⟩ := id hf1.sl
      obtain ⟨F6, u6, m6⟩ := m5.unjoin
      have hoc := open_clean HDA.out.1 HDA.out.2 HD.out.2.2.2
      have hop := open_any HP.out.1 m6 (show nL.size ≤ maxLen by decide) (by rw [hoc.2]; have := HD.out.2.2.1; omega) hoc.1
      have HOP2 := Lib.hid hop
      have hbx : w4.heap[hb]? = _ := m6.get (x := Ent.box hb (houseO d j (.slice hp2 i hc2) i (.slice none 0 0) kp)) (by simp)
      unfold houseO at hbx
      have k0 := hcell_of hbx 0
      simp only [List.getElem?_toArray, List.getElem?_cons_zero] at k0
      have HF2 := Lib.hid hf2
      clear hf1 hf2 hf3 c4 m5 m6 hoc hop hbx g0
      go_wp2_with (first | (go_at_call 17; refine stop ?_))
      refine go ?_
      refine HOP2.out.mono ?_
      rintro e w5 (⟨-, j2, G2, rv2, ls2, rfl, hls2, m7⟩ | ⟨h, -⟩)
      case inr => exact absurd rfl h
      have hrec2 : Recs w5 rv2 ls2 := m7.get (x := Ent.recs rv2 ls2) (by simp)
      obtain ⟨p2, c2, rfl, -⟩ := id hrec2.oc
      have hrecH : Recs w5 (.slice hp2 i hc2) hs2 := m7.get (x := Ent.recs (.slice hp2 i hc2) hs2) (by simp)
      have hil2 : hs2.length = i := HR.out.1.symm
      have hln2 : ls2.length = i := by have := congrArg List.length hls2; rw [List.length_map] at this; rw [this]; exact HN.out.2.1.symm
      have heq2 := eqAll_same (ls := ls2) (ms := hs2) (p := p2) (c := c2) (q := hp2) (c' := hc2) hrec2.rows (by rw [hil2]; exact hrecH.rows) (by rw [hls2, HB2.out]) (by omega)
      rw [hil2, hln2] at heq2
      rw [hln2] at m7 ⊢
      have HEQ2 := Lib.hid heq2
      have hbx : w5.heap[hb]? = _ := m7.get (x := Ent.box hb (houseO d j (.slice hp2 i hc2) i (.slice none 0 0) kp)) (by simp)
      unfold houseO at hbx
      have g2 := hcell_of hbx 2
      simp only [List.getElem?_toArray, List.getElem?_cons_zero, List.getElem?_cons_succ] at g2
      have M7b := Lib.hid (And.intro m7 (And.intro hil2 hln2))
      clear hls2 m7 hrec2 hrecH hil2 hln2 heq2 hbx k0
      simp only [show ((0 : Nat) : Int) = 0 from rfl]
      go_wp2_with (first | (go_at_call 12; refine stop ?_))
      refine go ?_
      refine HEQ2.out.mono ?_
      rintro e w6 ⟨rfl, c6⟩
      have m8 := M7b.out.1.quiet c6
      obtain ⟨F8, u8, hraw8, hG8⟩ := m8.first
      have hfl : DA.files.length ≤ 1 := by rcases HDA.out.2 with ⟨h, -⟩ | h <;> rw [h] <;> simp
      have hfa2 := files_any (w := w6) (by show DA.files.length ≤ _; omega) hraw8.disk
      have HFA2 := Lib.hid hfa2
      have hbx : w6.heap[hb]? = _ := m8.get (x := Ent.box hb (houseO d j (.slice hp2 i hc2) i (.slice none 0 0) kp)) (by simp)
      unfold houseO at hbx
      have k0 := hcell_of hbx 0
      simp only [List.getElem?_toArray, List.getElem?_cons_zero] at k0
      have M8 := Lib.hid m8
      clear c6 m8 hraw8 hG8 hfl hfa2 hbx g2
      go_wp2_with (first | (go_at_call 18; refine stop ?_))
      refine go ?_
      refine HFA2.out.mono ?_
      rintro e w7 ⟨vg, lg, rfl, hg1, hg2, -, c7⟩
      have m9 := M8.out.quiet c7
      have hff : FilesAt w7 (.slice pf lf.length cf) lf := m9.get (x := Ent.files (.slice pf lf.length cf) lf) (by simp)
      have hfl : DA.files.length ≤ 1 := by rcases HDA.out.2 with ⟨h, -⟩ | h <;> rw [h] <;> simp
      have hgl : lg.length ≤ 1 := by have := congrArg List.length hg2; rw [List.length_map] at this; show lg.length ≤ 1; rw [this]; exact hfl
      have hef := eqFiles_true (by omega) hg1 hff (show lg.map LF.fl = lf.map LF.fl from hg2.trans HF2.out.symm)
      have HEF := Lib.hid hef
      have M9 := Lib.hid m9
      clear hg1 hg2 c7 m9 hff hfl hgl hef k0
      go_wp2_with (first | (go_at_call 24; refine stop ?_))
      refine go ?_
      refine HEF.out.mono ?_
      rintro e w8 ⟨rfl, nd, rfl⟩
      have m10 := M9.out.drewN nd
      have hff : FilesAt (w7.drewN nd) (.slice pf lf.length cf) lf := m10.get (x := Ent.files (.slice pf lf.length cf) lf) (by simp)
      obtain ⟨hgi, hfi⟩ := files_given hff HF2.out HDA.out.2 HD.out.2.2.1
      have hown := own_any hgi
      have HOWN := Lib.hid hown
      have M10 := Lib.hid (And.intro m10 hfi)
      clear m10 hff hgi hfi hown
      go_wp2_with (first | (go_at_call 62; refine stop ?_))
      refine go ?_
      refine HOWN.out.mono ?_
      rintro e w9 ⟨v9, l9, rfl, hi9, hf9, c9⟩
      have m11 := M10.out.1.quiet c9
      obtain ⟨p9, cc9, rfl, -⟩ := id hi9.row
      have hld := load_any (n := 1048576) (by decide) hi9
      have hda := load_dur HDA.out.2 HD.out.2.2.1
      rw [hf9, M10.out.2, hda.1] at hld
      simp only [hda.2, show ((1048576 : Nat) : Int) = 1048576 from rfl] at hld
      have HLD := Lib.hid hld
      have M11 := Lib.hid m11
      clear hi9 hf9 c9 m11 hld hda
      go_wp2_with (first | (go_at_call 42; refine stop ?_))
      refine go ?_
      refine HLD.out.mono ?_
      rintro e w10 (⟨h, -⟩ | ⟨-, d2, F10, rfl, h10, v10⟩)
      case inl => exact absurd rfl h
      have m12 := M11.out.addDisk h10 v10
      have hoc := open_clean (D := ⟨1048576, DA.files, false, 0, 0⟩) rfl HDA.out.2 HD.out.2.2.2
      have hop := open_any HP.out.1 m12 (show nL.size ≤ maxLen by decide) (by rw [hoc.2]; have := HD.out.2.2.1; omega) hoc.1
      have HOP3 := Lib.hid hop
      clear h10 v10 m12 hoc hop
      go_wp2_with (first | (go_at_call 17; refine stop ?_))
      refine go ?_
      refine HOP3.out.mono ?_
      rintro e w11 (⟨-, j3, G3, rv3, ls3, rfl, hls3, m13⟩ | ⟨h, -⟩)
      case inr => exact absurd rfl h
      have hrec3 : Recs w11 rv3 ls3 := m13.get (x := Ent.recs rv3 ls3) (by simp)
      obtain ⟨p3, c3, rfl, -⟩ := id hrec3.oc
      have hrecH : Recs w11 (.slice hp2 i hc2) hs2 := m13.get (x := Ent.recs (.slice hp2 i hc2) hs2) (by simp)
      have hln3 : ls3.length = i := by have := congrArg List.length hls3; rw [List.length_map] at this; rw [this]; exact HN.out.2.1.symm
      have heq3 := eqAll_same (ls := ls3) (ms := hs2) (p := p3) (c := c3) (q := hp2) (c' := hc2) hrec3.rows (by rw [M7b.out.2.1]; exact hrecH.rows) (by rw [hls3, HB2.out]) (by omega)
      rw [M7b.out.2.1, hln3] at heq3
      rw [hln3]
      have HEQ3 := Lib.hid heq3
      have hbx : w11.heap[hb]? = _ := m13.get (x := Ent.box hb (houseO d j (.slice hp2 i hc2) i (.slice none 0 0) kp)) (by simp)
      unfold houseO at hbx
      have g2 := hcell_of hbx 2
      simp only [List.getElem?_toArray, List.getElem?_cons_zero, List.getElem?_cons_succ] at g2
      have m14 := m13.tail.tail
      obtain ⟨F14, m15⟩ := m14.unhouse
      have m16 := (Many.sub m15 (.cons_cons _ (.cons _ (List.Sublist.refl _)))).rejoin
      have m17 := (Many.sub m16 (.cons_cons _ (.cons _ (.cons_cons _ (.cons_cons _ (.cons _ (List.Sublist.refl _))))))).swap12
      have M17 := Lib.hid m17
      clear hls3 m13 hrec3 hrecH hln3 heq3 hbx m14 m15 m16 m17
      simp only [show ((0 : Nat) : Int) = 0 from rfl]
      go_wp2_with (first | (go_at_call 12; refine stop ?_))
      refine go ?_
      refine HEQ3.out.mono ?_
      rintro e w12 ⟨rfl, c12⟩
      have m18 := M17.out.quiet c12
      have M18 := Lib.hid m18
      clear c12 m18 g2
      go_wp2
      go_ret
      have hfin := M18.out
      rw [HDE.out, ← HN.out.2.1] at hfin
      have hl := M7b.out.2.1
      exact ⟨by simp, j, hp2, hc2, hs2, _, HB2.out, by rw [hl]; exact hfin⟩
end
end Go.Proofs
