/- writes, wherever the disk's crash comes. Conditions: the house lies as the pieces say; it holds few records; the listed variables lie as they were laid. -/
import Derived.Test.YtaiaghfckhgnnaaGreatDoorF4
import Derived.Test.YtaiaghfckhgnnaaGreatDoorF2
namespace Go.Proofs
open Go.RowKit Go.Hp Go.Dm Go.Dr Go.Jn
set_option linter.unusedVariables false
set_option maxRecDepth 10000
section
variable {D D1 : Dk} {hv last : List (List UInt8)} {su kp : Nat}
theorem atN_app {l m : List (List UInt8)} {k : Nat} (h : k ≤ l.length) : atN (l ++ m) k = atN l k := by
  unfold atN
  rw [List.take_append_of_le_length h]
/-- what is found behind a crash and Up -/
theorem FJ.found {k : Nat} (h : FJ D hv su kp) (hC : FC D1 (hv ++ last) (atN hv su + k)) : ∃ rs cut DR, rs = (hv ++ last).take (wholeN (hv ++ last) su k) ∧ rs.length = wholeN (hv ++ last) su k ∧ su ≤ rs.length ∧ rs.length ≤ hv.length + last.length ∧
    openR D1.up nL = (rs, cut, 0, 0, DR) ∧ DR.down = false ∧ DR.limit = 1048576 ∧ Dur rs DR.files ∧ (∀ x ∈ rs, x.length ≤ 200) ∧ (bytesOf D1.up.files nL).length ≤ (fileOf 0 (hv ++ last)).length := by
  have hs : su ≤ (hv ++ last).length := by rw [List.length_append]; have := h.su; omega
  obtain ⟨h1, h2, h3, h4⟩ := whole_at (full := hv ++ last) _ (su := su) (k := k) rfl hs
  rw [atN_app h.su] at h3 h4
  obtain ⟨hU, hup, hst⟩ := hC.ups
  rcases hU.opened hup h2 h3 h4 with ⟨-, cut, DR, ho, hd, hl, hdu⟩ | ⟨hst1, -⟩
  · have hlen : ((hv ++ last).take (wholeN (hv ++ last) su k)).length = wholeN (hv ++ last) su k := by rw [List.length_take]; omega
    refine ⟨_, cut, DR, rfl, hlen, by omega, by rw [hlen]; rw [List.length_append] at h2; exact h2, ho, hd, hl, hdu, fun x hx => hC.sml x (List.mem_of_mem_take hx), hU.bytes⟩
  · rw [hst] at hst1; cases hst1
end
section
variable {W w : World} {L : List Ent}
theorem Many.swap34 {x y z u : Ent} (h : Many W w (x :: y :: z :: u :: L)) : Many W w (x :: y :: u :: z :: L) := h.perm (((List.Perm.swap _ _ _).cons y).cons x)
end
/-- the last one lies among the pieces -/
def LastOk (L : List Ent) (lv : Value) (last : List (List UInt8)) : Prop := last = [] ∨ ∃ lp lc x, lv = .slice lp 1 lc ∧ Ent.recs (.slice lp 1 lc) [x] ∈ L ∧ last = [x.bytes]
theorem fits_of {L : List Ent} {hs : List LF} {lv : Value} {su n : Nat} {rs last : List (List UInt8)} (hrs : rs = (hs.map LF.bytes ++ last).take n) (hlen : rs.length = n) (hsu : su ≤ rs.length)
    (hla : LastOk L lv last) : Fits L hs lv su rs := by
  rcases hla with rfl | ⟨lp, lc, x, h1, h2, rfl⟩
  · rw [List.append_nil] at hrs
    refine .inl ⟨hsu, ?_, by rw [hlen]; exact hrs⟩
    rw [hrs, List.length_take, List.length_map]; omega
  · by_cases hn : n ≤ hs.length
    · rw [List.take_append_of_le_length (by rw [List.length_map]; exact hn)] at hrs
      exact .inl ⟨hsu, by omega, by rw [hlen]; exact hrs⟩
    · refine .inr ⟨lp, lc, x, h1, h2, hsu, ?_⟩
      rw [hrs, List.take_of_length_le (by rw [List.length_append, List.length_map, List.length_singleton]; omega)]
/-- the house lives: it holds at most n records -/
def Lives (W w : World) (hb n : Nat) : Prop := ∃ d j hp hc hs D G su kp, FJ D (hs.map LF.bytes) su kp ∧ kp < 400 ∧ hs.length ≤ n ∧
  Many W w [Ent.box hb (houseO d j (.slice hp hs.length hc) su (.slice none 0 0) (kp : Int)), Ent.house d j ⟨D, nL, endsOf (hs.map LF.bytes), su, .nilIface⟩ G, Ent.recs (.slice hp hs.length hc) hs]
theorem Lives.mono {W w : World} {hb n m : Nat} (h : Lives W w hb n) (hnm : n ≤ m) : Lives W w hb m := by
  obtain ⟨d, j, hp, hc, hs, D, G, su, kp, h1, h2, h3, h4⟩ := h
  exact ⟨d, j, hp, hc, hs, D, G, su, kp, h1, h2, by omega, h4⟩
section
variable {W w : World} {hb d j su hc kp : Nat} {hp : Option Addr} {hs : List LF} {D D1 : Dk} {G : List Nat} {p : Option Addr} {c : Nat} {bs r : List UInt8}
set_option maxHeartbeats 64000000 in
theorem writes_fell (a1 a2 : Value) (hg : Gl W) (hm : Many W w [Ent.box hb (houseO d j (.slice hp hs.length hc) su (.slice none 0 0) (kp : Int)), Ent.house d j ⟨D, nL, endsOf (hs.map LF.bytes), su, .nilIface⟩ G, Ent.recs (.slice hp hs.length hc) hs])
    (hrb : RB W (.slice p bs.length c) bs) (hbl : bs.length ≤ 1048576) (hJ : FJ D (hs.map LF.bytes) su kp) (hkp : kp < 400) (hlen : hs.length ≤ 60) (hr0 : r = bs.take 200) (ha : D.append nL (jwrap (jpay hs.length r)) = ((0, 110), D1)) (hdn : D1.down = true)
    (hC : FC D1 (hs.map LF.bytes ++ [r]) (atN (hs.map LF.bytes) su + kp)) :
    Calls Tryz.prog 16 #[.pointer (some ⟨hb, 0, none⟩), .agg #[.int .i64 0, .slice p bs.length c, a1, a2]] w fun e w' => e = .returned (.bool true) ∧ Lives W w' hb (hs.length + 1) := by
  have ha0 := halloc_at w (.cells #[.int .i64 0, .slice p bs.length c, a1, a2] 44)
  have q0 := hcell_of ha0 0
  have q1 := hcell_of ha0 1
  simp only [List.getElem?_toArray, List.getElem?_cons_zero, List.getElem?_cons_succ] at q0 q1
  have m1 := hm.alloc (.cells #[.int .i64 0, .slice p bs.length c, a1, a2] 44)
  have HREC := Lib.hid (lrecord_any (RC.chg hrb m1.chg fun _ _ h => h) (by omega))
  have HM := Lib.hid (And.intro m1 (And.intro hg ha))
  have HTF := Lib.hid (And.intro hJ (And.intro hC (And.intro hdn (And.intro hkp (And.intro (show hs.length ≤ 60 from hlen) (And.intro (show ([r] : List (List UInt8)).length ≤ 1 from Nat.le_refl _) hg))))))
  have HR0 := Lib.hid hr0
  clear hm hrb hbl hJ hkp hlen ha hdn hC ha0 m1 hg hr0
  go_enter Tryz.func16, Tryz.ntmps16
  go_wp2_with (first | (go_at_call 20; refine stop ?_))
  refine go ?_
  refine HREC.out.mono ?_
  rintro e w3 ⟨v3, rfl, o3, c3, n3⟩
  rw [← HR0.out] at o3
  have hrl : r.length ≤ 200 := by rw [HR0.out, List.length_take]; omega
  obtain ⟨pr, cr, rfl, -⟩ := id o3
  have m4 := HM.out.1.addBytes o3 c3 n3
  have HCP := Lib.hid (copied_any (w := w3.drew) (by omega) (RC.chg (OB.rb o3) ((Chg.refl (fun _ => False) w3).drew) fun _ _ h => h))
  have hbx : w3.heap[hb]? = _ := m4.get (x := Ent.box hb (houseO d j (.slice hp hs.length hc) su (.slice none 0 0) (kp : Int))) (by simp)
  unfold houseO at hbx
  have g0 := hcell_of (hbx) 0
  have g1 := hcell_of (hbx) 1
  have g2 := hcell_of (hbx) 2
  have g3 := hcell_of (hbx) 3
  have g4 := hcell_of (hbx) 4
  have g5 := hcell_of (hbx) 5
  simp only [List.getElem?_toArray, List.getElem?_cons_zero, List.getElem?_cons_succ] at g0 g1 g2 g3 g4 g5
  have M4 := Lib.hid m4
  obtain ⟨R, hR⟩ : ∃ R, R = r.length := ⟨_, rfl⟩
  rw [← hR] at HCP ⊢
  have HRL := Lib.hid (And.intro hR hrl)
  have iR : (R : Int) ≤ 200 := by omega
  have iR0 : (0 : Int) ≤ (R : Int) := by omega
  clear o3 c3 n3 hrl m4 hR hbx g0 g2 g3 g4 g5 q0 q1
  go_wp2
  refine Rx.ws_region (fun w' => w'.cell? ⟨hb, 1, none⟩ = some (.pointer (some ⟨j, 0, none⟩))) [(4, .r), (0, .h), (1, .h), (2, .h), (3, .h), (5, .e), (6, .e), (7, .r)] (by kernel_rfl) (by kernel_rfl) g1 (fun _ _ x _ _ h => (by cases x <;> exact h)) ?_
  (refine Rx.ws_q rfl rfl ?_; go_wp2; refine Rx.atS_mk ?_)
  iterate 4 (refine Rx.ws_h (v := ?_) rfl rfl ?_ ?_; rotate_left; (intro w' hS'; go_simp; try with_reducible rfl))
  refine Rx.ws_e rfl ?_
  go_wp2_with (first | (go_at_call 11; refine stop ?_))
  refine go ?_
  refine HCP.out.mono ?_
  rintro e w4 ⟨v4, rfl, o4, c4, n4⟩
  obtain ⟨p4, cc4, rfl, -⟩ := id o4
  have c4' : Chg (fun _ => False) w3 w4 := ((Chg.refl (fun _ => False) w3).drew).trans c4 fun _ h => h.elim
  have m5 := M4.out.quiet c4'
  have hbx4 : w4.heap[hb]? = _ := m5.get (x := Ent.box hb (houseO d j (.slice hp hs.length hc) su (.slice none 0 0) (kp : Int))) (by simp)
  unfold houseO at hbx4
  have k1 := hcell_of hbx4 1
  simp only [List.getElem?_toArray, List.getElem?_cons_zero, List.getElem?_cons_succ] at k1
  have m6 := m5.back3.swap12
  have hap : ∀ k, sblk (.slice p4 r.length cc4) = some k → k ∉ G := (fun k hk hkF => by
    have h1 := n4 k hk
    have h2 := M4.out.lt (x := Ent.house d j ⟨D, nL, endsOf (hs.map LF.bytes), su, .nilIface⟩ G) (by simp) k hkF
    have h3 : w3.drew.heap.size = w3.heap.size := rfl
    omega)
  have hel : (endsOf (hs.map LF.bytes)).length = hs.length := (by rw [endsOf_len, List.length_map])
  have hsl := HTF.out.2.2.2.2.1
  have hfi := HTF.out.1.fit (by rw [List.length_map]; omega)
  have hja := japp_fail HM.out.2.1 m6 rfl (show nL.size ≤ maxLen by decide) (show (endsOf (hs.map LF.bytes)).length ≤ 2147483647 by rw [hel]; omega) (show su ≤ (endsOf (hs.map LF.bytes)).length by rw [hel]; have := HTF.out.1.su; rw [List.length_map] at this; exact this) HTF.out.1.look (OB.rb o4) hap (by have := HRL.out.2; omega) (show endN (endsOf (hs.map LF.bytes)) (endsOf (hs.map LF.bytes)).length ≤ 1099511627776 by rw [endsOf_end]; omega) (show D.append nL (jwrap (jpay (endsOf (hs.map LF.bytes)).length r)) = ((0, 110), D1) by rw [hel]; exact HM.out.2.2) (by decide) (by decide)
  rw [← HRL.out.1] at hja ⊢
  have HJA := Lib.hid hja
  have HK1 := Lib.hid k1
  clear o4 c4 c4' n4 m5 hbx4 m6 hap hel hsl hfi hja k1
  go_wp2
  refine ⟨(by exact HK1.out), ?_⟩
  refine Rx.ws_e rfl ?_
  go_wp2_with (first | (go_at_call 19; refine stop ?_))
  refine go ?_
  refine HJA.out.mono ?_
  rintro e w5 ⟨b, G6, rfl, m7⟩
  have M7 := Lib.hid m7
  have hbx5 : w5.heap[hb]? = _ := m7.get (x := Ent.box hb (houseO d j (.slice hp hs.length hc) su (.slice none 0 0) (kp : Int))) (by simp)
  unfold houseO at hbx5
  have k5 := hcell_of hbx5 1
  simp only [List.getElem?_toArray, List.getElem?_cons_zero, List.getElem?_cons_succ] at k5
  have HK5 := Lib.hid k5
  rw [show faultV b = .iface 149 (.pointer (some ⟨b, 0, none⟩)) from rfl]
  clear m7 hbx5 k5
  go_wp2
  refine ⟨(by exact HK5.out), ?_⟩
  (refine Rx.ws_q rfl rfl ?_; go_wp2; refine Rx.atS_mk ?_)
  refine Rx.ws_nil ?_
  clear g1
  -- the record is kept as the last one
  have hm7 := M7.out
  rw [HRL.out.1] at hm7
  change Many W w5 (Ent.box b (faultO nApp _ 110) :: Ent.house d j ⟨D1, nL, endsOf (hs.map LF.bytes), su, faultV b⟩ G6 :: Ent.box hb (houseO d j (.slice hp hs.length hc) su (.slice none 0 0) (kp : Int)) :: Ent.bytes (⟨⟨#[]⟩, pr, cr, r, 0⟩ : LF).sv r :: Ent.recs (.slice hp hs.length hc) hs :: []) at hm7
  have m9 := (hm7.tail.rot4.add (y := Ent.recs (.slice none 0 0) []) (Chg.refl _ _) (Recs.nil _) (good_recs _ _) (by simp [Ent.recs, rblks, sblk])).swap12
  have hxs : (⟨⟨#[]⟩, pr, cr, r, 0⟩ : LF).sv = .slice pr R cr := by show Value.slice pr r.length cr = _; rw [← HRL.out.1]
  have m10 := m9.pushRec (v' := .slice (some ⟨w5.heap.size, 0, none⟩) 1 1) (w2 := w5.alloc (.cells #[.slice pr R cr] 23)) (Chg.refl _ w5) (by rw [hxs]; exact OC_new w5 1 23 #[.slice pr R cr] 1 1 (by decide) (by unfold maxLen; decide) rfl) ((Chg.refl _ w5).alloc _) (fun b hb => .inr (Nat.le_of_eq (by simpa [sblk] using hb)))
  have m11 := m10.rot4.swap12
  have hbx8 := m11.first
  dsimp only [Ent.box, houseO] at hbx8
  have z4 := hfree_of hbx8 4
  have kk4 := hcell_of hbx8 4
  simp only [List.getElem?_toArray, List.getElem?_cons_zero, List.getElem?_cons_succ] at kk4
  have m12 := (m11.setBox (i := 4) (v := .slice (some ⟨w5.heap.size, 0, none⟩) 1 1) rfl).swap34
  have m13 : Many W ((w5.alloc (.cells #[.slice pr R cr] 23)).setCell ⟨hb, 4, none⟩ (.slice (some ⟨w5.heap.size, 0, none⟩) 1 1)) (Ent.box hb (houseO d j (.slice hp hs.length hc) su (.slice (some ⟨w5.heap.size, 0, none⟩) 1 1) (kp : Int)) :: Ent.house d j ⟨D1, nL, endsOf (hs.map LF.bytes), su, faultV b⟩ G6 :: Ent.recs (.slice hp hs.length hc) hs :: [Ent.recs (.slice (some ⟨w5.heap.size, 0, none⟩) 1 1) [(⟨⟨#[]⟩, pr, cr, r, 0⟩ : LF)]]) := m12
  have M8 := Lib.hid m13
  have HLA : Hid (∀ w9 F, Many W w9 (Ent.box hb (houseO d j (.slice hp hs.length hc) su (.slice (some ⟨w5.heap.size, 0, none⟩) 1 1) (kp : Int)) :: Ent.disk d D1.up F :: Ent.recs (.slice hp hs.length hc) hs :: [Ent.recs (.slice (some ⟨w5.heap.size, 0, none⟩) 1 1) [(⟨⟨#[]⟩, pr, cr, r, 0⟩ : LF)]]) → LastAt w9 (.slice (some ⟨w5.heap.size, 0, none⟩) 1 1) [r]) := Lib.hid fun w9 F m => .inr ⟨_, _, ⟨⟨#[]⟩, pr, cr, r, 0⟩, rfl, (show Recs w9 (.slice (some ⟨w5.heap.size, 0, none⟩) 1 1) [(⟨⟨#[]⟩, pr, cr, r, 0⟩ : LF)] from m.get (x := Ent.recs (.slice (some ⟨w5.heap.size, 0, none⟩) 1 1) [(⟨⟨#[]⟩, pr, cr, r, 0⟩ : LF)]) (by simp)).rows, rfl⟩
  have HFI : Hid (LastOk [Ent.recs (.slice (some ⟨w5.heap.size, 0, none⟩) 1 1) [(⟨⟨#[]⟩, pr, cr, r, 0⟩ : LF)]] (.slice (some ⟨w5.heap.size, 0, none⟩) 1 1) [r]) := Lib.hid (.inr ⟨_, _, ⟨⟨#[]⟩, pr, cr, r, 0⟩, rfl, by simp, rfl⟩)
  clear hm7 m9 hxs m10 m11 hbx8 m12 m13
  obtain ⟨F8, u8, hraw8, hG8⟩ := M8.out.swap12.first
  have hbx8 := M8.out.first
  dsimp only [Ent.box, houseO] at hbx8
  have g0 := hcell_of hbx8 0
  have g1 := hcell_of hbx8 1
  simp only [List.getElem?_toArray, List.getElem?_cons_zero, List.getElem?_cons_succ] at g0 g1
  have hdw := down_any hraw8.disk
  have hdn := HTF.out.2.2.1
  rw [show ({ D := D1, nm := nL, es := endsOf (hs.map LF.bytes), du := su, er := faultV b } : Hs).D.down = true from hdn] at hdw
  have her := jerr_any hraw8.jrn
  rw [show ({ D := D1, nm := nL, es := endsOf (hs.map LF.bytes), du := su, er := faultV b } : Hs).er = .iface 149 (.pointer (some ⟨b, 0, none⟩)) from rfl] at her
  have hup := up_any hraw8.disk
  have HDW := Lib.hid hdw
  have HER := Lib.hid her
  have HUP := Lib.hid hup
  have HR8 := Lib.hid (And.intro hraw8 hG8)
  clear hraw8 hG8 hbx8 hdw hdn her hup
  go_wp2_with (first | (go_at_call 45; refine HDW.out.mono ?_; rintro e w' ⟨rfl, rfl⟩) | (go_at_call 22; refine HER.out.mono ?_; rintro e w' ⟨rfl, rfl⟩) | (go_at_call 46; refine stop ?_))
  refine go ?_
  refine HUP.out.mono ?_
  rintro e w9 ⟨rfl, h9, v9⟩
  obtain ⟨F9, hraw9, ev9⟩ := HR8.out.1.left ⟨F8, h9, v9⟩
  have m9 := M8.out.swap12.turn (y := Ent.house d j ⟨D1.up, nL, endsOf (hs.map LF.bytes), su, faultV b⟩ (F9 ++ jbl j u8)) ⟨F9, u8, hraw9, rfl⟩ (good_house _ _ _ _) (by rw [HR8.out.2]; exact ev9)
  obtain ⟨F10, m10⟩ := m9.unhouse
  have m11 := m10.swap12
  have hbx9 : w9.heap[hb]? = some (houseO d j (.slice hp hs.length hc) su (.slice (some ⟨w5.heap.size, 0, none⟩) 1 1) (kp : Int)) := m11.first
  have hrec9 : Recs w9 (.slice hp hs.length hc) hs := m11.get (x := Ent.recs (.slice hp hs.length hc) hs) (by simp)
  have hla9 : LastAt w9 (.slice (some ⟨w5.heap.size, 0, none⟩) 1 1) [r] := HLA.out w9 _ m11
  have hJ := HTF.out.1
  have hsl := HTF.out.2.2.2.2.1
  have hwh := hwhole_any hbx9 hrec9.rows hla9 (by have := hJ.su; rw [List.length_map] at this; exact this) (by omega) HTF.out.2.1.sml (loose := kp) (by have := HTF.out.2.2.2.1; omega)
  obtain ⟨rs, cut, DR, hrs, hrl, hsu2, hrl2, hop, hup2, hlim, hdur, hr2, hby⟩ := hJ.found HTF.out.2.1
  have hll := HTF.out.2.2.2.2.2.1
  rw [List.length_map] at hrl2
  have hfl := file_le (l := hs.map LF.bytes ++ [r]) (n := 200) HTF.out.2.1.sml
  have hfl2 := file_le (l := rs) (n := 200) hr2
  rw [List.length_append, List.length_map] at hfl
  have hopn := opens_want HTF.out.2.2.2.2.2.2 m11 (show (bytesOf D1.up.files nL).length ≤ 2147483647 by omega) hop hup2 hdur (by omega) (fun x hx => by have := hr2 x hx; omega) (by omega) (by omega) (fits_of hrs hrl hsu2 HFI.out)
  rw [hrl] at hopn
  obtain ⟨wn, hwn⟩ : ∃ wn, wn = wholeN (hs.map LF.bytes ++ [r]) su kp := ⟨_, rfl⟩
  rw [← hwn] at hwh hopn hrl
  have HWH := Lib.hid hwh
  have HOPN := Lib.hid hopn
  have HEND := Lib.hid (And.intro hup2 (And.intro hlim (And.intro hdur (And.intro hr2 (And.intro hrl hrl2)))))
  unfold houseO at hbx9
  have k0 := hcell_of hbx9 0
  have k5 := hcell_of hbx9 5
  simp only [List.getElem?_toArray, List.getElem?_cons_zero, List.getElem?_cons_succ] at k0 k5
  clear h9 v9 hraw9 ev9 m9 m10 m11 hbx9 hrec9 hla9 hJ hsl hwh hrs hrl hsu2 hrl2 hop hup2 hlim hdur hr2 hby hll hfl hfl2 hopn hwn g0 g1
  go_wp2_with (first | (go_at_call 47; refine HWH.out.mono ?_; rintro e w' ⟨rfl, rfl⟩) | (go_at_call 26; refine stop ?_))
  refine go ?_
  refine HOPN.out.mono ?_
  rintro e w12 ⟨rfl, j', hp', hc', hs', G', hbs', m12⟩
  have M12 := Lib.hid (And.intro hbs' m12)
  clear hbs' m12 k0 k5
  go_wp2
  go_ret
  have hb12 := M12.out.1
  have hl12 : hs'.length = rs.length := by rw [← hb12, List.length_map]
  have hnx := Found.next HEND.out.1 HEND.out.2.1 HEND.out.2.2.1 HEND.out.2.2.2.1 kp
  refine ⟨rfl, d, j', hp', hc', hs', _, G', hs'.length, kp, by rw [hb12, hl12]; exact hnx, HTF.out.2.2.2.1, by have := HEND.out.2.2.2.2.2; have := HTF.out.2.2.2.2.2.1; omega, ?_⟩
  rw [hb12, hl12]
  have hm := M12.out.2
  rw [hl12] at hm
  rw [← HEND.out.2.2.2.2.1] at hm
  exact Many.sub hm (.cons_cons _ (.cons_cons _ (.cons_cons _ (List.nil_sublist _))))
set_option maxHeartbeats 64000000 in
theorem sync_fell (a0 a1 a2 : Value) (hg : Gl W) (hm : Many W w [Ent.box hb (houseO d j (.slice hp hs.length hc) su (.slice none 0 0) (kp : Int)), Ent.house d j ⟨D, nL, endsOf (hs.map LF.bytes), su, .nilIface⟩ G, Ent.recs (.slice hp hs.length hc) hs])
    (hJ : FJ D (hs.map LF.bytes) su kp) (hkp : kp < 400) (hlen : hs.length ≤ 60) (hne : su ≠ hs.length) (ha : D.sync nL = (110, D1)) (hdn : D1.down = true)
    (hC : FC D1 (hs.map LF.bytes) (atN (hs.map LF.bytes) su + kp)) :
    Calls Tryz.prog 16 #[.pointer (some ⟨hb, 0, none⟩), .agg #[.int .i64 1, a0, a1, a2]] w fun e w' => e = .returned (.bool true) ∧ Lives W w' hb (hs.length + 1) := by
  have ha0 := halloc_at w (.cells #[.int .i64 1, a0, a1, a2] 44)
  have q0 := hcell_of ha0 0
  simp only [List.getElem?_toArray, List.getElem?_cons_zero, List.getElem?_cons_succ] at q0
  have m1 := hm.alloc (.cells #[.int .i64 1, a0, a1, a2] 44)
  have hbx : (w.alloc (.cells #[.int .i64 1, a0, a1, a2] 44)).heap[hb]? = _ := m1.first
  unfold houseO at hbx
  have g1 := hcell_of hbx 1
  simp only [List.getElem?_toArray, List.getElem?_cons_zero, List.getElem?_cons_succ] at g1
  have hel : (endsOf (hs.map LF.bytes)).length = hs.length := by rw [endsOf_len, List.length_map]
  have hsul : su ≤ hs.length := by have := hJ.su; rw [List.length_map] at this; exact this
  have hjs := jsync_fail hg m1.swap12 rfl (show nL.size ≤ maxLen by decide) (show (endsOf (hs.map LF.bytes)).length ≤ 2147483647 by rw [hel]; omega) (show su ≤ (endsOf (hs.map LF.bytes)).length by rw [hel]; exact hsul) hJ.look (show su ≠ (endsOf (hs.map LF.bytes)).length by rw [hel]; exact hne) (show D.sync nL = (110, D1) from ha) (by decide)
  have HJS := Lib.hid hjs
  have HTF := Lib.hid (And.intro hJ (And.intro (show FC D1 (hs.map LF.bytes ++ []) (atN (hs.map LF.bytes) su + kp) by rw [List.append_nil]; exact hC) (And.intro hdn (And.intro hkp (And.intro (show hs.length ≤ 60 from hlen) (And.intro (show ([] : List (List UInt8)).length ≤ 1 from Nat.zero_le _) hg))))))
  clear hm hJ hkp hlen hne ha hdn hC ha0 m1 hg hbx hel hsul hjs
  go_enter Tryz.func16, Tryz.ntmps16
  go_wp2_with (first | (go_at_call 23; refine stop ?_))
  refine go ?_
  refine HJS.out.mono ?_
  rintro e w5 ⟨b, G6, rfl, m7⟩
  rw [show faultV b = .iface 149 (.pointer (some ⟨b, 0, none⟩)) from rfl]
  have hm7 := m7.tail.swap12
  change Many W w5 (Ent.box hb (houseO d j (.slice hp hs.length hc) su (.slice none 0 0) (kp : Int)) :: Ent.house d j ⟨D1, nL, endsOf (hs.map LF.bytes), su, faultV b⟩ G6 :: Ent.recs (.slice hp hs.length hc) hs :: []) at hm7
  have M8 := Lib.hid hm7
  have HLA : Hid (∀ w9 F, Many W w9 (Ent.box hb (houseO d j (.slice hp hs.length hc) su (.slice none 0 0) (kp : Int)) :: Ent.disk d D1.up F :: Ent.recs (.slice hp hs.length hc) hs :: []) → LastAt w9 (.slice none 0 0) []) := Lib.hid fun w9 F m => .inl ⟨rfl, rfl⟩
  have HFI : Hid (LastOk [] (.slice none 0 0) []) := Lib.hid (.inl rfl)
  clear m7 hm7 g1 q0
  obtain ⟨F8, u8, hraw8, hG8⟩ := M8.out.swap12.first
  have hbx8 := M8.out.first
  dsimp only [Ent.box, houseO] at hbx8
  have g0 := hcell_of hbx8 0
  have g1 := hcell_of hbx8 1
  simp only [List.getElem?_toArray, List.getElem?_cons_zero, List.getElem?_cons_succ] at g0 g1
  have hdw := down_any hraw8.disk
  have hdn := HTF.out.2.2.1
  rw [show ({ D := D1, nm := nL, es := endsOf (hs.map LF.bytes), du := su, er := faultV b } : Hs).D.down = true from hdn] at hdw
  have her := jerr_any hraw8.jrn
  rw [show ({ D := D1, nm := nL, es := endsOf (hs.map LF.bytes), du := su, er := faultV b } : Hs).er = .iface 149 (.pointer (some ⟨b, 0, none⟩)) from rfl] at her
  have hup := up_any hraw8.disk
  have HDW := Lib.hid hdw
  have HER := Lib.hid her
  have HUP := Lib.hid hup
  have HR8 := Lib.hid (And.intro hraw8 hG8)
  clear hraw8 hG8 hbx8 hdw hdn her hup
  go_wp2_with (first | (go_at_call 45; refine HDW.out.mono ?_; rintro e w' ⟨rfl, rfl⟩) | (go_at_call 22; refine HER.out.mono ?_; rintro e w' ⟨rfl, rfl⟩) | (go_at_call 46; refine stop ?_))
  refine go ?_
  refine HUP.out.mono ?_
  rintro e w9 ⟨rfl, h9, v9⟩
  obtain ⟨F9, hraw9, ev9⟩ := HR8.out.1.left ⟨F8, h9, v9⟩
  have m9 := M8.out.swap12.turn (y := Ent.house d j ⟨D1.up, nL, endsOf (hs.map LF.bytes), su, faultV b⟩ (F9 ++ jbl j u8)) ⟨F9, u8, hraw9, rfl⟩ (good_house _ _ _ _) (by rw [HR8.out.2]; exact ev9)
  obtain ⟨F10, m10⟩ := m9.unhouse
  have m11 := m10.swap12
  have hbx9 : w9.heap[hb]? = some (houseO d j (.slice hp hs.length hc) su (.slice none 0 0) (kp : Int)) := m11.first
  have hrec9 : Recs w9 (.slice hp hs.length hc) hs := m11.get (x := Ent.recs (.slice hp hs.length hc) hs) (by simp)
  have hla9 : LastAt w9 (.slice none 0 0) [] := HLA.out w9 _ m11
  have hJ := HTF.out.1
  have hsl := HTF.out.2.2.2.2.1
  have hwh := hwhole_any hbx9 hrec9.rows hla9 (by have := hJ.su; rw [List.length_map] at this; exact this) (by omega) HTF.out.2.1.sml (loose := kp) (by have := HTF.out.2.2.2.1; omega)
  obtain ⟨rs, cut, DR, hrs, hrl, hsu2, hrl2, hop, hup2, hlim, hdur, hr2, hby⟩ := hJ.found HTF.out.2.1
  have hll := HTF.out.2.2.2.2.2.1
  rw [List.length_map] at hrl2
  have hfl := file_le (l := hs.map LF.bytes ++ []) (n := 200) HTF.out.2.1.sml
  have hfl2 := file_le (l := rs) (n := 200) hr2
  rw [List.length_append, List.length_map] at hfl
  have hopn := opens_want HTF.out.2.2.2.2.2.2 m11 (show (bytesOf D1.up.files nL).length ≤ 2147483647 by omega) hop hup2 hdur (by omega) (fun x hx => by have := hr2 x hx; omega) (by omega) (by omega) (fits_of hrs hrl hsu2 HFI.out)
  rw [hrl] at hopn
  obtain ⟨wn, hwn⟩ : ∃ wn, wn = wholeN (hs.map LF.bytes ++ []) su kp := ⟨_, rfl⟩
  rw [← hwn] at hwh hopn hrl
  have HWH := Lib.hid hwh
  have HOPN := Lib.hid hopn
  have HEND := Lib.hid (And.intro hup2 (And.intro hlim (And.intro hdur (And.intro hr2 (And.intro hrl hrl2)))))
  unfold houseO at hbx9
  have k0 := hcell_of hbx9 0
  have k5 := hcell_of hbx9 5
  simp only [List.getElem?_toArray, List.getElem?_cons_zero, List.getElem?_cons_succ] at k0 k5
  clear h9 v9 hraw9 ev9 m9 m10 m11 hbx9 hrec9 hla9 hJ hsl hwh hrs hrl hsu2 hrl2 hop hup2 hlim hdur hr2 hby hll hfl hfl2 hopn hwn g0 g1
  go_wp2_with (first | (go_at_call 47; refine HWH.out.mono ?_; rintro e w' ⟨rfl, rfl⟩) | (go_at_call 26; refine stop ?_))
  refine go ?_
  refine HOPN.out.mono ?_
  rintro e w12 ⟨rfl, j', hp', hc', hs', G', hbs', m12⟩
  have M12 := Lib.hid (And.intro hbs' m12)
  clear hbs' m12 k0 k5
  go_wp2
  go_ret
  have hb12 := M12.out.1
  have hl12 : hs'.length = rs.length := by rw [← hb12, List.length_map]
  have hnx := Found.next HEND.out.1 HEND.out.2.1 HEND.out.2.2.1 HEND.out.2.2.2.1 kp
  refine ⟨rfl, d, j', hp', hc', hs', _, G', hs'.length, kp, by rw [hb12, hl12]; exact hnx, HTF.out.2.2.2.1, by have := HEND.out.2.2.2.2.2; have := HTF.out.2.2.2.2.2.1; omega, ?_⟩
  rw [hb12, hl12]
  have hm := M12.out.2
  rw [hl12] at hm
  rw [← HEND.out.2.2.2.2.1] at hm
  exact Many.sub hm (.cons_cons _ (.cons_cons _ (.cons_cons _ (List.nil_sublist _))))
set_option maxHeartbeats 64000000 in
theorem wsync_ok (a0 a1 a2 : Value) {D2 : Dk} (hg : Gl W) (hm : Many W w [Ent.box hb (houseO d j (.slice hp hs.length hc) su (.slice none 0 0) (kp : Int)), Ent.house d j ⟨D, nL, endsOf (hs.map LF.bytes), su, .nilIface⟩ G, Ent.recs (.slice hp hs.length hc) hs])
    (hJ : FJ D (hs.map LF.bytes) su kp) (hkp : kp < 400) (hlen : hs.length ≤ 60) (h0 : su = hs.length → D2 = D) (h1 : su ≠ hs.length → D.sync nL = (0, D2)) (hJ2 : FJ D2 (hs.map LF.bytes) hs.length kp) :
    Calls Tryz.prog 16 #[.pointer (some ⟨hb, 0, none⟩), .agg #[.int .i64 1, a0, a1, a2]] w fun e w' => e = .returned (.bool true) ∧ Lives W w' hb (hs.length + 1) := by
  have ha0 := halloc_at w (.cells #[.int .i64 1, a0, a1, a2] 44)
  have q0 := hcell_of ha0 0
  simp only [List.getElem?_toArray, List.getElem?_cons_zero, List.getElem?_cons_succ] at q0
  have m1 := hm.alloc (.cells #[.int .i64 1, a0, a1, a2] 44)
  have hbx : (w.alloc (.cells #[.int .i64 1, a0, a1, a2] 44)).heap[hb]? = _ := m1.first
  unfold houseO at hbx
  have g1 := hcell_of hbx 1
  simp only [List.getElem?_toArray, List.getElem?_cons_zero, List.getElem?_cons_succ] at g1
  have hel : (endsOf (hs.map LF.bytes)).length = hs.length := by rw [endsOf_len, List.length_map]
  have hsul : su ≤ hs.length := by have := hJ.su; rw [List.length_map] at this; exact this
  obtain ⟨F1, v1, hraw1, hG1⟩ := m1.swap12.first
  have hjs := jsync_any (D2 := D2) hraw1 rfl (show nL.size ≤ maxLen by decide) (show (endsOf (hs.map LF.bytes)).length ≤ 2147483647 by rw [hel]; omega) (show su ≤ (endsOf (hs.map LF.bytes)).length by rw [hel]; exact hsul) hJ.look (fun h => h0 (by rw [← hel]; exact h)) (fun h => h1 (by rw [← hel]; exact h))
  have HJS := Lib.hid hjs
  have HTF := Lib.hid (And.intro hJ2 (And.intro hkp (And.intro hlen hel)))
  have M1 := Lib.hid (And.intro m1 hG1)
  have ihl : (hs.length : Int) ≤ 60 := by omega
  clear hm hJ hkp hlen h0 h1 hJ2 ha0 m1 hg hbx hel hsul hjs hraw1 hG1
  go_enter Tryz.func16, Tryz.ntmps16
  go_wp2_with (first | (go_at_call 23; refine stop ?_))
  refine go ?_
  refine HJS.out.mono ?_
  rintro e w5 ⟨rfl, hl5⟩
  obtain ⟨G6, m6⟩ := M1.out.1.swap12.housed (by rw [M1.out.2]; exact hl5)
  have m7 := m6.swap12
  change Many W w5 (Ent.box hb (houseO d j (.slice hp hs.length hc) su (.slice none 0 0) (kp : Int)) :: Ent.house d j ⟨D2, nL, endsOf (hs.map LF.bytes), (endsOf (hs.map LF.bytes)).length, .nilIface⟩ G6 :: Ent.recs (.slice hp hs.length hc) hs :: []) at m7
  rw [HTF.out.2.2.2] at m7
  have hbx5 := m7.first
  dsimp only [Ent.box, houseO] at hbx5
  have z3 := hfree_of hbx5 3
  have k2 := hcell_of hbx5 2
  have k3 := hcell_of hbx5 3
  simp only [List.getElem?_toArray, List.getElem?_cons_zero, List.getElem?_cons_succ] at k2 k3
  have m8 := m7.setBox (i := 3) (v := .int .i64 (hs.length : Int)) rfl
  change Many W (w5.setCell ⟨hb, 3, none⟩ (.int .i64 (hs.length : Int))) (Ent.box hb (houseO d j (.slice hp hs.length hc) hs.length (.slice none 0 0) (kp : Int)) :: _) at m8
  obtain ⟨F8, v8, hraw8, hG8⟩ := m8.swap12.first
  have hle8 := fun U (hU : Chg (fun _ => False) _ U) => jlen_any (hraw8.quiet hU).jrn
  have hdu8 := fun U (hU : Chg (fun _ => False) _ U) => jdurable_any (hraw8.quiet hU).jrn
  simp only [HTF.out.2.2.2] at hle8 hdu8
  have HLE := Lib.hid hle8
  have HDU := Lib.hid hdu8
  have hbx8 := m8.first
  dsimp only [Ent.box, houseO] at hbx8
  have g0 := hcell_of (hbx8) 0
  have g1 := hcell_of (hbx8) 1
  have g2 := hcell_of (hbx8) 2
  have g3 := hcell_of (hbx8) 3
  have g4 := hcell_of (hbx8) 4
  have g5 := hcell_of (hbx8) 5
  simp only [List.getElem?_toArray, List.getElem?_cons_zero, List.getElem?_cons_succ] at g0 g1 g2 g3 g4 g5
  have M8 := Lib.hid m8
  clear hl5 m6 m7 hbx5 m8 hraw8 hG8 hle8 hdu8 hbx8 g0 g4 g5 q0
  go_wp2
  refine Rx.ws_region (fun w' => w'.cell? ⟨hb, 2, none⟩ = some (.slice hp hs.length hc) ∧ w'.cell? ⟨hb, 3, none⟩ = some (.int .i64 (hs.length : Int))) [(0, .r), (1, .r), (2, .r), (3, .r), (5, .h), (6, .h), (7, .h), (8, .h), (9, .h), (4, .e), (10, .r), (11, .r), (12, .r), (13, .r), (14, .r), (15, .r), (17, .h), (18, .h), (19, .h), (20, .h), (16, .e), (21, .r), (22, .r), (23, .r)] (by kernel_rfl) (by kernel_rfl) ⟨g2, g3⟩ (fun _ _ x _ _ h => (by cases x <;> exact h)) ?_
  iterate 4 (refine Rx.ws_q rfl rfl ?_; go_wp2; refine Rx.atS_mk ?_)
  iterate 5 (refine Rx.ws_h (v := ?_) rfl rfl ?_ ?_; rotate_left; (intro w' hS'; go_simp; try with_reducible rfl))
  refine Rx.ws_e rfl ?_
  go_wp2_with (first | (go_at_call 25; refine stop ?_))
  refine go ?_
  refine (HLE.out _ (by first | exact Chg.refl _ _ | exact (Chg.refl _ _).drew | exact (Chg.refl _ _).drew.drew)).mono ?_
  rintro e w' ⟨rfl, rfl⟩
  go_wp2
  refine ⟨(by exact ⟨g2, g3⟩), ?_⟩
  iterate 6 (refine Rx.ws_q rfl rfl ?_; go_wp2; refine Rx.atS_mk ?_)
  iterate 4 (refine Rx.ws_h (v := ?_) rfl rfl ?_ ?_; rotate_left; (intro w' hS'; go_simp; try with_reducible rfl))
  refine Rx.ws_e rfl ?_
  go_wp2_with (first | (go_at_call 44; refine stop ?_))
  refine go ?_
  refine (HDU.out _ (by first | exact Chg.refl _ _ | exact (Chg.refl _ _).drew | exact (Chg.refl _ _).drew.drew | exact (Chg.refl _ _).drew.drew.drew)).mono ?_
  rintro e w' ⟨rfl, rfl⟩
  go_wp2
  refine ⟨(by exact ⟨g2, g3⟩), ?_⟩
  iterate 3 (refine Rx.ws_q rfl rfl ?_; go_wp2; refine Rx.atS_mk ?_)
  refine Rx.ws_nil ?_
  go_wp2
  go_ret
  have hfin := M8.out.quiet ((Chg.refl (fun _ => False) _).drew)
  exact ⟨by simp, d, j, hp, hc, hs, D2, G6, hs.length, kp, HTF.out.1, HTF.out.2.1, by omega, hfin⟩
/-- an Append -/
theorem writes_put {n : Nat} (a1 a2 : Value) (hg : Gl W) (hL : Lives W w hb n) (hn : n ≤ 60) (hrb : RB W (.slice p bs.length c) bs) (hbl : bs.length ≤ 1048576) :
    Calls Tryz.prog 16 #[.pointer (some ⟨hb, 0, none⟩), .agg #[.int .i64 0, .slice p bs.length c, a1, a2]] w fun e w' => e = .returned (.bool true) ∧ Lives W w' hb (n + 1) := by
  obtain ⟨d, j, hp, hc, hs, D, G, su, kp, hJ, hkp, hsn, hm⟩ := hL
  have hfi := hJ.fit (by rw [List.length_map]; omega)
  have hrl : (bs.take 200).length ≤ 200 := by rw [List.length_take]; omega
  have hsul : su ≤ hs.length := by have := hJ.su; rw [List.length_map] at this; exact this
  rcases hJ.app (r := bs.take 200) hrl (by omega) with ⟨D1, ha, hJ1⟩ | ⟨D1, ha, hdn, hC⟩
  · rw [List.length_map] at ha
    refine (writes_ok a1 a2 hg hm hrb hbl hsul (by omega) (by omega) hJ.look ha).mono ?_
    rintro e w' ⟨rfl, hp', hc', x, G', hx, m⟩
    refine ⟨rfl, d, j, hp', hc', hs ++ [x], D1, G', su, kp, ?_, hkp, by rw [List.length_append, List.length_singleton]; omega, m⟩
    rw [List.map_append, List.map_singleton, hx]
    exact hJ1
  · rw [List.length_map] at ha
    refine (writes_fell a1 a2 hg hm hrb hbl hJ hkp (by omega) rfl ha hdn hC).mono ?_
    rintro e w' ⟨rfl, h⟩
    exact ⟨rfl, h.mono (by omega)⟩
/-- a Sync -/
theorem writes_syn {n : Nat} (a0 a1 a2 : Value) (hg : Gl W) (hL : Lives W w hb n) (hn : n ≤ 60) :
    Calls Tryz.prog 16 #[.pointer (some ⟨hb, 0, none⟩), .agg #[.int .i64 1, a0, a1, a2]] w fun e w' => e = .returned (.bool true) ∧ Lives W w' hb (n + 1) := by
  obtain ⟨d, j, hp, hc, hs, D, G, su, kp, hJ, hkp, hsn, hm⟩ := hL
  by_cases he : su = hs.length
  · refine (wsync_ok a0 a1 a2 (D2 := D) hg hm hJ hkp (by omega) (fun _ => rfl) (fun h => absurd he h) (by rw [← he]; exact hJ)).mono ?_
    rintro e w' ⟨rfl, h⟩
    exact ⟨rfl, h.mono (by omega)⟩
  · rcases hJ.syn (by rw [List.length_map]; exact he) with ⟨D1, hsy, hJ1⟩ | ⟨D1, hsy, hdn, hC⟩
    · rw [List.length_map] at hJ1
      refine (wsync_ok a0 a1 a2 (D2 := D1) hg hm hJ hkp (by omega) (fun h => absurd h he) (fun _ => hsy) hJ1).mono ?_
      rintro e w' ⟨rfl, h⟩
      exact ⟨rfl, h.mono (by omega)⟩
    · refine (sync_fell a0 a1 a2 hg hm hJ hkp (by omega) he hsy hdn hC).mono ?_
      rintro e w' ⟨rfl, h⟩
      exact ⟨rfl, h.mono (by omega)⟩
end
end Go.Proofs
