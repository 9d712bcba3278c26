/- The law's house: a disk with room, a journal in it, what was appended; house; writes, an Append that the disk takes. Conditions: the house lies as the pieces say; nothing is refused; the listed variables lie as they were laid. -/
import Derived.Test.YtaiaghfckhgnnaaGreatDoorJo
import Derived.Test.YtaiaghfckhgnnaaGreatDoorJd
import Derived.Test.YtaiaghfckhgnnaaGreatDoorJk
namespace Go.Proofs
open Go.RowKit Go.Hp Go.Dm Go.Dr Go.Jn
set_option linter.unusedVariables false
set_option maxRecDepth 10000
/-- what a House holds -/
def houseO (d j : Nat) (hv : Value) (su : Nat) (lv : Value) (kp : Int) : Obj := .cells #[.pointer (some ⟨d, 0, none⟩), .pointer (some ⟨j, 0, none⟩), hv, .int .i64 (su : Int), lv, .int .i64 kp] 52
section
variable {W w : World} {L : List Ent}
theorem Many.rot4 {x y z u : Ent} (h : Many W w (x :: y :: z :: u :: L)) : Many W w (z :: u :: x :: y :: L) := h.perm ((List.perm_append_comm (l₁ := [x, y]) (l₂ := [z, u])).append_right L)
theorem Many.swap23 {x y z : Ent} (h : Many W w (x :: y :: z :: L)) : Many W w (x :: z :: y :: L) := h.perm ((List.Perm.swap _ _ _).cons x)
/-- a cell of a box is another one -/
theorem Many.setBox {b i : Nat} {cs cs' : Array Value} {t : TypeId} {fz : Nat × Nat} {v : Value} (h : Many W w (Ent.box b (.cells cs t fz) :: L)) (he : cs.setIfInBounds i v = cs') : Many W (w.setCell ⟨b, i, none⟩ v) (Ent.box b (.cells cs' t fz) :: L) :=
  h.turn (y := Ent.box b (.cells cs' t fz)) (by
    have := hset_same h.first i v
    subst he
    show (w.setCell ⟨b, i, none⟩ v).heap[b]? = _
    simpa using this) (good_box _ _) ⟨(Chg.refl _ w).setCell (p := ⟨b, i, none⟩) (.inl (by simp [Ent.box])) _, fun k hk => .inl hk⟩
set_option maxHeartbeats 16000000 in
theorem house_any (h : Many W w L) : Calls Tryz.prog 15 #[] w fun e w' => ∃ hb d j G, e = .returned (.tuple #[.pointer (some ⟨hb, 0, none⟩), .bool true]) ∧
    Many W w' (Ent.box hb (houseO d j (.slice none 0 0) 0 (.slice none 0 0) 0) :: Ent.house d j ⟨⟨1048576, [], false, 0, 0⟩, nL, [], 0, .nilIface⟩ G :: L) := by
  have HNEW := Lib.hid (new_ok (w := w) 1048576 (by omega))
  have HM := Lib.hid h
  clear h
  simp only [show ((1048576 : Nat) : Int) = 1048576 from rfl] at HNEW
  go_enter Tryz.func15, Tryz.ntmps15
  go_wp2_with (first | (go_at_call 30; refine stop ?_))
  refine go ?_
  refine HNEW.out.mono ?_
  rintro e w1 ⟨he, h1, v1⟩
  generalize w.heap.size + 1 = d at he h1 v1
  subst he
  have m1 := HM.out.addDisk h1 v1
  have m2 := (m1.addBox (.cells #[.pointer (some ⟨d, 0, none⟩), .pointer none, .slice none 0 0, .int .i64 0, .slice none 0 0, .int .i64 0] 52)).swap12
  have HOP := Lib.hid (open_new (nm := nL) m2 (by decide) (by simp [Dk.size, Dk.look, okL, Dm.get]))
  obtain ⟨hb, hhb⟩ : ∃ hb, hb = w1.heap.size := ⟨_, rfl⟩
  rw [← hhb] at HOP
  have HHB := Lib.hid hhb
  clear h1 v1 m1 m2 hhb
  go_wp2_with (first | (go_at_call 17; refine stop ?_))
  rw [← HHB.out]
  refine go ?_
  refine HOP.out.mono ?_
  rintro e w2 ⟨j, G, rfl, m3⟩
  have m4 := m3.swap12
  have hbx : w2.heap[hb]? = _ := m4.first
  have z1 := hfree_of hbx 1
  have k1 := hcell_of hbx 1
  simp only [List.getElem?_toArray, List.getElem?_cons_zero, List.getElem?_cons_succ] at k1
  have m5 := m4.setBox (i := 1) (v := .pointer (some ⟨j, 0, none⟩)) rfl
  have M5 := Lib.hid m5
  clear m3 m4 m5 hbx
  go_wp2
  go_ret2
  exact ⟨hb, d, j, G, rfl, M5.out⟩
end
section
variable {W w : World} {L : List Ent} {hb d j su hc : Nat} {hp : Option Addr} {lv : Value} {kp : Int} {hs : List LF} {D D1 : Dk} {G : List Nat} {p : Option Addr} {c : Nat} {bs : List UInt8}
set_option maxHeartbeats 16000000 in
theorem writes_ok (a1 a2 : Value) (hg : Gl W) (hm : Many W w (Ent.box hb (houseO d j (.slice hp hs.length hc) su lv kp) :: Ent.house d j ⟨D, nL, endsOf (hs.map LF.bytes), su, .nilIface⟩ G :: Ent.recs (.slice hp hs.length hc) hs :: L))
    (hrb : RB W (.slice p bs.length c) bs) (hbl : bs.length ≤ 1048576) (hsu : su ≤ hs.length) (hlen : hs.length ≤ 1000) (hz : (fileOf 0 (hs.map LF.bytes)).length ≤ 1099511627776)
    (hlk : lookE D nL (endsOf (hs.map LF.bytes)) su = 0) (ha : D.append nL (jwrap (jpay hs.length (bs.take 200))) = (((bs.take 200).length + 16, 0), D1)) :
    Calls Tryz.prog 16 #[.pointer (some ⟨hb, 0, none⟩), .agg #[.int .i64 0, .slice p bs.length c, a1, a2]] w fun e w' => e = .returned (.bool true) ∧ ∃ hp' hc' x G', x.bytes = bs.take 200 ∧
      Many W w' (Ent.box hb (houseO d j (.slice hp' (hs ++ [x]).length hc') su lv kp) :: Ent.house d j ⟨D1, nL, endsOf ((hs ++ [x]).map LF.bytes), su, .nilIface⟩ G' :: Ent.recs (.slice hp' (hs ++ [x]).length hc') (hs ++ [x]) :: L) := by
  have ha0 := halloc_at w (.cells #[.int .i64 0, .slice p bs.length c, a1, a2] 44)
  have q0 := hcell_of ha0 0
  have q1 := hcell_of ha0 1
  simp only [List.getElem?_toArray, List.getElem?_cons_zero, List.getElem?_cons_succ] at q0 q1
  have m1 := hm.alloc (.cells #[.int .i64 0, .slice p bs.length c, a1, a2] 44)
  have HREC := Lib.hid (lrecord_any (RC.chg hrb m1.chg fun _ _ h => h) (by omega))
  have HM := Lib.hid (And.intro m1 (And.intro hg (And.intro hsu (And.intro hlen (And.intro hz (And.intro hlk ha))))))
  clear hm hrb hbl hsu hlen hz hlk ha ha0 m1 hg
  go_enter Tryz.func16, Tryz.ntmps16
  go_wp2_with (first | (go_at_call 20; refine stop ?_))
  refine go ?_
  refine HREC.out.mono ?_
  rintro e w3 ⟨v3, rfl, o3, c3, n3⟩
  obtain ⟨r, hr⟩ : ∃ r, r = bs.take 200 := ⟨_, rfl⟩
  rw [← hr] at o3 HM
  have hrl : r.length ≤ 200 := by rw [hr, List.length_take]; omega
  obtain ⟨pr, cr, rfl, -⟩ := id o3
  have m4 := HM.out.1.addBytes o3 c3 n3
  have HCP := Lib.hid (copied_any (w := w3.drew) (by omega) (RC.chg (OB.rb o3) ((Chg.refl (fun _ => False) w3).drew) fun _ _ h => h))
  have hbx : w3.heap[hb]? = _ := m4.get (x := Ent.box hb (houseO d j (.slice hp hs.length hc) su lv kp)) (by simp)
  unfold houseO at hbx
  have g0 := hcell_of (hbx) 0
  have g1 := hcell_of (hbx) 1
  have g2 := hcell_of (hbx) 2
  have g3 := hcell_of (hbx) 3
  have g4 := hcell_of (hbx) 4
  have g5 := hcell_of (hbx) 5
  simp only [List.getElem?_toArray, List.getElem?_cons_zero, List.getElem?_cons_succ] at g0 g1 g2 g3 g4 g5
  have M4 := Lib.hid m4
  obtain ⟨R, hR⟩ : ∃ R, R = r.length := ⟨_, rfl⟩
  rw [← hR] at HCP ⊢
  have HRL := Lib.hid (And.intro hR (And.intro hrl hr))
  have iR : (R : Int) ≤ 200 := by omega
  have iR0 : (0 : Int) ≤ (R : Int) := by omega
  clear o3 c3 n3 hrl m4 hR hr hbx g0 g2 g3 g4 g5 q0 q1
  go_wp2
  refine Rx.ws_region (fun w' => w'.cell? ⟨hb, 1, none⟩ = some (.pointer (some ⟨j, 0, none⟩))) [(4, .r), (0, .h), (1, .h), (2, .h), (3, .h), (5, .e), (6, .e), (7, .r)] (by kernel_rfl) (by kernel_rfl) g1 (fun _ _ x _ _ h => (by cases x <;> exact h)) ?_
  (refine Rx.ws_q rfl rfl ?_; go_wp2; refine Rx.atS_mk ?_)
  iterate 4 (refine Rx.ws_h (v := ?_) rfl rfl ?_ ?_; rotate_left; (intro w' hS'; go_simp; try with_reducible rfl))
  refine Rx.ws_e rfl ?_
  go_wp2_with (first | (go_at_call 11; refine stop ?_))
  refine go ?_
  refine HCP.out.mono ?_
  rintro e w4 ⟨v4, rfl, o4, c4, n4⟩
  obtain ⟨p4, cc4, rfl, -⟩ := id o4
  have c4' : Chg (fun _ => False) w3 w4 := ((Chg.refl (fun _ => False) w3).drew).trans c4 fun _ h => h.elim
  have m5 := M4.out.quiet c4'
  have hbx4 : w4.heap[hb]? = _ := m5.get (x := Ent.box hb (houseO d j (.slice hp hs.length hc) su lv kp)) (by simp)
  unfold houseO at hbx4
  have k1 := hcell_of hbx4 1
  simp only [List.getElem?_toArray, List.getElem?_cons_zero, List.getElem?_cons_succ] at k1
  have m6 := m5.back3.swap12
  obtain ⟨F5, v5, hraw, hG⟩ := m6.first
  have hg5 : Gl w4 := HM.out.2.1.chg m5.chg
  have hF2 : ∀ k ∈ F5 ++ jbl j v5, 1 < k := (fun k hk => by
    have h1 := m6.new (Ent.house d j ⟨D, nL, endsOf (hs.map LF.bytes), su, .nilIface⟩ G) (by simp) k (by rw [← hG] at hk; exact hk)
    have := HM.out.2.1.lt
    omega)
  have hap : ∀ k, sblk (.slice p4 r.length cc4) = some k → k ∉ F5 ++ jbl j v5 := (fun k hk hkF => by
    have h1 := n4 k hk
    have h2 := M4.out.lt (x := Ent.house d j ⟨D, nL, endsOf (hs.map LF.bytes), su, .nilIface⟩ G) (by simp) k (by rw [← hG] at hkF; exact hkF)
    have h3 : w3.drew.heap.size = w3.heap.size := rfl
    omega)
  have hel : (endsOf (hs.map LF.bytes)).length = hs.length := (by rw [endsOf_len, List.length_map])
  have hja := japp_ok hg5 hraw rfl (show nL.size ≤ maxLen by decide) (show (endsOf (hs.map LF.bytes)).length ≤ 2147483647 by rw [hel]; have := HM.out.2.2.2.1; omega) (show su ≤ (endsOf (hs.map LF.bytes)).length by rw [hel]; exact HM.out.2.2.1) HM.out.2.2.2.2.2.1 (OB.rb o4) hap hF2 (by have := HRL.out.2.1; omega) (show endN (endsOf (hs.map LF.bytes)) (endsOf (hs.map LF.bytes)).length ≤ 1099511627776 by rw [endsOf_end]; exact HM.out.2.2.2.2.1) (show D.append nL (jwrap (jpay (endsOf (hs.map LF.bytes)).length r)) = ((r.length + 16, 0), D1) by rw [hel]; exact HM.out.2.2.2.2.2.2)
  rw [← HRL.out.1] at hja ⊢
  have HJA := Lib.hid hja
  have M6 := Lib.hid (And.intro m6 hG)
  have HK1 := Lib.hid k1
  clear o4 c4 c4' n4 m5 hbx4 m6 hraw hG hg5 hF2 hap hel hja k1
  go_wp2
  refine ⟨(by exact HK1.out), ?_⟩
  refine Rx.ws_e rfl ?_
  go_wp2_with (first | (go_at_call 19; refine stop ?_))
  refine go ?_
  refine HJA.out.mono ?_
  rintro e w5 ⟨rfl, hl5⟩
  obtain ⟨G6, m7⟩ := M6.out.1.housed (by rw [M6.out.2]; exact hl5)
  have M7 := Lib.hid m7
  have hbx5 : w5.heap[hb]? = _ := m7.get (x := Ent.box hb (houseO d j (.slice hp hs.length hc) su lv kp)) (by simp)
  unfold houseO at hbx5
  have k5 := hcell_of hbx5 1
  simp only [List.getElem?_toArray, List.getElem?_cons_zero, List.getElem?_cons_succ] at k5
  have HK5 := Lib.hid k5
  clear hl5 m7 hbx5 k5
  go_wp2
  refine ⟨(by exact HK5.out), ?_⟩
  (refine Rx.ws_q rfl rfl ?_; go_wp2; refine Rx.atS_mk ?_)
  refine Rx.ws_nil ?_
  clear g1
  have m7 := M7.out.rot4
  have hc6 : Chg (fun _ => False) w5 (w5.alloc (.cells #[.slice pr R cr] 23)) := (Chg.refl _ w5).alloc _
  have hrec6 : Recs (w5.alloc (.cells #[.slice pr R cr] 23)) (.slice hp hs.length hc) hs := (m7.quiet hc6).get (x := Ent.recs (.slice hp hs.length hc) hs) (by simp)
  have hbx5 : w5.heap[hb]? = _ := m7.get (x := Ent.box hb (houseO d j (.slice hp hs.length hc) su lv kp)) (by simp)
  unfold houseO at hbx5
  have k2 := hcell_of hbx5 2
  simp only [List.getElem?_toArray, List.getElem?_cons_zero, List.getElem?_cons_succ] at k2
  have HR6 := Lib.hid (And.intro hc6 hrec6)
  have M8 := Lib.hid m7
  clear hc6 hrec6 hbx5 m7
  go_wp2_with (first | (at_builtin; refine stop ?_))
  refine go ?_
  refine wpList_append_rows rfl _ _ rfl (v := .slice hp hs.length hc) (l := hs.map LF.sv) (m := [.slice pr R cr]) rfl rfl (by rw [List.length_map]; exact HR6.out.2.oc) (OC_new w5 1 23 #[.slice pr R cr] 1 1 (by decide) (by unfold maxLen; decide) rfl).rc (by simp [Value.oneCell']) (by have := HM.out.2.2.2.1; simp; omega) ?_
  intro hp7 lv7 hc7 w7 b1 b2 b3 b4
  have hxs : (⟨⟨#[]⟩, pr, cr, r, 0⟩ : LF).sv = .slice pr R cr := by show Value.slice pr r.length cr = _; rw [← HRL.out.1]
  have hm6 := M8.out
  rw [HRL.out.1] at hm6
  change Many W w5 (Ent.bytes (⟨⟨#[]⟩, pr, cr, r, 0⟩ : LF).sv r :: Ent.recs (.slice hp hs.length hc) hs :: _) at hm6
  have m9 := hm6.pushRec HR6.out.1 (by rw [hxs]; exact b1) b3 b4
  have hlv : lv7 = hs.length + 1 := by rw [b2]; simp
  subst hlv
  have m10 := m9.front3
  have hbx7 : w7.heap[hb]? = _ := m10.first
  unfold houseO at m10 hbx7
  have z2 := hfree_of hbx7 2
  have kk2 := hcell_of hbx7 2
  simp only [List.getElem?_toArray, List.getElem?_cons_zero, List.getElem?_cons_succ] at kk2
  have m11 := (m10.setBox (i := 2) (v := .slice hp7 (hs.length + 1) hc7) rfl).swap23
  have hends : endsOf (hs.map LF.bytes) ++ [endN (endsOf (hs.map LF.bytes)) (endsOf (hs.map LF.bytes)).length + (r.length + 16)] = endsOf ((hs ++ [(⟨⟨#[]⟩, pr, cr, r, 0⟩ : LF)]).map LF.bytes) := by rw [List.map_append]; exact (endsOf_snoc _ _).symm
  rw [hends] at m11
  obtain ⟨F7, v7, hraw7, hG7⟩ := m11.swap12.first
  have hle7 := fun U (hU : Chg (fun _ => False) _ U) => jlen_any (hraw7.quiet hU).jrn
  have hdu7 := fun U (hU : Chg (fun _ => False) _ U) => jdurable_any (hraw7.quiet hU).jrn
  have hlen7 : (endsOf ((hs ++ [(⟨⟨#[]⟩, pr, cr, r, 0⟩ : LF)]).map LF.bytes)).length = hs.length + 1 := by simp [endsOf_len]
  simp only [hlen7] at hle7
  have HLE := Lib.hid hle7
  have HDU := Lib.hid hdu7
  have hbx8 := m11.first
  change (w7.setCell ⟨hb, 2, none⟩ (.slice hp7 (hs.length + 1) hc7)).heap[hb]? = some (houseO d j (.slice hp7 (hs.length + 1) hc7) su lv kp) at hbx8
  unfold houseO at hbx8
  have g0 := hcell_of (hbx8) 0
  have g1 := hcell_of (hbx8) 1
  have g2 := hcell_of (hbx8) 2
  have g3 := hcell_of (hbx8) 3
  have g4 := hcell_of (hbx8) 4
  have g5 := hcell_of (hbx8) 5
  simp only [List.getElem?_toArray, List.getElem?_cons_zero, List.getElem?_cons_succ] at g0 g1 g2 g3 g4 g5
  have M11 := Lib.hid m11
  have ihl : (hs.length : Int) ≤ 1000 := by have := HM.out.2.2.2.1; omega
  have isu : (su : Int) ≤ 1000 := by have := HM.out.2.2.1; omega
  clear b1 b2 b3 b4 hxs hm6 m9 m10 hbx7 m11 hends hraw7 hG7 hle7 hdu7 hlen7 hbx8 g0 g4 g5
  go_wp2
  refine Rx.ws_region (fun w' => w'.cell? ⟨hb, 2, none⟩ = some (.slice hp7 (hs.length + 1) hc7) ∧ w'.cell? ⟨hb, 3, none⟩ = some (.int .i64 (su : Int))) [(0, .r), (1, .r), (2, .r), (3, .r), (5, .h), (6, .h), (7, .h), (8, .h), (9, .h), (4, .e), (10, .r), (11, .r), (12, .r), (13, .r), (14, .r), (15, .r), (17, .h), (18, .h), (19, .h), (20, .h), (16, .e), (21, .r), (22, .r), (23, .r)] (by kernel_rfl) (by kernel_rfl) ⟨g2, g3⟩ (fun _ _ x _ _ h => (by cases x <;> exact h)) ?_
  iterate 4 (refine Rx.ws_q rfl rfl ?_; go_wp2; refine Rx.atS_mk ?_)
  iterate 5 (refine Rx.ws_h (v := ?_) rfl rfl ?_ ?_; rotate_left; (intro w' hS'; go_simp; try with_reducible rfl))
  refine Rx.ws_e rfl ?_
  go_wp2_with (first | (go_at_call 25; refine stop ?_))
  refine go ?_
  refine (HLE.out _ (by first | exact Chg.refl _ _ | exact (Chg.refl _ _).drew | exact (Chg.refl _ _).drew.drew)).mono ?_
  rintro e w' ⟨rfl, rfl⟩
  go_wp2
  refine ⟨(by exact ⟨g2, g3⟩), ?_⟩
  iterate 6 (refine Rx.ws_q rfl rfl ?_; go_wp2; refine Rx.atS_mk ?_)
  iterate 4 (refine Rx.ws_h (v := ?_) rfl rfl ?_ ?_; rotate_left; (intro w' hS'; go_simp; try with_reducible rfl))
  refine Rx.ws_e rfl ?_
  go_wp2_with (first | (go_at_call 44; refine stop ?_))
  refine go ?_
  refine (HDU.out _ (by first | exact Chg.refl _ _ | exact (Chg.refl _ _).drew | exact (Chg.refl _ _).drew.drew | exact (Chg.refl _ _).drew.drew.drew)).mono ?_
  rintro e w' ⟨rfl, rfl⟩
  go_wp2
  refine ⟨(by exact ⟨g2, g3⟩), ?_⟩
  iterate 3 (refine Rx.ws_q rfl rfl ?_; go_wp2; refine Rx.atS_mk ?_)
  refine Rx.ws_nil ?_
  go_wp2
  go_ret
  have hfin := M11.out.quiet ((Chg.refl (fun _ => False) _).drew)
  have hl7 : (hs ++ [(⟨⟨#[]⟩, pr, cr, r, 0⟩ : LF)]).length = hs.length + 1 := by simp
  refine ⟨by simp, hp7, hc7, (⟨⟨#[]⟩, pr, cr, r, 0⟩ : LF), G6, HRL.out.2.2, ?_⟩
  rw [hl7]
  exact hfin
end
end Go.Proofs
