/- DiskKeeps' walk. Conditions: the script's ops lie as OpsAt says. -/
import Derived.Test.YthnemjnepnbjpaaKf
import Derived.Test.YthnemjnepnbjpaaEp
import Derived.Test.YthnemjnepnbjpaaLe
namespace Go.Proofs
open Go.RowKit Go.Hp Go.Dm Go.Dr
set_option linter.unusedVariables false
set_option maxRecDepth 10000

def Ent.book (b : Nat) (B : List Fl) (F : List Nat) : Ent := ⟨F, fun w => BkRep w b B F⟩
theorem good_book (b : Nat) (B : List Fl) (F : List Nat) : (Ent.book b B F).Good := ⟨fun h hk => BkRep.keep h hk, fun h => BkRep.lt h⟩
theorem Many.bkLeft {W w w' : World} {L : List Ent} {b : Nat} {B B' : List Fl} {F : List Nat} (h : Many W w (Ent.book b B F :: L)) (hd : BkLeft w b F B' w') : ∃ F', Many W w' (Ent.book b B' F' :: L) := by
  obtain ⟨F', h1, h2⟩ := hd
  exact ⟨F', h.turn (y := Ent.book b B' F') h1 (good_book _ _ _) h2⟩
theorem Many.sub3 {W w : World} {L L' : List Ent} (h : Many W w L) (hs : L'.Sublist L) : Many W w L' :=
  ⟨fun x hx => h.holds x (hs.subset hx), fun x hx => h.good x (hs.subset hx), fun x hx => h.new x (hs.subset hx), h.apart.sublist hs, h.chg⟩
theorem Many.last3 {W w : World} {L : List Ent} {x : Ent} (h : Many W w (L ++ [x])) : Many W w (x :: L) := h.perm (List.perm_append_comm (l₁ := L) (l₂ := [x]))
theorem Many.box3 {W w : World} {L : List Ent} (h : Many W w L) (o : Obj) : Many W (w.alloc o) (Ent.box w.heap.size o :: L) :=
  h.add (y := Ent.box w.heap.size o) ((Chg.refl _ w).alloc o) (halloc_at w o) (good_box _ _) fun k hk => by
    obtain rfl : k = w.heap.size := by simpa [Ent.box] using hk
    exact Nat.le_refl _

section
variable {w : World} {ops : List (OpP × Value)} {fv ov : Value}

set_option maxHeartbeats 4000000 in
theorem keeps_bad (n : Int) (hn : n < 0 ∨ 1099511627776 < n) :
    Calls Try.prog 5 #[.agg #[.int .i64 n, fv, ov]] w fun e w' => e = .returned (.bool true) ∧ Chg (fun _ => False) w w' := by
  have HN := Lib.hid fun W => new_bad (w := W) n hn
  by_cases h0 : n < 0
  · clear hn
    go_enter Try.func5, Try.ntmps5
    go_wp2_with (first | (go_at_call 16; refine (num_any _ _).mono ?_; rintro e w' ⟨rfl, rfl⟩) | (go_at_call 15; ((with_reducible refine (HN.out _).mono ?_); rintro e w' ⟨rfl, rfl⟩)) | (go_at_call 28; refine (awake_any _).mono ?_; rintro e w' ⟨rfl, hc⟩))
    go_ret
    exact ⟨rfl, ((Chg.refl (fun _ => False) w).alloc _).trans hc (fun k hk => hk.elim)⟩
  · have h1 : 1099511627776 < n := by omega
    clear hn
    go_enter Try.func5, Try.ntmps5
    go_wp2_with (first | (go_at_call 16; refine (num_any _ _).mono ?_; rintro e w' ⟨rfl, rfl⟩) | (go_at_call 15; ((with_reducible refine (HN.out _).mono ?_); rintro e w' ⟨rfl, rfl⟩)) | (go_at_call 28; refine (awake_any _).mono ?_; rintro e w' ⟨rfl, hc⟩))
    go_ret
    exact ⟨rfl, ((Chg.refl (fun _ => False) w).alloc _).trans hc (fun k hk => hk.elim)⟩

theorem total_any {b : Nat} {B : List Fl} {F : List Nat} (hN : B.length ≤ 1099511627776) (hT : total B ≤ 1099511627776) (h : BkRep w b B F) :
    Calls Try.prog 30 #[.pointer (some ⟨b, 0, none⟩)] w fun e w' => e = .returned (.int .i64 (total B : Int)) ∧ w = w' := by
  obtain ⟨v, l, h, rfl, rfl⟩ := h
  exact total_walk (by simpa using hN) hT h
/-- ahead of a round -/
structure KRel (W wr : World) (d b n k len : Nat) (K : Int) : Prop where
  le : k ≤ len
  lo : -9223372036854775808 ≤ K
  hi : K ≤ 9223372036854775807
  ex : ∃ D B F G, Many W wr [Ent.disk d D F, Ent.book b B G] ∧ Kept D B K ∧ D.limit = n ∧ D.files.length ≤ k

set_option maxHeartbeats 16000000 in
theorem keeps_main (n : Nat) (hn : n ≤ 1099511627776) (ho : OpsAt w ov ops) :
    Calls Try.prog 5 #[.agg #[.int .i64 (n : Int), fv, ov]] w fun e w' => e = .returned (.bool true) ∧ Chg (fun _ => False) w w' := by
  obtain ⟨p, cap, rfl, hnc, -, -⟩ := id ho.row
  have HWC := Lib.hid ((Chg.refl (fun _ => False) w).alloc (.cells #[.int .i64 (n : Int), fv, .slice p ops.length cap] 50))
  have HB0 := Lib.hid (halloc_at w (.cells #[.int .i64 (n : Int), fv, .slice p ops.length cap] 50))
  have HNEW := Lib.hid (new_ok (w := w.alloc (.cells #[.int .i64 (n : Int), fv, .slice p ops.length cap] 50)) n hn)
  have HO := Lib.hid ho
  have HLEN := Lib.hid ho.len
  have HNC := Lib.hid hnc
  have hni : (n : Int) ≤ 1099511627776 := by omega
  have hn0 : ¬ (1099511627776 : Int) < (n : Int) := by omega
  have hn1 : ¬ (n : Int) < 0 := by omega
  clear hn ho hnc
  go_enter Try.func5, Try.ntmps5
  go_wp2_with (first | (go_at_call 16; refine (num_any _ _).mono ?_; rintro e w' ⟨rfl, rfl⟩) | (go_at_call 15; refine stop ?_))
  refine go ?_
  refine HNEW.out.mono ?_
  rintro e w1 ⟨he, h1, v1⟩
  rw [halloc_size] at he h1 v1
  generalize w.heap.size + 1 + 1 = d at he h1 v1
  subst he
  have m1 := (Many.nil _).addDisk h1 v1
  generalize w.alloc (.cells #[.int .i64 (n : Int), fv, .slice p ops.length cap] 50) = W at m1 HB0 HWC HNEW
  have M1 := Lib.hid m1
  clear h1 v1 m1
  go_wp2_with (first | (go_at_call 16; refine (num_any _ _).mono ?_; rintro e w' ⟨rfl, rfl⟩) | (go_at_call 28; refine stop ?_))
  refine go ?_
  refine (awake_any _).mono ?_
  rintro e w2 ⟨rfl, c2⟩
  have m2 := M1.out.quiet c2
  have m3 : Many W (w2.alloc (.cells #[.slice none 0 0] 54)) [Ent.disk d ⟨n, [], false, 0, 0⟩ _, Ent.book w2.heap.size [] [w2.heap.size]] :=
    Many.swap12 (m2.add (y := Ent.book w2.heap.size [] [w2.heap.size]) ((Chg.refl _ w2).alloc _) ⟨.slice none 0 0, [], ⟨halloc_at w2 _, OC_nil _ _ _, fun y hy => (by cases hy), by simp [lblks]⟩, rfl, by simp [lblks]⟩ (good_book _ _ _) fun k hk => by
      obtain rfl : k = w2.heap.size := by simpa [Ent.book] using hk
      exact Nat.le_refl _)
  have M3 := Lib.hid m3
  clear c2 m2 m3
  go_wp2
  generalize w2.heap.size = bb at *
  go_loopw [8, 9] (fun t8 t9 wr => ∃ (K : Int) (k : Nat), t8 = .int .i64 K ∧ t9 = .int .i64 (k : Int) ∧ KRel W wr d bb n k ops.length K) (fun _ t9 _ => ops.length - (Lib.intOf t9).toNat)
  case atStart => exact ⟨0, 0, rfl, rfl, ⟨Nat.zero_le _, by decide, by decide, _, _, _, _, M3.out, ⟨List.Perm.refl _, fun h => absurd rfl h⟩, rfl, Nat.le_refl _⟩⟩
  case round =>
    obtain ⟨K, k, rfl, rfl, hle, hKlo, hKhi, D, B, F, G, hM, hK, hlim, hfl⟩ := hrel
    have hbx := (hM.chg.block _ (hlt_of HB0.out) (fun h => h)).trans HB0.out
    have q2 := hcell_of hbx 2
    simp only [List.getElem?_toArray, List.getElem?_cons_zero, List.getElem?_cons_succ] at q2
    have HM := Lib.hid hM
    have HK := Lib.hid hK
    have HLIM := Lib.hid hlim
    have HFL := Lib.hid hfl
    have HKB := Lib.hid (And.intro hKlo hKhi)
    clear hM hK hlim hfl hbx hKlo hKhi
    by_cases hk : (k : Int) < ops.length
    · obtain ⟨b, off, y, py, cy, rfl, -, hy, hyv, -, hyok, -, p0, p1, p2, p3, p4⟩ := (HO.out.chg (HWC.out.trans HM.out.chg (fun k hk => hk.elim))).op (k := k) (by omega)
      have hyb0 := (HO.out.each y (List.mem_of_getElem? hy)).2
      have hnc : (ops.length : Int) ≤ cap := by have := HNC.out; omega
      have hk0 : (0 : Int) ≤ (k : Int) := by omega
      have hkl : (k : Int) + 1 ≤ 1099511627776 := by have := HLEN.out; omega
      rw [hyv] at p2 hyb0
      have m4 := HM.out.box3 (.cells #[.int .i64 y.1.kind, .string y.1.name, .slice py y.1.b.length cy, .int .i64 y.1.n, .int .i64 y.1.m] 56)
      have hdo := does_any hyok (by have := HFL.out; have := HLEN.out; omega) (m4.swap12.first) (RC.chg hyb0 (HWC.out.trans m4.chg (fun k hk => hk.elim)) fun _ _ h => h)
      simp only [OpP.val, opV] at hdo
      have HDO := Lib.hid hdo
      have HDN := Lib.hid (down_any m4.swap12.first)
      have hpost := keeps_does HM.out.first.ok HK.out y.1
      have HPOST := Lib.hid hpost
      have HYB := Lib.hid hyb0
      have HYL := Lib.hid fun k (hk : sblk (.slice py y.1.b.length cy) = some k) => hyb0.lt hk
      have HYOK := Lib.hid hyok
      have M4 := Lib.hid m4
      clear hdo hpost hyb0 hyok hyv hy m4
      go_wp2_with (first | (go_at_call 22; refine HDN.out.mono ?_; rintro e w' ⟨rfl, rfl⟩) | (go_at_call 29; refine stop ?_))
      refine go ?_
      refine HDO.out.mono ?_
      rintro e w5 ⟨v, rfl, hdid⟩
      have hfd := does_files_le D y.1
      obtain ⟨F2, ⟨a, bv, fv2, l2⟩, hxa, rfl, m5⟩ := M4.out.swap12.did hdid
      have hat : AV.At w5 ⟨a, bv, fv2, l2⟩ := m5.swap12.first
      obtain ⟨hatb, hatf, -⟩ := hat
      simp only at hatb hatf hxa
      obtain ⟨pb, cb, rfl, -⟩ := id hatb
      obtain ⟨pl, cl, rfl, -⟩ := id hatf.sl
      unfold AV.val ansV
      simp only
      have m6 := m5.box3 (.cells #[.int .i64 (a.e : Int), .int .i64 (a.n : Int), .int .i64 (a.m : Int), .slice pb a.b.length cb, .slice pl l2.length cl, .bool a.down] 58)
      have m7 := m6.sub3 (L' := [Ent.box w5.heap.size _, Ent.disk d (Dk.does D y.1).2 F2, Ent.box wr.heap.size _, Ent.book bb B G]) (.cons_cons _ (.cons_cons _ (.cons _ (.cons_cons _ (.cons_cons _ .slnil)))))
      have HDN2 := Lib.hid (down_any m7.swap12.first)
      have HFD := Lib.hid hfd
      subst hxa
      have M7 := Lib.hid m7
      clear hdid hfd hatb hatf m5 m6 m7 p0 p1 p2 p3 p4 q2
      go_wp2_with (first | (go_at_call 22; refine stop ?_))
      refine go ?_
      refine HDN2.out.mono ?_
      rintro e w' ⟨rfl, rfl⟩
      have hybl := fun h => does_put_n (D := D) (o := y.1) HM.out.first.ok h
      have darm := keepd_arm (D := D) (o := y.1)
      have dcra := keepd_crash (D := D) (o := y.1)
      have ddwn := keepd_down (D := D) (o := y.1)
      generalize Dk.does D y.1 = r at *
      have hop : (w5.alloc (.cells #[.int .i64 (r.1.e : Int), .int .i64 (r.1.n : Int), .int .i64 (r.1.m : Int), .slice pb r.1.b.length cb, .slice pl l2.length cl, .bool r.1.down] 58)).heap[wr.heap.size]? = some (.cells #[.int .i64 y.1.kind, .string y.1.name, .slice py y.1.b.length cy, .int .i64 y.1.n, .int .i64 y.1.m] 56 (0, 0)) := M7.out.get (x := Ent.box wr.heap.size _) (by simp)
      have hlimb := (M7.out.chg.block _ (hlt_of HB0.out) (fun h => h)).trans HB0.out
      have s0 := hcell_of hop 0
      have s1 := hcell_of hop 1
      have s2 := hcell_of hop 2
      have s3 := hcell_of hop 3
      have s4 := hcell_of hop 4
      have u0 := hcell_of hlimb 0
      simp only [List.getElem?_toArray, List.getElem?_cons_zero, List.getElem?_cons_succ] at s0 s1 s2 s3 s4 u0
      clear hop hlimb
      have HDD := Lib.hid ddwn
      have HYBL := Lib.hid hybl
      clear ddwn hybl
      by_cases h8 : y.1.kind = 8
      · obtain ⟨a1, a2, a3⟩ := darm h8
        clear darm dcra
        have g8 : (y.1.kind == (8 : Int)) = true := beq_iff_eq.2 h8
        have g9 : (y.1.kind == (9 : Int)) = false := beq_eq_false_iff_ne.2 (by omega)
        by_cases e0 : r.1.e = 0
        · have ge : ((r.1.e : Int) == (0 : Int)) = true := beq_iff_eq.2 (by omega)
          have hkn : keepNext K y.1 r.1 = y.1.m := by unfold keepNext; rw [if_neg (by omega), if_pos ⟨h8, e0⟩]
          have HKV := Lib.hid (show -9223372036854775808 ≤ y.1.m ∧ y.1.m ≤ 9223372036854775807 from ⟨HYOK.out.mLo, HYOK.out.mHi⟩)
          cases HPOST.out with
          | crash S d0 d1 hS p k0 f st => rw [a1, d0] at d1; cases d1
          | none d1 e1 kk => rcases e1 with e1 | e1; · have := a3 e1; omega
                             · exact absurd e0 e1.1
          | enter d0 d1 e1 okE kk =>
            rw [hkn] at kk
            rw [d0, d1]
            clear h8 a1 a2 a3 e0 e1 d0 d1 hkn
            have HPL := Lib.hid (kept_plain HM.out.first.ok HK.out)
            have hen := enters_any (am := (r.1.m : Int)) (dn := r.1.down) okE (by have h1 := HPL.out.2.2.2; have h2 := HFL.out; have h3 := HLEN.out; omega) HPL.out.1 HPL.out.2.1 (fun h => by have := HYBL.out h; omega) (M7.out.get (x := Ent.book bb B G) (by simp)) (RC.chg HYB.out (HWC.out.trans M7.out.chg (fun k hk => hk.elim)) fun _ _ h => h)
              (fun k hk hG => by have h1 := HYL.out k hk; have h2 := M7.out.new (Ent.book bb B G) (by simp) k hG; have h3 := HWC.out.size; omega) ⟨pb, r.1.b.length, cb, rfl⟩ ⟨pl, l2.length, cl, rfl⟩
            simp only [OpP.val, opV, ansV] at hen
            have HEN := Lib.hid hen
            have KEPT := Lib.hid kk
            clear hen okE kk
            go_wp2_with (first | (go_at_call 33; refine stop ?_))
            refine go ?_
            refine HEN.out.mono ?_
            rintro e w8 ⟨rfl, hl8⟩
            obtain ⟨G8, m8⟩ := (Many.last3 (L := [_, _, _]) M7.out).bkLeft hl8
            have M8 := Lib.hid ((m8.sub3 (L' := [Ent.book bb (entered B y.1 r.1) G8, Ent.disk d r.2 F2]) (.cons_cons _ (.cons _ (.cons_cons _ (.cons _ .slnil))))).swap12)
            clear hl8 m8
            go_wp2
            go_roundw
            case rel => exact ⟨y.1.m, k + 1, by first | rfl | go_num, by go_num, ⟨by omega, HKV.out.1, HKV.out.2, r.2, (entered B y.1 r.1), F2, G8, M8.out, KEPT.out, HFD.out.2.trans HLIM.out, by have h1 := HFD.out.1; have h2 := HFL.out; omega⟩⟩
            case measure => simp [Lib.intOf]; omega
        · have ge : ((r.1.e : Int) == (0 : Int)) = false := beq_eq_false_iff_ne.2 (by omega)
          have gf : ((r.1.e : Int) == (111 : Int)) = false := beq_eq_false_iff_ne.2 (by omega)
          have hkn : keepNext K y.1 r.1 = K := by unfold keepNext; rw [if_neg (by omega), if_neg (by omega)]
          have HKV := HKB
          cases HPOST.out with
          | crash S d0 d1 hS p k0 f st => rw [a1, d0] at d1; cases d1
          | enter d0 d1 e1 okE kk => rcases e1 with e1 | e1 <;> omega
          | none d1 e1 kk =>
            rw [hkn] at kk
            rw [a1]
            cases hd : D.down with
            | true =>
              clear h8 a1 a2 a3 e0 e1 d1 hkn hd
              have KEPT := Lib.hid kk
              have M8 := Lib.hid (M7.out.sub3 (L' := [Ent.disk d r.2 F2, Ent.book bb B G]) (.cons _ (.cons_cons _ (.cons _ (.cons_cons _ .slnil)))))
              clear kk
              go_wp2
              go_roundw
              case rel => exact ⟨K, k + 1, by first | rfl | go_num, by go_num, ⟨by omega, HKV.out.1, HKV.out.2, r.2, B, F2, G, M8.out, KEPT.out, HFD.out.2.trans HLIM.out, by have h1 := HFD.out.1; have h2 := HFL.out; omega⟩⟩
              case measure => simp [Lib.intOf]; omega
            | false =>
              clear h8 a1 a2 a3 e0 e1 d1 hkn hd
              have KEPT := Lib.hid kk
              have M8 := Lib.hid (M7.out.sub3 (L' := [Ent.disk d r.2 F2, Ent.book bb B G]) (.cons _ (.cons_cons _ (.cons _ (.cons_cons _ .slnil)))))
              clear kk
              go_wp2
              go_roundw
              case rel => exact ⟨K, k + 1, by first | rfl | go_num, by go_num, ⟨by omega, HKV.out.1, HKV.out.2, r.2, B, F2, G, M8.out, KEPT.out, HFD.out.2.trans HLIM.out, by have h1 := HFD.out.1; have h2 := HFL.out; omega⟩⟩
              case measure => simp [Lib.intOf]; omega
      · have g8 : (y.1.kind == (8 : Int)) = false := beq_eq_false_iff_ne.2 h8
        by_cases h9 : y.1.kind = 9
        · have g9 : (y.1.kind == (9 : Int)) = true := beq_iff_eq.2 h9
          have g1 : (y.1.kind == (1 : Int)) = false := beq_eq_false_iff_ne.2 (by omega)
          rcases dcra h9 with ⟨e0, d0, d1⟩ | ⟨e0, er⟩
          · have ge : ((r.1.e : Int) == (0 : Int)) = true := beq_iff_eq.2 (by omega)
            have hkn : keepNext K y.1 r.1 = y.1.n := by unfold keepNext; rw [if_pos ⟨h9, e0⟩]
            cases HPOST.out with
            | enter d0' d1' e1 okE kk => rw [d1] at d1'; cases d1'
            | none d1' e1 kk => rcases d1' with h | h; · rw [d0] at h; cases h
                                · rw [d1] at h; cases h
            | crash S d0' d1' hS p k0 f st =>
              rw [hkn] at k0 f
              obtain ⟨q, hq⟩ := Int.eq_ofNat_of_zero_le k0
              rw [d0, d1]
              have HPL := Lib.hid (kept_plain HM.out.first.ok HK.out)
              have HMET := Lib.hid (met_ok HM.out.first.ok HK.out p)
              have HPP : Hid (B.Perm S) := Lib.hid (by unfold met at p; rw [if_neg (by omega)] at p; exact p)
              have HBL : Hid (B.length ≤ 1099511627776) := Lib.hid (by have h1 := HPL.out.2.2.2; have h2 := HFL.out; have h3 := HLEN.out; omega)
              have HLF : Hid (r.2.files = loseL q S) := Lib.hid (by rw [f, hq]; rfl)
              have HSS := Lib.hid hS
              have HST := Lib.hid st
              have HKV : Hid (-9223372036854775808 ≤ (q : Int) ∧ (q : Int) ≤ 9223372036854775807) := Lib.hid (by rw [← hq]; exact ⟨HYOK.out.nLo, HYOK.out.nHi⟩)
              have MX := Lib.hid (M7.out.sub3 (L' := [Ent.disk d r.2 F2, Ent.book bb B G]) (.cons _ (.cons_cons _ (.cons _ (.cons_cons _ .slnil)))))
              rw [hq] at s3
              clear h8 h9 darm dcra e0 d0 d1 d0' d1' hS p k0 f st hkn hq
              go_wp2_with (first | (go_at_call 24; refine stop ?_))
              refine go ?_
              refine (files_any (by have h1 := HFD.out.1; have h2 := HFL.out; have h3 := HLEN.out; omega) (MX.out.first)).mono ?_
              rintro e w9 ⟨v9, l9, rfl, f1, f2, f3, f4⟩
              obtain ⟨p9, c9, rfl, -⟩ := id f1.sl
              have m9 := MX.out.quiet f4
              have hlf := left_any (q := q) HKV.out.2 HBL.out HMET.out.2.1 (m9.get (x := Ent.book bb B G) (by simp)) f1 HSS.out HMET.out.1 HPP.out (f2.trans HLF.out)
              have HLE := Lib.hid hlf
              have HF2' := Lib.hid f2
              have M9 := Lib.hid m9
              clear f1 f2 f3 f4 m9 hlf
              go_wp2_with (first | (go_at_call 32; refine stop ?_))
              refine go ?_
              refine HLE.out.mono ?_
              rintro e w8 ⟨rfl, hl8⟩
              rw [HF2'.out] at hl8
              obtain ⟨G8, m8⟩ := (M9.out.swap12).bkLeft hl8
              have M8 := Lib.hid m8.swap12
              have KEPT : Hid (Kept r.2 r.2.files (q : Int)) := Lib.hid ⟨List.Perm.refl _, fun h => absurd HST.out h⟩
              clear hl8 m8
              go_wp2
              go_roundw
              case rel => exact ⟨(q : Int), k + 1, by first | rfl | go_num, by go_num, ⟨by omega, HKV.out.1, HKV.out.2, r.2, r.2.files, F2, G8, M8.out, KEPT.out, HFD.out.2.trans HLIM.out, by have h1 := HFD.out.1; have h2 := HFL.out; omega⟩⟩
              case measure => simp [Lib.intOf]; omega
          · have ge : ((r.1.e : Int) == (0 : Int)) = false := beq_eq_false_iff_ne.2 (by omega)
            have gf : ((r.1.e : Int) == (111 : Int)) = false := beq_eq_false_iff_ne.2 (by omega)
            have hkn : keepNext K y.1 r.1 = K := by unfold keepNext; rw [if_neg (by omega), if_neg (by omega)]
            have HKV := HKB
            cases HPOST.out with
            | crash S d0 d1 hS p k0 f st => rw [er, d0] at d1; cases d1
            | enter d0 d1 e1 okE kk => rcases e1 with e1 | e1 <;> omega
            | none d1 e1 kk =>
              rw [hkn] at kk
              have hrd : r.2.down = D.down := by rw [er]
              rw [hrd]
              cases hd : D.down with
              | true =>
                clear h8 h9 darm dcra e0 er e1 d1 hkn hd hrd
                have KEPT := Lib.hid kk
                have M8 := Lib.hid (M7.out.sub3 (L' := [Ent.disk d r.2 F2, Ent.book bb B G]) (.cons _ (.cons_cons _ (.cons _ (.cons_cons _ .slnil)))))
                clear kk
                go_wp2
                go_roundw
                case rel => exact ⟨K, k + 1, by first | rfl | go_num, by go_num, ⟨by omega, HKV.out.1, HKV.out.2, r.2, B, F2, G, M8.out, KEPT.out, HFD.out.2.trans HLIM.out, by have h1 := HFD.out.1; have h2 := HFL.out; omega⟩⟩
                case measure => simp [Lib.intOf]; omega
              | false =>
                clear h8 h9 darm dcra e0 er e1 d1 hkn hd hrd
                have KEPT := Lib.hid kk
                have M8 := Lib.hid (M7.out.sub3 (L' := [Ent.disk d r.2 F2, Ent.book bb B G]) (.cons _ (.cons_cons _ (.cons _ (.cons_cons _ .slnil)))))
                clear kk
                go_wp2
                go_roundw
                case rel => exact ⟨K, k + 1, by first | rfl | go_num, by go_num, ⟨by omega, HKV.out.1, HKV.out.2, r.2, B, F2, G, M8.out, KEPT.out, HFD.out.2.trans HLIM.out, by have h1 := HFD.out.1; have h2 := HFL.out; omega⟩⟩
                case measure => simp [Lib.intOf]; omega
        · have g9 : (y.1.kind == (9 : Int)) = false := beq_eq_false_iff_ne.2 h9
          have hkn : keepNext K y.1 r.1 = K := keep_plain h8 h9
          by_cases hd : D.down = true
          · have HKV := HKB
            cases HPOST.out with
            | crash S d0 d1 hS p k0 f st => rw [hd] at d0; cases d0
            | enter d0 d1 e1 okE kk => rw [hd] at d0; cases d0
            | none d1 e1 kk =>
              rw [hkn] at kk
              rw [hd]
              rcases HDD.out hd with ⟨e0, dn⟩ | ⟨e0, dn⟩ | ⟨e0, dn⟩
              · have ge : ((r.1.e : Int) == (0 : Int)) = false := beq_eq_false_iff_ne.2 (by omega)
                have gf : ((r.1.e : Int) == (111 : Int)) = false := beq_eq_false_iff_ne.2 (by omega)
                rw [dn]
                clear h8 h9 darm dcra e0 e1 d1 hkn hd dn
                have KEPT := Lib.hid kk
                have M8 := Lib.hid (M7.out.sub3 (L' := [Ent.disk d r.2 F2, Ent.book bb B G]) (.cons _ (.cons_cons _ (.cons _ (.cons_cons _ .slnil)))))
                clear kk
                go_wp2
                go_roundw
                case rel => exact ⟨K, k + 1, by first | rfl | go_num, by go_num, ⟨by omega, HKV.out.1, HKV.out.2, r.2, B, F2, G, M8.out, KEPT.out, HFD.out.2.trans HLIM.out, by have h1 := HFD.out.1; have h2 := HFL.out; omega⟩⟩
                case measure => simp [Lib.intOf]; omega
              · have ge : ((r.1.e : Int) == (0 : Int)) = true := beq_iff_eq.2 (by omega)
                rw [dn]
                clear h8 h9 darm dcra e0 e1 d1 hkn hd dn
                have KEPT := Lib.hid kk
                have M8 := Lib.hid (M7.out.sub3 (L' := [Ent.disk d r.2 F2, Ent.book bb B G]) (.cons _ (.cons_cons _ (.cons _ (.cons_cons _ .slnil)))))
                clear kk
                go_wp2
                go_roundw
                case rel => exact ⟨K, k + 1, by first | rfl | go_num, by go_num, ⟨by omega, HKV.out.1, HKV.out.2, r.2, B, F2, G, M8.out, KEPT.out, HFD.out.2.trans HLIM.out, by have h1 := HFD.out.1; have h2 := HFL.out; omega⟩⟩
                case measure => simp [Lib.intOf]; omega
              · have ge : ((r.1.e : Int) == (0 : Int)) = true := beq_iff_eq.2 (by omega)
                rw [dn]
                clear h8 h9 darm dcra e0 e1 d1 hkn hd dn
                have KEPT := Lib.hid kk
                have M8 := Lib.hid (M7.out.sub3 (L' := [Ent.disk d r.2 F2, Ent.book bb B G]) (.cons _ (.cons_cons _ (.cons _ (.cons_cons _ .slnil)))))
                clear kk
                go_wp2
                go_roundw
                case rel => exact ⟨K, k + 1, by first | rfl | go_num, by go_num, ⟨by omega, HKV.out.1, HKV.out.2, r.2, B, F2, G, M8.out, KEPT.out, HFD.out.2.trans HLIM.out, by have h1 := HFD.out.1; have h2 := HFL.out; omega⟩⟩
                case measure => simp [Lib.intOf]; omega
          · have hd' : D.down = false := by simpa using hd
            rw [hd']
            cases HPOST.out with
            | enter d0 d1 e1 okE kk =>
              rw [hkn] at kk
              rw [d1]
              have HKV := HKB
              rcases e1 with e1 | e1
              · have ge : ((r.1.e : Int) == (0 : Int)) = true := beq_iff_eq.2 (by omega)
                clear h8 h9 darm dcra e1 d0 d1 hkn hd hd'
                have HPL := Lib.hid (kept_plain HM.out.first.ok HK.out)
                have hen := enters_any (am := (r.1.m : Int)) (dn := r.1.down) okE (by have h1 := HPL.out.2.2.2; have h2 := HFL.out; have h3 := HLEN.out; omega) HPL.out.1 HPL.out.2.1 (fun h => by have := HYBL.out h; omega) (M7.out.get (x := Ent.book bb B G) (by simp)) (RC.chg HYB.out (HWC.out.trans M7.out.chg (fun k hk => hk.elim)) fun _ _ h => h)
                  (fun k hk hG => by have h1 := HYL.out k hk; have h2 := M7.out.new (Ent.book bb B G) (by simp) k hG; have h3 := HWC.out.size; omega) ⟨pb, r.1.b.length, cb, rfl⟩ ⟨pl, l2.length, cl, rfl⟩
                simp only [OpP.val, opV, ansV] at hen
                have HEN := Lib.hid hen
                have KEPT := Lib.hid kk
                clear hen okE kk
                go_wp2_with (first | (go_at_call 33; refine stop ?_))
                refine go ?_
                refine HEN.out.mono ?_
                rintro e w8 ⟨rfl, hl8⟩
                obtain ⟨G8, m8⟩ := (Many.last3 (L := [_, _, _]) M7.out).bkLeft hl8
                have M8 := Lib.hid ((m8.sub3 (L' := [Ent.book bb (entered B y.1 r.1) G8, Ent.disk d r.2 F2]) (.cons_cons _ (.cons _ (.cons_cons _ (.cons _ .slnil))))).swap12)
                clear hl8 m8
                go_wp2
                go_roundw
                case rel => exact ⟨K, k + 1, by first | rfl | go_num, by go_num, ⟨by omega, HKV.out.1, HKV.out.2, r.2, (entered B y.1 r.1), F2, G8, M8.out, KEPT.out, HFD.out.2.trans HLIM.out, by have h1 := HFD.out.1; have h2 := HFL.out; omega⟩⟩
                case measure => simp [Lib.intOf]; omega
              · have ge : ((r.1.e : Int) == (0 : Int)) = false := beq_eq_false_iff_ne.2 (by omega)
                have gf : ((r.1.e : Int) == (111 : Int)) = true := beq_iff_eq.2 (by omega)
                clear h8 h9 darm dcra e1 d0 d1 hkn hd hd'
                have HPL := Lib.hid (kept_plain HM.out.first.ok HK.out)
                have hen := enters_any (am := (r.1.m : Int)) (dn := r.1.down) okE (by have h1 := HPL.out.2.2.2; have h2 := HFL.out; have h3 := HLEN.out; omega) HPL.out.1 HPL.out.2.1 (fun h => by have := HYBL.out h; omega) (M7.out.get (x := Ent.book bb B G) (by simp)) (RC.chg HYB.out (HWC.out.trans M7.out.chg (fun k hk => hk.elim)) fun _ _ h => h)
                  (fun k hk hG => by have h1 := HYL.out k hk; have h2 := M7.out.new (Ent.book bb B G) (by simp) k hG; have h3 := HWC.out.size; omega) ⟨pb, r.1.b.length, cb, rfl⟩ ⟨pl, l2.length, cl, rfl⟩
                simp only [OpP.val, opV, ansV] at hen
                have HEN := Lib.hid hen
                have KEPT := Lib.hid kk
                clear hen okE kk
                go_wp2_with (first | (go_at_call 33; refine stop ?_))
                refine go ?_
                refine HEN.out.mono ?_
                rintro e w8 ⟨rfl, hl8⟩
                obtain ⟨G8, m8⟩ := (Many.last3 (L := [_, _, _]) M7.out).bkLeft hl8
                have M8 := Lib.hid ((m8.sub3 (L' := [Ent.book bb (entered B y.1 r.1) G8, Ent.disk d r.2 F2]) (.cons_cons _ (.cons _ (.cons_cons _ (.cons _ .slnil))))).swap12)
                clear hl8 m8
                go_wp2
                go_roundw
                case rel => exact ⟨K, k + 1, by first | rfl | go_num, by go_num, ⟨by omega, HKV.out.1, HKV.out.2, r.2, (entered B y.1 r.1), F2, G8, M8.out, KEPT.out, HFD.out.2.trans HLIM.out, by have h1 := HFD.out.1; have h2 := HFL.out; omega⟩⟩
                case measure => simp [Lib.intOf]; omega
            | none d1 e1 kk =>
              rw [hkn] at kk
              have HKV := HKB
              have dn : r.2.down = false := d1.elim (fun h => absurd h hd) id
              obtain ⟨e0, ef⟩ : r.1.e ≠ 0 ∧ r.1.e ≠ 111 := e1.elim (fun h => absurd h hd) id
              have ge : ((r.1.e : Int) == (0 : Int)) = false := beq_eq_false_iff_ne.2 (by omega)
              have gf : ((r.1.e : Int) == (111 : Int)) = false := beq_eq_false_iff_ne.2 (by omega)
              rw [dn]
              clear h8 h9 darm dcra e0 ef e1 d1 hkn hd hd' dn
              have KEPT := Lib.hid kk
              have M8 := Lib.hid (M7.out.sub3 (L' := [Ent.disk d r.2 F2, Ent.book bb B G]) (.cons _ (.cons_cons _ (.cons _ (.cons_cons _ .slnil)))))
              clear kk
              go_wp2
              go_roundw
              case rel => exact ⟨K, k + 1, by first | rfl | go_num, by go_num, ⟨by omega, HKV.out.1, HKV.out.2, r.2, B, F2, G, M8.out, KEPT.out, HFD.out.2.trans HLIM.out, by have h1 := HFD.out.1; have h2 := HFL.out; omega⟩⟩
              case measure => simp [Lib.intOf]; omega
            | crash S d0' d1' hS p k0 f st =>
              rw [hkn] at k0 f
              obtain ⟨q, hq⟩ := Int.eq_ofNat_of_zero_le k0
              rw [d1']
              have HPL := Lib.hid (kept_plain HM.out.first.ok HK.out)
              have HMET := Lib.hid (met_ok HM.out.first.ok HK.out p)
              have HLF : Hid (r.2.files = loseL q S) := Lib.hid (by rw [f, hq]; rfl)
              have HSS := Lib.hid hS
              have HST := Lib.hid st
              have HKV : Hid (-9223372036854775808 ≤ (q : Int) ∧ (q : Int) ≤ 9223372036854775807) := Lib.hid (by rw [← hq]; exact HKB.out)
              rw [hq]
              by_cases h1 : y.1.kind = 1
              · have g1 : (y.1.kind == (1 : Int)) = true := beq_iff_eq.2 h1
                obtain ⟨mm, hmm⟩ : ∃ mm, mm = min y.1.b.length (n - total B) := ⟨_, rfl⟩
                have hpp : (bput y.1.name (y.1.b.take mm) B).Perm S := by
                  unfold met at p; rw [if_pos h1, HLIM.out, ← hmm] at p; exact p
                have HPP := Lib.hid hpp
                have hbl : (bput y.1.name (y.1.b.take mm) B).length ≤ 1099511627776 := by
                  have h1 := HPL.out.2.2.2; have h2 := HFL.out; have h3 := HLEN.out
                  have h4 : (bput y.1.name (y.1.b.take mm) B).length ≤ B.length + 1 := by
                    unfold bput
                    cases Dm.get B y.1.name with
                    | some f => simp [upd]
                    | none => simp
                  omega
                have HBL := Lib.hid hbl
                have hTn : total B ≤ n := by rw [← HLIM.out]; exact HPL.out.2.2.1
                have hT0 : (0 : Int) ≤ (total B : Int) := by omega
                have hT1 : (total B : Int) ≤ (n : Int) := by omega
                have hmx : max (0 : Int) (min (y.1.b.length : Int) ((n : Int) - (total B : Int))) = (mm : Int) := by omega
                have hm0 : (0 : Int) ≤ (mm : Int) := by omega
                have hml : mm ≤ y.1.b.length := by omega
                have hcy : y.1.b.length ≤ cy := by obtain ⟨p', c', e, h1, -⟩ := HYB.out; simp only [Value.slice.injEq] at e; omega
                have hm1 : (mm : Int) ≤ (cy : Int) := by omega
                have hbl2 : (y.1.b.length : Int) ≤ 140737488355328 := by have := HYOK.out.b; omega
                have hmn : mm ≤ 1099511627776 := by omega
                have HTO := Lib.hid fun U (hU : BkRep U bb B G) => total_any (w := U) (b := bb) (by have h1 := HPL.out.2.2.2; have h2 := HFL.out; have h3 := HLEN.out; omega) HPL.out.2.1 hU
                have HTK := Lib.hid (RB.takeQ2 HYB.out mm hml)
                have HWR := Lib.hid fun U (L : List Ent) (hm : Many W U L) (hU : BkRep U bb B G) => wrote_any (w := U) (b := bb) (nm := y.1.name) (bv := .slice py mm cy) (bs := y.1.b.take mm) (by have h1 := HPL.out.2.2.2; have h2 := HFL.out; have h3 := HLEN.out; omega) HPL.out.1 HPL.out.2.1 (by simp; omega) hU
                  (RC.chg HTK.out (HWC.out.trans hm.chg (fun k hk => hk.elim)) fun _ _ h => h) (fun k hk hG => by
                    have hk2 : sblk (.slice py y.1.b.length cy) = some k := by
                      cases py with
                      | none => simp [sblk] at hk
                      | some p =>
                        have hc : cy ≠ 0 := fun e => by subst e; simp [sblk] at hk
                        rw [sblk_some hc] at hk ⊢; exact hk
                    have h1 := HYL.out k hk2; have h2 := M7.out.new (Ent.book bb B G) (by simp) k hG; have h3 := HWC.out.size; omega)
                generalize total B = T at *
                clear h8 h9 darm dcra d0' d1' hS p k0 f st hkn hq hd hd' h1 hmm hpp hbl hTn hml hcy hmn
                go_wp2
                refine Rx.ws_region (fun w' => w'.cell? ⟨w.heap.size, 0, none⟩ = some (.int .i64 (n : Int))) [(2, .r), (0, .h), (1, .h), (3, .e), (4, .r), (5, .r)] (by kernel_rfl) (by kernel_rfl) (u0) (fun _ _ x _ _ h => (by cases x <;> exact h)) ?_
                (refine Rx.ws_q rfl rfl ?_; go_wp2; refine Rx.atS_mk ?_)
                iterate 2 (refine Rx.ws_h (v := ?_) rfl rfl ?_ ?_; rotate_left; (intro w' hS'; go_simp; try with_reducible rfl))
                refine Rx.ws_e rfl ?_
                go_wp2_with (first | (go_at_call 30; refine stop ?_))
                refine go ?_
                refine (HTO.out _ ((M7.out.drewN 1).get (x := Ent.book bb B G) (by simp))).mono ?_
                rintro e w' ⟨rfl, rfl⟩
                go_wp2
                refine ⟨(by exact u0), ?_⟩
                iterate 2 (refine Rx.ws_q rfl rfl ?_; go_wp2; refine Rx.atS_mk ?_)
                refine Rx.ws_nil ?_
                go_wp2
                refine Rx.ws_region (fun _ => True) [(0, .r), (1, .r), (2, .r), (3, .r), (4, .r), (5, .r), (6, .r), (7, .r), (8, .r), (9, .r), (10, .r), (11, .r), (12, .e)] (by kernel_rfl) (by kernel_rfl) trivial (fun _ _ x _ _ h => (by cases x <;> exact h)) ?_
                iterate 12 (refine Rx.ws_q rfl rfl ?_; go_wp2; refine Rx.atS_mk ?_)
                refine Rx.ws_e rfl ?_
                have mq := (M7.out.drewN 1).drewN 1
                go_wp2_with (first | (go_at_call 31; refine stop ?_))
                refine go ?_
                refine (HWR.out _ _ mq (mq.get (x := Ent.book bb B G) (by simp))).mono ?_
                rintro e w7 ⟨rfl, hl7⟩
                obtain ⟨G7, m7⟩ := (Many.last3 (L := [_, _, _]) mq).bkLeft hl7
                have MX := Lib.hid ((m7.sub3 (L' := [Ent.book bb (bput y.1.name (y.1.b.take mm) B) G7, Ent.disk d r.2 F2]) (.cons_cons _ (.cons _ (.cons_cons _ (.cons _ .slnil))))).swap12)
                clear hl7 m7 mq
                go_wp2
                refine ⟨trivial, ?_⟩
                refine Rx.ws_nil ?_
                clear s0 s1 s2 s3 s4 u0
                go_wp2_with (first | (go_at_call 24; refine stop ?_))
                refine go ?_
                refine (files_any (by have h1 := HFD.out.1; have h2 := HFL.out; have h3 := HLEN.out; omega) (MX.out.first)).mono ?_
                rintro e w9 ⟨v9, l9, rfl, f1, f2, f3, f4⟩
                obtain ⟨p9, c9, rfl, -⟩ := id f1.sl
                have m9 := MX.out.quiet f4
                have hlf := left_any (q := q) HKV.out.2 HBL.out HMET.out.2.1 (m9.get (x := Ent.book bb (bput y.1.name (y.1.b.take mm) B) G7) (by simp)) f1 HSS.out HMET.out.1 HPP.out (f2.trans HLF.out)
                have HLE := Lib.hid hlf
                have HF2' := Lib.hid f2
                have M9 := Lib.hid m9
                clear f1 f2 f3 f4 m9 hlf
                go_wp2_with (first | (go_at_call 32; refine stop ?_))
                refine go ?_
                refine HLE.out.mono ?_
                rintro e w8 ⟨rfl, hl8⟩
                rw [HF2'.out] at hl8
                obtain ⟨G8, m8⟩ := (M9.out.swap12).bkLeft hl8
                have M8 := Lib.hid m8.swap12
                have KEPT : Hid (Kept r.2 r.2.files (q : Int)) := Lib.hid ⟨List.Perm.refl _, fun h => absurd HST.out h⟩
                clear hl8 m8
                go_wp2
                go_roundw
                case rel => exact ⟨(q : Int), k + 1, by first | rfl | go_num, by go_num, ⟨by omega, HKV.out.1, HKV.out.2, r.2, r.2.files, F2, G8, M8.out, KEPT.out, HFD.out.2.trans HLIM.out, by have h1 := HFD.out.1; have h2 := HFL.out; omega⟩⟩
                case measure => simp [Lib.intOf]; omega
              · have g1 : (y.1.kind == (1 : Int)) = false := beq_eq_false_iff_ne.2 h1
                have HPP : Hid (B.Perm S) := Lib.hid (by unfold met at p; rw [if_neg h1] at p; exact p)
                have HBL : Hid (B.length ≤ 1099511627776) := Lib.hid (by have h1 := HPL.out.2.2.2; have h2 := HFL.out; have h3 := HLEN.out; omega)
                have MX := Lib.hid (M7.out.sub3 (L' := [Ent.disk d r.2 F2, Ent.book bb B G]) (.cons _ (.cons_cons _ (.cons _ (.cons_cons _ .slnil)))))
                clear h8 h9 darm dcra d0' d1' hS p k0 f st hkn hq hd hd' h1
                go_wp2_with (first | (go_at_call 24; refine stop ?_))
                refine go ?_
                refine (files_any (by have h1 := HFD.out.1; have h2 := HFL.out; have h3 := HLEN.out; omega) (MX.out.first)).mono ?_
                rintro e w9 ⟨v9, l9, rfl, f1, f2, f3, f4⟩
                obtain ⟨p9, c9, rfl, -⟩ := id f1.sl
                have m9 := MX.out.quiet f4
                have hlf := left_any (q := q) HKV.out.2 HBL.out HMET.out.2.1 (m9.get (x := Ent.book bb B G) (by simp)) f1 HSS.out HMET.out.1 HPP.out (f2.trans HLF.out)
                have HLE := Lib.hid hlf
                have HF2' := Lib.hid f2
                have M9 := Lib.hid m9
                clear f1 f2 f3 f4 m9 hlf
                go_wp2_with (first | (go_at_call 32; refine stop ?_))
                refine go ?_
                refine HLE.out.mono ?_
                rintro e w8 ⟨rfl, hl8⟩
                rw [HF2'.out] at hl8
                obtain ⟨G8, m8⟩ := (M9.out.swap12).bkLeft hl8
                have M8 := Lib.hid m8.swap12
                have KEPT : Hid (Kept r.2 r.2.files (q : Int)) := Lib.hid ⟨List.Perm.refl _, fun h => absurd HST.out h⟩
                clear hl8 m8
                go_wp2
                go_roundw
                case rel => exact ⟨(q : Int), k + 1, by first | rfl | go_num, by go_num, ⟨by omega, HKV.out.1, HKV.out.2, r.2, r.2.files, F2, G8, M8.out, KEPT.out, HFD.out.2.trans HLIM.out, by have h1 := HFD.out.1; have h2 := HFL.out; omega⟩⟩
                case measure => simp [Lib.intOf]; omega
    · have HPL := Lib.hid (kept_plain HM.out.first.ok HK.out)
      go_wp2_with (first | (go_at_call 24; refine stop ?_))
      refine go ?_
      refine (files_any (by have h2 := HFL.out; have h3 := HLEN.out; omega) HM.out.first).mono ?_
      rintro e w9 ⟨v9, l9, rfl, f1, f2, f3, f4⟩
      have m9 := HM.out.quiet f4
      have hho := holds_any (by have h1 := HPL.out.2.2.2; have h2 := HFL.out; have h3 := HLEN.out; omega) (m9.get (x := Ent.book bb B G) (by simp)) f1 (by rw [f2]; exact HM.out.first.ok.sorted) (by rw [f2]; exact HK.out.perm)
      obtain ⟨p9, c9, rfl, -⟩ := id f1.sl
      have HHO := Lib.hid hho
      have M9 := Lib.hid m9
      clear f1 f2 f3 f4 m9 hho
      go_wp2_with (first | (go_at_call 34; refine stop ?_))
      refine go ?_
      refine HHO.out.mono ?_
      rintro e w10 ⟨rfl, c10⟩
      have C10 := Lib.hid ((HWC.out.trans M9.out.chg fun _ h => h.elim).trans c10 fun _ h => h.elim)
      clear c10
      go_wp2
      go_ret
      exact ⟨rfl, C10.out⟩
end
end Go.Proofs
