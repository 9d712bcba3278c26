/- DiskArmedIsCrash's walk. Conditions: the script's ops lie as OpsAt says. -/
import Derived.Test.YthnemjnepnbjpaaPa
import Derived.Test.YthnemjnepnbjpaaAl
namespace Go.Proofs
open Go.RowKit Go.Hp Go.Dm Go.Dr
set_option linter.unusedVariables false
set_option maxRecDepth 10000

/-- two disks apart; all that has changed since W lies in them or is new -/
structure Two (W w : World) (d c : Nat) (D C : Dk) (F G : List Nat) : Prop where
  d : DRep w d D F
  c : DRep w c C G
  ed : Ev [] F W w
  ec : Ev [] G W w
  apart : ∀ k ∈ F, k ∉ G

section
variable {W w w' : World} {d c : Nat} {D C D' C' : Dk} {F G F' G' : List Nat}
theorem Two.left (h : Two W w d c D C F G) (h1 : DRep w' d D' F') (h2 : Ev F F' w w') : Two W w' d c D' C F' G where
  d := h1
  c := h.c.keep fun k hk => h2.block (h.c.lt k hk) fun hF => h.apart k hF hk
  ed := h.ed.trans h2
  ec := ⟨(h.ed.trans h2).chg, h.ec.new⟩
  apart := fun k hk hG => (h2.new k hk).elim (fun hF => h.apart k hF hG) (fun hs => by have := h.c.lt k hG; omega)
theorem Two.swap (h : Two W w d c D C F G) : Two W w c d C D G F := ⟨h.c, h.d, h.ec, h.ed, fun k hk hG => h.apart k hG hk⟩
theorem Two.right (h : Two W w d c D C F G) (h1 : DRep w' c C' G') (h2 : Ev G G' w w') : Two W w' d c D C' F G' := (h.swap.left h1 h2).swap
theorem Two.quiet (h : Two W w d c D C F G) (hc : Chg (fun _ => False) w w') : Two W w' d c D C F G where
  d := h.d.chg hc fun _ _ h => h
  c := h.c.chg hc fun _ _ h => h
  ed := h.ed.quiet hc
  ec := h.ec.quiet hc
  apart := h.apart
theorem Two.alloc (h : Two W w d c D C F G) (o : Obj) : Two W (w.alloc o) d c D C F G := h.quiet ((Chg.refl _ w).alloc o)
theorem Two.mk2 {w1 : World} (h1 : DRep w1 d D F) (e1 : Ev [] F W w1) (h2 : DRep w c C G) (e2 : Ev [] G w1 w) : Two W w d c D C F G where
  d := h1.keep fun k hk => e2.block (h1.lt k hk) (by simp)
  c := h2
  ed := ⟨(e1.trans ⟨e2.chg.mono fun k hk => (by cases hk), fun k hk => .inl hk⟩ : Ev [] F W w).chg, e1.new⟩
  ec := ⟨(e1.trans ⟨e2.chg.mono fun k hk => (by cases hk), fun k hk => .inl hk⟩ : Ev [] F W w).chg, fun k hk => .inr ((e2.new k hk).elim (fun h => by cases h) (fun h => Nat.le_trans e1.chg.size h))⟩
  apart := fun k hk hG => (e2.new k hG).elim (fun h => by cases h) (fun h => by have := h1.lt k hk; omega)
end

section
variable {w : World} {ops : List (OpP × Value)} {fv ov : Value}

set_option maxHeartbeats 4000000 in
theorem armed_bad (n s q : Int) (hn : n < 0 ∨ 1099511627776 < n) :
    Calls Try.prog 7 #[.agg #[.int .i64 n, fv, ov], .int .i64 s, .int .i64 q] w fun e w' => e = .returned (.bool true) ∧ Chg (fun _ => False) w w' := by
  have hnew := fun W => new_bad (w := W) n hn
  have HNEW := Lib.hid hnew
  clear hnew
  by_cases h0 : n < 0
  · clear hn
    go_enter Try.func7, Try.ntmps7
    go_wp2_with (first | (go_at_call 16; refine (num_any _ _).mono ?_; rintro e w' ⟨rfl, rfl⟩) | (go_at_call 15; refine (HNEW.out _).mono ?_; rintro e w' ⟨rfl, rfl⟩) | (go_at_call 28; refine (awake_any _).mono ?_; rintro e w' ⟨rfl, hc⟩))
    go_ret
    exact ⟨rfl, ((Chg.refl (fun _ => False) w).alloc _).trans hc (fun k hk => hk.elim)⟩
  · have h1 : 1099511627776 < n := by omega
    clear hn
    go_enter Try.func7, Try.ntmps7
    go_wp2_with (first | (go_at_call 16; refine (num_any _ _).mono ?_; rintro e w' ⟨rfl, rfl⟩) | (go_at_call 15; refine (HNEW.out _).mono ?_; rintro e w' ⟨rfl, rfl⟩) | (go_at_call 28; refine (awake_any _).mono ?_; rintro e w' ⟨rfl, hc⟩))
    go_ret
    exact ⟨rfl, ((Chg.refl (fun _ => False) w).alloc _).trans hc (fun k hk => hk.elim)⟩


set_option maxHeartbeats 4000000 in
/-- steps or keep out of the law's range: it answers at once -/
theorem armed_early (n : Nat) (s q : Int) (hn : n ≤ 1099511627776) (hs : s < 1 ∨ q < 0) :
    Calls Try.prog 7 #[.agg #[.int .i64 (n : Int), fv, ov], .int .i64 s, .int .i64 q] w fun e w' => e = .returned (.bool true) ∧ Chg (fun _ => False) w w' := by
  have hnew := fun W => new_ok (w := W) n hn
  have HNEW := Lib.hid hnew
  clear hnew hn
  by_cases h0 : s < 1
  · clear hs
    go_enter Try.func7, Try.ntmps7
    go_wp2_with (first | (go_at_call 16; refine (num_any _ _).mono ?_; rintro e w' ⟨rfl, rfl⟩) | (go_at_call 15; refine stop ?_))
    refine go ?_
    refine (HNEW.out _).mono ?_
    rintro e w1 ⟨rfl, -, v1⟩
    have V1 := Lib.hid v1.chg
    have q1 := hcell_of ((v1.block (by simp) (by simp)).trans (halloc_at w (.cells #[.int .i64 (n : Int), fv, ov] 50))) 0
    simp only [List.getElem?_toArray, List.getElem?_cons_zero] at q1
    clear v1
    go_wp2_with (first | (go_at_call 16; refine (num_any _ _).mono ?_; rintro e w' ⟨rfl, rfl⟩) | (go_at_call 15; refine stop ?_))
    refine go ?_
    refine (HNEW.out _).mono ?_
    rintro e w2 ⟨rfl, -, v2⟩
    have V2 := Lib.hid v2.chg
    clear v2
    go_wp2_with (first | (go_at_call 16; refine (num_any _ _).mono ?_; rintro e w' ⟨rfl, rfl⟩) | (go_at_call 28; refine (awake_any _).mono ?_; rintro e w' ⟨rfl, hc⟩))
    go_ret
    exact ⟨rfl, ((((Chg.refl (fun _ => False) w).alloc _).trans V1.out (fun k hk => by cases hk)).trans V2.out (fun k hk => by cases hk)).trans hc (fun k hk => hk.elim)⟩
  · have h1 : q < 0 := by omega
    clear hs
    go_enter Try.func7, Try.ntmps7
    go_wp2_with (first | (go_at_call 16; refine (num_any _ _).mono ?_; rintro e w' ⟨rfl, rfl⟩) | (go_at_call 15; refine stop ?_))
    refine go ?_
    refine (HNEW.out _).mono ?_
    rintro e w1 ⟨rfl, -, v1⟩
    have V1 := Lib.hid v1.chg
    have q1 := hcell_of ((v1.block (by simp) (by simp)).trans (halloc_at w (.cells #[.int .i64 (n : Int), fv, ov] 50))) 0
    simp only [List.getElem?_toArray, List.getElem?_cons_zero] at q1
    clear v1
    go_wp2_with (first | (go_at_call 16; refine (num_any _ _).mono ?_; rintro e w' ⟨rfl, rfl⟩) | (go_at_call 15; refine stop ?_))
    refine go ?_
    refine (HNEW.out _).mono ?_
    rintro e w2 ⟨rfl, -, v2⟩
    have V2 := Lib.hid v2.chg
    clear v2
    go_wp2_with (first | (go_at_call 16; refine (num_any _ _).mono ?_; rintro e w' ⟨rfl, rfl⟩) | (go_at_call 28; refine (awake_any _).mono ?_; rintro e w' ⟨rfl, hc⟩))
    go_ret
    exact ⟨rfl, ((((Chg.refl (fun _ => False) w).alloc _).trans V1.out (fun k hk => by cases hk)).trans V2.out (fun k hk => by cases hk)).trans hc (fun k hk => hk.elim)⟩

/-- what holds ahead of a round: the armed disk and the other one have played k ops -/
structure ARel (W wr : World) (d c k len : Nat) (q : Int) : Prop where
  le : k ≤ len
  ex : ∃ D C F G, Two W wr d c D C F G ∧ Armed D C ∧ D.keep = q ∧ D.files.length ≤ k

set_option maxHeartbeats 8000000 in
theorem armed_main (n : Nat) (s : Int) (q : Nat) (hn : n ≤ 1099511627776) (hs : 1 ≤ s) (hs2 : s ≤ 9223372036854775807) (hq2 : (q : Int) ≤ 9223372036854775807) (ho : OpsAt w ov ops) :
    Calls Try.prog 7 #[.agg #[.int .i64 (n : Int), fv, ov], .int .i64 s, .int .i64 (q : Int)] w fun e w' => e = .returned (.bool true) ∧ Chg (fun _ => False) w w' := by
  obtain ⟨p, cap, rfl, hnc, -, -⟩ := id ho.row
  have HO := Lib.hid ho
  have hlen := ho.len
  have hnew := fun W => new_ok (w := W) n hn
  have HNEW := Lib.hid hnew
  have HNC := Lib.hid hnc
  have HLEN := Lib.hid hlen
  clear hnew hn hnc hlen ho
  go_enter Try.func7, Try.ntmps7
  go_wp2_with (first | (go_at_call 16; refine (num_any _ _).mono ?_; rintro e w' ⟨rfl, rfl⟩) | (go_at_call 15; refine stop ?_))
  refine go ?_
  refine (HNEW.out _).mono ?_
  rintro e w1 ⟨he, h1, v1⟩
  rw [halloc_size] at he h1 v1
  generalize w.heap.size + 1 + 1 = d at he h1 v1
  subst he
  have hbx0 := halloc_at w (.cells #[.int .i64 (n : Int), fv, .slice p ops.length cap] 50)
  have hWc : Chg (fun _ => False) w (w.alloc (.cells #[.int .i64 (n : Int), fv, .slice p ops.length cap] 50)) := (Chg.refl _ w).alloc _
  have hWs := halloc_size w (.cells #[.int .i64 (n : Int), fv, .slice p ops.length cap] 50)
  generalize w.alloc (.cells #[.int .i64 (n : Int), fv, .slice p ops.length cap] 50) = W at h1 v1 hbx0 hWc hWs
  have HBX0 := Lib.hid hbx0
  have HWC := Lib.hid hWc
  have HWS := Lib.hid hWs
  have q1 := hcell_of ((v1.block (by omega) (by simp)).trans hbx0) 0
  simp only [List.getElem?_toArray, List.getElem?_cons_zero] at q1
  have H1 := Lib.hid h1
  have V1 := Lib.hid v1
  clear hbx0 hWc hWs h1 v1
  go_wp2_with (first | (go_at_call 16; refine (num_any _ _).mono ?_; rintro e w' ⟨rfl, rfl⟩) | (go_at_call 15; refine stop ?_))
  refine go ?_
  refine (HNEW.out _).mono ?_
  rintro e w2 ⟨he, h2, v2⟩
  have two := Two.mk2 H1.out V1.out h2 v2
  generalize w1.heap.size + 1 = c at he two
  subst he
  have ha := arm_ok s (q : Int) hs2 (by omega) hq2 two.d rfl (by omega)
  have HA := Lib.hid ha
  have TWO := Lib.hid two
  clear h2 v2 two ha q1
  go_wp2_with (first | (go_at_call 16; refine (num_any _ _).mono ?_; rintro e w' ⟨rfl, rfl⟩) | (go_at_call 19; refine stop ?_))
  refine go ?_
  refine HA.out.mono ?_
  rintro e w3 ⟨rfl, h3, v3⟩
  have TWO3 := Lib.hid (TWO.out.left h3 v3)
  clear h3 v3
  go_wp2_with (first | (go_at_call 16; refine (num_any _ _).mono ?_; rintro e w' ⟨rfl, rfl⟩) | (go_at_call 28; refine (awake_any _).mono ?_; rintro e w' ⟨rfl, hc⟩))
  have TWO4 := Lib.hid (TWO3.out.quiet hc)
  clear hc
  go_loopw [12] (fun i wr => ∃ k : Nat, i = .int .i64 (k : Int) ∧ ARel W wr d c k ops.length q) (fun i _ => ops.length - (Lib.intOf i).toNat)
  case atStart => exact ⟨0, rfl, Nat.zero_le _, _, _, _, _, TWO4.out, ⟨rfl, rfl, rfl, rfl, by show 1 ≤ s.toNat; omega, rfl⟩, rfl, Nat.le_refl _⟩
  case round =>
    obtain ⟨k, rfl, hle, D, C, F, G, hT, hA, hK, hfl⟩ := hrel
    have hbx : wr.heap[w.heap.size]? = some (.cells #[.int .i64 (n : Int), fv, .slice p ops.length cap] 50 (0, 0)) := (hT.ed.block (by have := HWS.out; omega) (by simp)).trans HBX0.out
    have q2 := hcell_of hbx 2
    simp only [List.getElem?_toArray, List.getElem?_cons_zero, List.getElem?_cons_succ] at q2
    have HT := Lib.hid hT
    have HAR := Lib.hid hA
    have HK := Lib.hid hK
    have HFL := Lib.hid hfl
    have HBX := Lib.hid hbx
    clear hT hA hK hfl hbx
    by_cases hk : (k : Int) < ops.length
    · obtain ⟨b, off, y, py, cy, rfl, hbl, hy, hyv, hcy, hyok, hyb, p0, p1, p2, p3, p4⟩ := (HO.out.chg (HWC.out.trans HT.out.ed.chg (fun k hk => by cases hk))).op (k := k) (by omega)
      have hnc := HNC.out
      have hyb0 := (HO.out.each y (List.mem_of_getElem? hy)).2
      have hk0 : (0 : Int) ≤ (k : Int) := by omega
      have hkl : (k : Int) + 1 ≤ 1099511627776 := by have := HLEN.out; omega
      rw [hyv] at p2
      have HYV := Lib.hid hyv
      have hnc' : (ops.length : Int) ≤ cap := by omega
      have hdo := fun (U : World) (e : Nat) (E : Dk) (H : List Nat) (hN : E.files.length ≤ 1099511627776) (h : DRep U e E H) (hb : Chg (fun _ => False) w U) => does_any (w := U) (d := e) hyok hN h (RC.chg hyb0 hb fun _ _ h => h)
      simp only [OpP.val, opV, hyv] at hdo
      have HDO := Lib.hid hdo
      clear hyok hyb hyb0 hyv hy hnc hdo hcy hbl
      by_cases h8 : y.1.kind = 8
      · rw [h8] at p0
        go_wp2
        go_roundw
        case rel => exact ⟨k + 1, by go_num, by omega, D, C, F, G, HT.out.alloc _, HAR.out, HK.out, by have := HFL.out; omega⟩
        case measure => simp [Lib.intOf]; omega
      by_cases h9 : y.1.kind = 9
      · rw [h9] at p0
        go_wp2
        go_roundw
        case rel => exact ⟨k + 1, by go_num, by omega, D, C, F, G, HT.out.alloc _, HAR.out, HK.out, by have := HFL.out; omega⟩
        case measure => simp [Lib.intOf]; omega
      by_cases h10 : y.1.kind = 10
      · rw [h10] at p0
        go_wp2
        go_roundw
        case rel => exact ⟨k + 1, by go_num, by omega, D, C, F, G, HT.out.alloc _, HAR.out, HK.out, by have := HFL.out; omega⟩
        case measure => simp [Lib.intOf]; omega
      have hpost := armed_does HAR.out y.1 h8 h9 h10
      have g8 : (y.1.kind == (8 : Int)) = false := beq_eq_false_iff_ne.2 h8
      have g9 : (y.1.kind == (9 : Int)) = false := beq_eq_false_iff_ne.2 h9
      have g10 : (y.1.kind == (10 : Int)) = false := beq_eq_false_iff_ne.2 h10
      have HPOST := Lib.hid hpost
      clear hpost h8 h9 h10
      go_wp2_with (first | (go_at_call 29; refine stop ?_))
      refine go ?_
      have hWw : Chg (fun _ => False) w wr := HWC.out.trans HT.out.ed.chg (fun k hk => by cases hk)
      refine (HDO.out _ _ _ _ (by have := HFL.out; have := HLEN.out; omega) (drep_alloc HT.out.d _) (hWw.alloc _)).mono ?_
      rintro e w2 ⟨v, rfl, F2, A2, h2, v2, a2, hA2⟩
      have hop2 := (v2.block (by simp) (fun h => by have := HT.out.d.lt _ h; omega)).trans (halloc_at wr _)
      have hfl2 := (does_files_le D y.1).1
      have HPOST := HPOST
      have two2 := (HT.out.alloc (.cells #[.int .i64 y.1.kind, .string y.1.name, .slice py y.1.b.length cy, .int .i64 y.1.n, .int .i64 y.1.m] 56)).left h2 v2
      have hAG : ∀ k ∈ A2, k ∉ G := fun k hk hG => by have h1 := (hA2 k hk).1; have h2 := HT.out.c.lt k hG; simp at h1; omega
      generalize Dk.does D y.1 = r at *
      obtain ⟨⟨e0, n0, m0, b0, f0, d0⟩, D2⟩ := r
      obtain ⟨bv, fv2, fl2, rfl, ob, fa, -, -⟩ := id a2
      simp only at *
      obtain ⟨pb, cb, rfl, -⟩ := id ob
      obtain ⟨pf, cf, rfl, -⟩ := id fa.sl
      unfold ansV at a2 ⊢
      have hr0 := (halloc_lt (o := .cells #[.int .i64 (e0 : Int), .int .i64 (n0 : Int), .int .i64 (m0 : Int), .slice pb b0.length cb, .slice pf fl2.length cf, .bool d0] 58) (hlt_of hop2)).trans hop2
      have r0 := hcell_of hr0 0
      have r1 := hcell_of hr0 1
      have r2 := hcell_of hr0 2
      have r3 := hcell_of hr0 3
      have r4 := hcell_of hr0 4
      simp only [List.getElem?_toArray, List.getElem?_cons_zero, List.getElem?_cons_succ] at r0 r1 r2 r3 r4
      have HR0 := Lib.hid hr0
      have TWO2 := Lib.hid two2
      have HA2 := Lib.hid a2
      have HAG := Lib.hid hAG
      have HFL2 := Lib.hid (Nat.le_trans hfl2 (Nat.add_le_add_right HFL.out 1))
      have HWW2 := Lib.hid (HWC.out.trans two2.ed.chg (fun k hk => by cases hk))
      clear hop2 hfl2 two2 a2 hAG ob fa h2 v2 hA2 hr0 p0 p1 p2 p3 p4 hWw q2
      have hdn := down_any (drep_alloc TWO2.out.d (.cells #[.int .i64 (e0 : Int), .int .i64 (n0 : Int), .int .i64 (m0 : Int), .slice pb b0.length cb, .slice pf fl2.length cf, .bool d0] 58))
      have hcf : C.files.length ≤ 1099511627776 := by rw [← HAR.out.files]; have := HFL.out; have := HLEN.out; omega
      have HCF := Lib.hid hcf
      rcases HPOST.out with ⟨hd, ha, hA', hK'⟩ | ⟨hd, he, hn, hf, hd'⟩
      · simp only at hd ha hA' hK'
        rw [hd] at hdn
        have HDN := Lib.hid hdn
        have HAE := Lib.hid ha
        have HA' := Lib.hid hA'
        have HK' := Lib.hid (hK'.trans HK.out)
        clear hd ha hA' hK' hdn hcf HPOST
        go_wp2_with (first | (go_at_call 22; refine HDN.out.mono ?_; rintro e w' ⟨rfl, rfl⟩) | (go_at_call 29; refine stop ?_))
        refine go ?_
        refine (HDO.out _ _ _ _ HCF.out (TWO2.out.alloc _).c (HWW2.out.alloc _)).mono ?_
        rintro e w3 ⟨v, rfl, G3, A3, h3, v3, a3, hA3⟩
        have two3 := (TWO2.out.alloc (.cells #[.int .i64 (e0 : Int), .int .i64 (n0 : Int), .int .i64 (m0 : Int), .slice pb b0.length cb, .slice pf fl2.length cf, .bool d0] 58)).right h3 v3
        have a2' := (HA2.out.chg (G := fun _ => False) ((Chg.refl _ w2).alloc (.cells #[.int .i64 (e0 : Int), .int .i64 (n0 : Int), .int .i64 (m0 : Int), .slice pb b0.length cb, .slice pf fl2.length cf, .bool d0] 58)) fun _ _ h => h).chg v3.chg fun k hk hG => HAG.out k hk hG
        rw [HAE.out] at a2'
        obtain ⟨bv3, fv3, fl3, rfl, ob3, fa3, -, -⟩ := id a3
        obtain ⟨pb3, cb3, rfl, -⟩ := id ob3
        obtain ⟨pf3, cf3, rfl, -⟩ := id fa3.sl
        unfold ansV at a3 ⊢
        have hal := fun U (hU : Chg (fun _ => False) w3 U) => alike_true (w := U) (Nat.le_trans (does_ans_files C y.1) HCF.out) (a2'.chg hU fun _ _ h => h) (a3.chg hU fun _ _ h => h)
        have HAL := Lib.hid hal
        have TWO3 := Lib.hid two3
        have han3 := (v3.block (k := w2.heap.size) (by simp) (fun h => by have := TWO2.out.c.lt _ h; omega)).trans (halloc_at w2 _)
        have han := (halloc_lt (o := .cells #[.int .i64 ((Dk.does C y.1).1.e : Int), .int .i64 ((Dk.does C y.1).1.n : Int), .int .i64 ((Dk.does C y.1).1.m : Int), .slice pb3 (Dk.does C y.1).1.b.length cb3, .slice pf3 fl3.length cf3, .bool (Dk.does C y.1).1.down] 58) (hlt_of han3)).trans han3
        have s0 := hcell_of han 0
        have s1 := hcell_of han 1
        have s2 := hcell_of han 2
        have s3 := hcell_of han 3
        have s4 := hcell_of han 4
        have s5 := hcell_of han 5
        simp only [List.getElem?_toArray, List.getElem?_cons_zero, List.getElem?_cons_succ] at s0 s1 s2 s3 s4 s5
        clear hal two3 a2' a3 ob3 fa3 h3 v3 hA3 r0 r1 r2 r3 r4 han han3
        go_wp2_with (first | (go_at_call 36; refine stop ?_))
        refine go ?_
        refine (HAL.out _ ((Chg.refl _ w3).alloc _)).mono ?_
        rintro e w5 ⟨rfl, hc5⟩
        have TWO5 := Lib.hid ((TWO3.out.alloc _).quiet hc5)
        clear hc5
        go_wp2
        go_roundw
        case rel => exact ⟨k + 1, by go_num, by omega, D2, _, F2, G3, TWO5.out, HA'.out, HK'.out, HFL2.out⟩
        case measure => simp [Lib.intOf]; omega
      · simp only at hd he hn hf hd'
        subst he hn
        have z1 : ((110 : Nat) : Int) = 110 := rfl
        have z2 : ((0 : Nat) : Int) = 0 := rfl
        simp only [z1, z2] at r0 r1 r2 r3 r4 hdn ⊢
        have hkq : D.keep.toNat = q := by rw [HK.out]; rfl
        rw [hkq] at hf
        rw [hd] at hdn
        have HDN := Lib.hid hdn
        clear hdn hcf HPOST hkq hd
        by_cases h1 : y.1.kind = 1
        · have hdo1 := HDO.out
          simp only [h1] at hdo1
          have HDO1 := Lib.hid hdo1
          clear hdo1
          rw [h1] at r0 hf hd'
          simp only [beq_self_eq_true, if_true] at hf hd'
          have HF := Lib.hid hf
          have HD' := Lib.hid hd'
          clear hf hd' h1
          go_wp2_with (first | (go_at_call 22; refine HDN.out.mono ?_; rintro e w' ⟨rfl, rfl⟩) | (go_at_call 29; refine stop ?_))
          refine go ?_
          refine (HDO1.out _ _ _ _ HCF.out (TWO2.out.alloc _).c (HWW2.out.alloc _)).mono ?_
          rintro e w3 ⟨v, rfl, G3, A3, h3, v3, a3, -⟩
          have TWO3 := Lib.hid ((TWO2.out.alloc _).right h3 v3)
          have hcf3 := Nat.le_trans (does_files_le C y.1).1 (Nat.add_le_add_right (Nat.le_of_eq (congrArg List.length HAR.out.files.symm)) 1)
          have HCF3 := Lib.hid (show (Dk.does C y.1).2.files.length ≤ 1099511627776 by have := HFL.out; have := HLEN.out; omega)
          obtain ⟨bv3, fv3, fl3, rfl, ob3, fa3, -, -⟩ := a3
          obtain ⟨pb3, cb3, rfl, -⟩ := id ob3
          obtain ⟨pf3, cf3, rfl, -⟩ := id fa3.sl
          unfold ansV
          clear hcf3 h3 v3 ob3 fa3
          go_wp2_with (first | (go_at_call 21; refine stop ?_))
          refine go ?_
          refine (crash_ok q hq2 TWO3.out.c HD'.out).mono ?_
          rintro e w7 ⟨rfl, G7, h7, v7⟩
          have TWO7 := Lib.hid (TWO3.out.right h7 v7)
          clear h7 v7
          go_wp2_with (first | (go_at_call 24; refine stop ?_))
          refine go ?_
          refine (files_any (by have := HFL2.out; have := HLEN.out; omega) TWO7.out.d).mono ?_
          rintro e w8 ⟨v8, l8, rfl, f1, f2, f3, f4⟩
          have F1 := Lib.hid f1
          have F2 := Lib.hid f2
          have TWO8 := Lib.hid (TWO7.out.quiet f4)
          clear f1 f2 f3 f4
          go_wp2_with (first | (go_at_call 24; refine stop ?_))
          refine go ?_
          refine (files_any (Nat.le_trans (len_lose _ _) HCF3.out) TWO8.out.c).mono ?_
          rintro e w9 ⟨v9, l9, rfl, g1, g2, g3, g4⟩
          have hsf := sameFiles_true (w := w9) (by have e1 := congrArg List.length F2.out; have := HFL2.out; have := HLEN.out; simp at e1; omega) (F1.out.chg g4 fun _ _ h => h) g1 (F2.out.trans (HF.out.trans g2.symm))
          have HSF := Lib.hid hsf
          have two9 := TWO8.out.quiet g4
          have hu1 := fun nd => used_any (w := w9.drewN nd) (two9.d.keep (w' := w9.drewN nd) fun _ _ => rfl)
          have hu2 := fun nd => used_any (w := w9.drewN nd) (two9.c.keep (w' := w9.drewN nd) fun _ _ => rfl)
          have hue : (Dk.lose _ q).used = D2.used := (congrArg total HF.out).symm
          rw [hue] at hu2
          have HU1 := Lib.hid hu1
          have HU2 := Lib.hid hu2
          have TWO9 := Lib.hid two9
          clear g1 g2 g3 g4 hsf two9 hu1 hu2 hue
          go_wp2_with (first | (go_at_call 37; refine HSF.out.mono ?_; rintro e w' ⟨rfl, nd, rfl⟩) | (go_at_call 35; refine stop ?_))
          refine go ?_
          refine (HU1.out nd).mono ?_
          rintro e w' ⟨rfl, rfl⟩
          go_wp2_with (first | (go_at_call 35; refine stop ?_))
          refine go ?_
          refine (HU2.out nd).mono ?_
          rintro e w' ⟨rfl, rfl⟩
          go_wp2
          go_ret
          exact ⟨rfl, (HWC.out.trans TWO9.out.ed.chg (fun k hk => by cases hk)).drewN nd⟩
        · have g1 : (y.1.kind == (1 : Int)) = false := beq_eq_false_iff_ne.2 h1
          rw [g1] at hf hd'
          simp only [Bool.false_eq_true, if_false] at hf hd'
          have HF := Lib.hid hf
          have HD' := Lib.hid hd'
          clear hf hd' h1
          go_wp2_with (first | (go_at_call 22; refine HDN.out.mono ?_; rintro e w' ⟨rfl, rfl⟩) | (go_at_call 21; refine stop ?_))
          refine go ?_
          refine (crash_ok q hq2 (TWO2.out.alloc _).c HD'.out).mono ?_
          rintro e w7 ⟨rfl, G7, h7, v7⟩
          have TWO7 := Lib.hid ((TWO2.out.alloc _).right h7 v7)
          clear h7 v7
          go_wp2_with (first | (go_at_call 24; refine stop ?_))
          refine go ?_
          refine (files_any (by have := HFL2.out; have := HLEN.out; omega) TWO7.out.d).mono ?_
          rintro e w8 ⟨v8, l8, rfl, f1, f2, f3, f4⟩
          have F1 := Lib.hid f1
          have F2 := Lib.hid f2
          have TWO8 := Lib.hid (TWO7.out.quiet f4)
          clear f1 f2 f3 f4
          go_wp2_with (first | (go_at_call 24; refine stop ?_))
          refine go ?_
          refine (files_any (Nat.le_trans (len_lose _ _) HCF.out) TWO8.out.c).mono ?_
          rintro e w9 ⟨v9, l9, rfl, g1, g2, g3, g4⟩
          have hsf := sameFiles_true (w := w9) (by have e1 := congrArg List.length F2.out; have := HFL2.out; have := HLEN.out; simp at e1; omega) (F1.out.chg g4 fun _ _ h => h) g1 (F2.out.trans (HF.out.trans g2.symm))
          have HSF := Lib.hid hsf
          have two9 := TWO8.out.quiet g4
          have hu1 := fun nd => used_any (w := w9.drewN nd) (two9.d.keep (w' := w9.drewN nd) fun _ _ => rfl)
          have hu2 := fun nd => used_any (w := w9.drewN nd) (two9.c.keep (w' := w9.drewN nd) fun _ _ => rfl)
          have hue : (Dk.lose _ q).used = D2.used := (congrArg total HF.out).symm
          rw [hue] at hu2
          have HU1 := Lib.hid hu1
          have HU2 := Lib.hid hu2
          have TWO9 := Lib.hid two9
          clear g1 g2 g3 g4 hsf two9 hu1 hu2 hue
          go_wp2_with (first | (go_at_call 37; refine HSF.out.mono ?_; rintro e w' ⟨rfl, nd, rfl⟩) | (go_at_call 35; refine stop ?_))
          refine go ?_
          refine (HU1.out nd).mono ?_
          rintro e w' ⟨rfl, rfl⟩
          go_wp2_with (first | (go_at_call 35; refine stop ?_))
          refine go ?_
          refine (HU2.out nd).mono ?_
          rintro e w' ⟨rfl, rfl⟩
          go_wp2
          go_ret
          exact ⟨rfl, (HWC.out.trans TWO9.out.ed.chg (fun k hk => by cases hk)).drewN nd⟩
    · go_wp2_with (first | (go_at_call 24; refine stop ?_))
      refine go ?_
      refine (files_any (by have := HFL.out; have := HLEN.out; omega) HT.out.d).mono ?_
      rintro e w5 ⟨v5, l5, rfl, f1, f2, f3, f4⟩
      have F1 := Lib.hid f1
      have F2 := Lib.hid f2
      have F3 := Lib.hid f3
      have F4 := Lib.hid f4
      have TWO5 := Lib.hid (HT.out.quiet f4)
      clear f1 f2 f3 f4
      go_wp2_with (first | (go_at_call 24; refine stop ?_))
      refine go ?_
      refine (files_any (by rw [← HAR.out.files]; have := HFL.out; have := HLEN.out; omega) TWO5.out.c).mono ?_
      rintro e w6 ⟨v6, l6, rfl, g1, g2, g3, g4⟩
      have hsf := sameFiles_true (w := w6) (by have e1 := congrArg List.length F2.out; have := HFL.out; have := HLEN.out; simp at e1; omega) (F1.out.chg g4 fun _ _ h => h) g1 (F2.out.trans (HAR.out.files.trans g2.symm))
      have HSF := Lib.hid hsf
      have G4 := Lib.hid g4
      clear g1 g2 g3 g4 hsf
      go_wp2_with (first | (go_at_call 37; refine HSF.out.mono ?_; rintro e w' ⟨rfl, nd, rfl⟩))
      go_ret
      exact ⟨rfl, (((HWC.out.trans HT.out.ed.chg (fun k hk => by cases hk)).trans F4.out (fun k hk => hk.elim)).trans G4.out (fun k hk => hk.elim)).drewN nd⟩
end
end Go.Proofs
