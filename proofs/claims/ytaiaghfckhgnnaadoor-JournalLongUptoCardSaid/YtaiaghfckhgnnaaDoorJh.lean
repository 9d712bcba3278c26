/- frame.whole and First. Conditions: the bytes are read, at most 2^40; the table lies as it was laid. -/
import Derived.Test.YtaiaghfckhgnnaaDoorJe
import Derived.Test.YtaiaghfckhgnnaaDoorWt
namespace Go.Proofs
open Go.RowKit Go.Hp Go.Dm Go.Dr Go.Jn
set_option linter.unusedVariables false
set_option maxRecDepth 10000
section
variable {w : World} {bs : List UInt8} {p : Option Addr} {c : Nat}
/-- one byte of bytes that are read -/
theorem RB.at_ {n : Nat} {i : Nat} {x : UInt8} (h : RB w (.slice p n c) bs) (hx : bs[i]? = some x) : ∃ b o, p = some ⟨b, o, none⟩ ∧ w.cell? ⟨b, o + i, none⟩ = some (.int .u8 (x.toNat : Int)) ∧ n ≤ c ∧ n = bs.length := by
  obtain ⟨p0, c0, e0, h1, h2, h3⟩ := h
  simp only [Value.slice.injEq] at e0
  obtain ⟨rfl, rfl, rfl⟩ := e0
  have hl := (List.getElem?_eq_some_iff.1 hx).1
  obtain ⟨b, o, arr, t, fz, rfl, hh, hxx⟩ := h3 (by omega)
  exact ⟨b, o, rfl, by rw [hcell_of hh]; exact hxx i _ (by rw [List.getElem?_map, hx]; rfl), h1, rfl⟩
theorem RB.sub {b o n : Nat} (h : RB w (.slice (some ⟨b, o, none⟩) n c) bs) {i j : Nat} (hij : i ≤ j) (hj : j ≤ bs.length) : RB w (.slice (some ⟨b, o + i, none⟩) (j - i) (c - i)) ((bs.drop i).take (j - i)) := by
  obtain ⟨p0, c0, e0, h1, h2, h3⟩ := h
  simp only [Value.slice.injEq] at e0
  obtain ⟨rfl, rfl, rfl⟩ := e0
  have e : ((bs.drop i).take (j - i)).length = j - i := by simp; omega
  refine ⟨_, c - i, by rw [e], by rw [e]; omega, by simp, fun hc => ?_⟩
  obtain ⟨b', o', arr, t, fz, hp, hh, hx⟩ := h3 (by omega)
  obtain ⟨rfl, rfl⟩ : b = b' ∧ o = o' := by simpa using hp
  refine ⟨b, o + i, arr, t, fz, rfl, hh, fun k u hu => ?_⟩
  rw [Nat.add_assoc]
  refine hx (i + k) u ?_
  rw [List.map_take, List.map_drop, List.getElem?_take] at hu
  split at hu
  · rw [List.getElem?_drop] at hu; exact hu
  · cases hu
theorem RB.empty {p : Option Addr} {n : Nat} (hn : n = 0) : RB w (.slice p n 0) [] := ⟨p, 0, by rw [hn]; rfl, Nat.le_refl _, rfl, fun h => absurd rfl h⟩
theorem Chg.cellSome {w w' : World} {b i : Nat} {v : Value} (hc : Chg (fun _ => False) w w') (h : w.cell? ⟨b, i, none⟩ = some v) : w'.cell? ⟨b, i, none⟩ = some v := by
  have hlt : b < w.heap.size := by
    rcases Nat.lt_or_ge b w.heap.size with h1 | h1
    · exact h1
    · simp [World.cell?, Array.getElem?_eq_none h1] at h
  exact (cell_chg (hc.block b hlt (fun h => h))).trans h
theorem sum_beq {s0 s1 s2 s3 x0 x1 x2 x3 : UInt8} : ((s0.toNat : Int) == (x0.toNat : Int) && (s1.toNat : Int) == (x1.toNat : Int) && (s2.toNat : Int) == (x2.toNat : Int) && (s3.toNat : Int) == (x3.toNat : Int)) = decide ([s0, s1, s2, s3] = [x0, x1, x2, x3]) := by
  have e : ∀ x y : UInt8, ((x.toNat : Int) == (y.toNat : Int)) = decide (x = y) := fun x y => by
    rw [Bool.eq_iff_iff, beq_iff_eq, decide_eq_true_iff]
    exact ⟨fun e => UInt8.toNat.inj (by omega), fun e => by rw [e]⟩
  rw [e, e, e, e]
  simp [Bool.and_assoc]
theorem comp_int (x : UInt8) : bits BinOp.xor IntKind.u8 IntKind.u8.max (x.toNat : Int) = ((255 ^^^ x).toNat : Int) := by
  have h := comp_cell x
  exact (Value.int.inj h).2
theorem s2a3 (a : Option Addr) (c : Nat) (w : World) : (Instr.arrayAt 77 (.slice a 3 c)).run Tryd.prog w = .ok (.pointer a) w := by kernel_rfl
theorem s2a4 (a : Option Addr) (c : Nat) (w : World) : (Instr.arrayAt 78 (.slice a 4 c)).run Tryd.prog w = .ok (.pointer a) w := by kernel_rfl
theorem s2aS (a : Option Addr) (c : Nat) (w : World) : (Instr.arrayAt 79 (.slice a 4 c)).run Tryd.prog w = .ok (.pointer a) w := by kernel_rfl
theorem idx0 (w : World) : (Instr.index 130 (.agg #[.int .u8 199, .int .u8 157]) (.int .i64 0)).run Tryd.prog w = .ok (.int .u8 199) w := by kernel_rfl
theorem idx1 (w : World) : (Instr.index 130 (.agg #[.int .u8 199, .int .u8 157]) (.int .i64 1)).run Tryd.prog w = .ok (.int .u8 157) w := by kernel_rfl
theorem nat8_beq {x y : UInt8} : ((x.toNat : Int) == (y.toNat : Int)) = (x == y) := by
  rw [Bool.eq_iff_iff, beq_iff_eq, beq_iff_eq]
  exact ⟨fun e => UInt8.toNat.inj (by omega), fun e => by rw [e]⟩
theorem whole_mark {y0 y1 y2 y3 y4 y5 m0 m1 : UInt8} {r : List UInt8} {E : Bool} (hE : E = ((y3.toNat : Int) == ((255 ^^^ y0).toNat : Int) && (y4.toNat : Int) == ((255 ^^^ y1).toNat : Int) && (y5.toNat : Int) == ((255 ^^^ y2).toNat : Int))) :
    (((m0 :: m1 :: y0 :: y1 :: y2 :: y3 :: y4 :: y5 :: r).drop 5).take 3 = jcomp (((m0 :: m1 :: y0 :: y1 :: y2 :: y3 :: y4 :: y5 :: r).drop 2).take 3)) ↔ E = true := by
  rw [nat8_beq, nat8_beq, nat8_beq] at hE
  subst hE
  simp [jcomp, and_assoc]
set_option maxHeartbeats 8000000 in
theorem whole_any (hg : Gl w) (hb : RB w (.slice p bs.length c) bs) (hl : bs.length ≤ 1099511627776) :
    Calls Tryd.prog 57 #[.slice p bs.length c] w fun e w' => e = .returned (.tuple #[.int .i64 ((jwhole bs).1 : Nat), .int .i64 ((jwhole bs).2 : Nat)]) ∧ Chg (fun _ => False) w w' := by
  have HG := Lib.hid hg
  have HB := Lib.hid hb
  have HL := Lib.hid hl
  obtain ⟨n, hn⟩ : ∃ n, n = bs.length := ⟨_, rfl⟩
  rw [← hn]
  have HN := Lib.hid hn
  have inl : (n : Int) ≤ 1099511627776 := by omega
  have inl0 : (0 : Int) ≤ (n : Int) := by omega
  clear hg hb hl hn
  go_enter Tryd.func57, Tryd.ntmps57
  go_wp2
  go_loopw [8] (fun t8 wr => w = wr ∧ ∃ j : Nat, t8 = .int .i64 (j : Int) ∧ j ≤ 2 ∧ ∀ i, i < j → bs[i]? = [199, 157][i]?) (fun t8 _ => 2 - (Lib.intOf t8).toNat)
  case atStart => exact ⟨rfl, 0, rfl, Nat.zero_le _, by simp⟩
  case round =>
    obtain ⟨rfl, j, rfl, hj, hpre⟩ := hrel
    have HP := Lib.hid hpre
    clear hpre
    by_cases hj0 : j = 0
    · subst hj0
      have x0 := idx0
      by_cases hn0 : (n : Int) = 0
      · have hd : decide ((n : Int) ≤ 0) = true := decide_eq_true (by omega)
        have HE := Lib.hid (show bs = [] from List.eq_nil_of_length_eq_zero (by have := HN.out; omega))
        go_wp2
        go_ret2
        rw [HE.out]
        exact ⟨rfl, Chg.refl _ _⟩
      · have hd : decide ((n : Int) ≤ 0) = false := decide_eq_false (by omega)
        obtain ⟨m0, r, hbs⟩ := List.exists_cons_of_ne_nil (show bs ≠ [] from fun e => by rw [e] at HN; have := HN.out; simp at this; omega)
        obtain ⟨b0, o0, rfl, hc0, hnc, -⟩ := RB.at_ HB.out (i := 0) (x := m0) (by rw [hbs]; rfl)
        have inc : (n : Int) ≤ (c : Int) := by have := HN.out; omega
        have HBS := Lib.hid hbs
        simp only [Nat.add_zero] at hc0
        by_cases hm : m0 = 199
        · have hm2 : ((m0.toNat : Int) == 199) = true := by rw [hm]; rfl
          have HM := Lib.hid hm
          clear hbs hm hnc
          go_wp2
          go_roundw
          case rel => exact ⟨by trivial, 1, by go_num, by omega, fun i hi => by
            obtain rfl : i = 0 := by omega
            rw [HBS.out, HM.out]; rfl⟩
          case measure => simp [Lib.intOf]
        · have hm2 : ((m0.toNat : Int) == 199) = false := by
            rw [beq_eq_false_iff_ne]
            intro e
            exact hm (UInt8.toNat.inj (by rw [show (199 : UInt8).toNat = 199 from rfl]; omega))
          have HM := Lib.hid hm
          clear hbs hm hnc
          go_wp2
          go_ret2
          refine ⟨?_, Chg.refl _ _⟩
          rw [HBS.out]
          simp only [jwhole, if_pos HM.out]
          rfl
    · by_cases hj1 : j = 1
      · subst hj1
        have x1 := idx1
        have h0 : bs[0]? = some 199 := HP.out 0 (by omega)
        obtain ⟨r, hbs⟩ : ∃ r, bs = 199 :: r := by
          match bs, h0 with
          | x :: r, h0 => exact ⟨r, by rw [show x = 199 by simpa using h0]⟩
        have HBS := Lib.hid hbs
        have hln := congrArg List.length hbs
        rw [← HN.out, List.length_cons] at hln
        by_cases hn0 : (n : Int) ≤ 1
        · have hd : decide ((n : Int) ≤ 1) = true := decide_eq_true hn0
          have HR := Lib.hid (show r = [] from List.eq_nil_of_length_eq_zero (by omega))
          clear hbs hln h0
          go_wp2
          go_ret2
          rw [HBS.out, HR.out]
          exact ⟨rfl, Chg.refl _ _⟩
        · have hd : decide ((n : Int) ≤ 1) = false := decide_eq_false (by omega)
          obtain ⟨m1, r2, hr⟩ := List.exists_cons_of_ne_nil (show r ≠ [] from fun e => by rw [e] at hln; simp at hln; omega)
          obtain ⟨b0, o0, rfl, hc0, hnc, -⟩ := RB.at_ HB.out (i := 1) (x := m1) (by rw [hbs, hr]; rfl)
          have inc : (n : Int) ≤ (c : Int) := by have := HN.out; omega
          have HR := Lib.hid hr
          by_cases hm : m1 = 157
          · have hm2 : ((m1.toNat : Int) == 157) = true := by rw [hm]; rfl
            have HM := Lib.hid hm
            clear hbs hm hnc hr hln h0
            go_wp2
            go_roundw
            case rel => exact ⟨by trivial, 2, by go_num, by omega, fun i hi => by
              rw [HBS.out, HR.out, HM.out]
              match i, hi with
              | 0, _ => rfl
              | 1, _ => rfl⟩
            case measure => simp [Lib.intOf]
          · have hm2 : ((m1.toNat : Int) == 157) = false := by
              rw [beq_eq_false_iff_ne]
              intro e
              exact hm (UInt8.toNat.inj (by rw [show (157 : UInt8).toNat = 157 from rfl]; omega))
            have HM := Lib.hid hm
            clear hbs hm hnc hr hln h0
            go_wp2
            go_ret2
            refine ⟨?_, Chg.refl _ _⟩
            rw [HBS.out, HR.out]
            simp only [jwhole, if_pos HM.out]
            rfl
      · obtain rfl : j = 2 := by omega
        have h0 : bs[0]? = some 199 := HP.out 0 (by omega)
        have h1 : bs[1]? = some 157 := HP.out 1 (by omega)
        obtain ⟨r, hbs⟩ : ∃ r, bs = 199 :: 157 :: r := by
          match bs, h0, h1 with
          | x :: y :: r, h0, h1 => exact ⟨r, by rw [show x = 199 by simpa using h0, show y = 157 by simpa using h1]⟩
        have HBS := Lib.hid hbs
        have hln := congrArg List.length hbs
        rw [← HN.out, List.length_cons, List.length_cons] at hln
        by_cases hn8 : (n : Int) < 8
        · have hd : decide ((n : Int) < 8) = true := decide_eq_true hn8
          have HN8 := Lib.hid hn8
          clear hbs hln h0 h1
          go_wp2
          go_ret2
          refine ⟨?_, Chg.refl _ _⟩
          have e : jwhole bs = (0, 90) := by
            have h8 : bs.length < 8 := by have := HN.out; have := HN8.out; omega
            rw [HBS.out] at h8 ⊢
            unfold jwhole
            simp only
            rw [if_neg (by decide), if_neg (by decide), if_pos h8]
          rw [e]; rfl
        · have hd : decide ((n : Int) < 8) = false := decide_eq_false (by omega)
          obtain ⟨y0, y1, y2, y3, y4, y5, r2, hr⟩ : ∃ y0 y1 y2 y3 y4 y5 r2, r = y0 :: y1 :: y2 :: y3 :: y4 :: y5 :: r2 := by
            match r, hln with
            | y0 :: y1 :: y2 :: y3 :: y4 :: y5 :: r2, _ => exact ⟨_, _, _, _, _, _, _, rfl⟩
            | [], h => simp at h; omega
            | [_], h => simp at h; omega
            | [_, _], h => simp at h; omega
            | [_, _, _], h => simp at h; omega
            | [_, _, _, _], h => simp at h; omega
            | [_, _, _, _, _], h => simp at h; omega
          have HR := Lib.hid hr
          obtain ⟨b0, o0, rfl, hc2, hnc, -⟩ := RB.at_ HB.out (i := 2) (x := y0) (by rw [hbs, hr]; rfl)
          have hcc : ∀ i x, bs[i]? = some x → w.cell? ⟨b0, o0 + i, none⟩ = some (.int .u8 (x.toNat : Int)) := fun i x hx => by
            obtain ⟨b, o, e, h, -⟩ := RB.at_ HB.out hx
            obtain ⟨rfl, rfl⟩ : b0 = b ∧ o0 = o := by simpa using e
            exact h
          have HCC := Lib.hid hcc
          have hc3 := hcc 3 y1 (by rw [hbs, hr]; rfl)
          have hc4 := hcc 4 y2 (by rw [hbs, hr]; rfl)
          have hc5 := hcc 5 y3 (by rw [hbs, hr]; rfl)
          have hc6 := hcc 6 y4 (by rw [hbs, hr]; rfl)
          have hc7 := hcc 7 y5 (by rw [hbs, hr]; rfl)
          have inc : (n : Int) ≤ (c : Int) := by have := HN.out; omega
          have inc8 : (8 : Int) ≤ (c : Int) := by omega
          obtain ⟨E, hE⟩ : ∃ E : Bool, E = ((y3.toNat : Int) == ((255 ^^^ y0).toNat : Int) && (y4.toNat : Int) == ((255 ^^^ y1).toNat : Int) && (y5.toNat : Int) == ((255 ^^^ y2).toNat : Int)) := ⟨_, rfl⟩
          have z0 := comp_int y0
          have z1 := comp_int y1
          have z2 := comp_int y2
          have heq : ∀ w : World, (Op.equalIn 10000 77 (.agg #[.int .u8 (y3.toNat : Int), .int .u8 (y4.toNat : Int), .int .u8 (y5.toNat : Int)]) (.agg #[.int .u8 ((255 ^^^ y0).toNat : Int), .int .u8 ((255 ^^^ y1).toNat : Int), .int .u8 ((255 ^^^ y2).toNat : Int)])).run Tryd.prog w = .ok E w := fun w => by rw [hE]; exact eq3 _ _ _ _ _ _ w
          have HE := Lib.hid hE
          clear hE
          generalize (255 ^^^ y0).toNat = Z0 at z0 heq
          generalize (255 ^^^ y1).toNat = Z1 at z1 heq
          generalize (255 ^^^ y2).toNat = Z2 at z2 heq
          have hs3 := s2a3 (some ⟨b0, o0 + 5, none⟩) (c - 5)
          clear hcc hbs hln h0 h1 hr hnc
          go_wp2
          refine Rx.ws_region (fun _ => True) [(0, .r), (1, .r), (2, .r), (3, .r), (4, .r), (5, .r), (6, .r), (7, .r), (8, .r), (9, .r), (10, .r), (11, .r), (12, .r), (13, .r), (14, .r), (15, .r), (16, .r), (17, .r)] (by kernel_rfl) (by kernel_rfl) trivial (fun _ _ x _ _ h => (by cases x <;> exact h)) ?_
          iterate 18 (refine Rx.ws_q rfl rfl ?_; go_wp2; refine Rx.atS_mk ?_)
          refine Rx.ws_nil ?_
          clear heq hs3 z0 z1 z2 hd hc5 hc6 hc7
          cases E with
          | false =>
            clear hc2 hc3 hc4
            go_wp2
            go_ret2
            refine ⟨?_, (Chg.refl _ _).drew⟩
            have e : jwhole bs = (0, 91) := by
              have h8 : ¬ bs.length < 8 := by have := HN.out; omega
              rw [HBS.out, HR.out] at h8 ⊢
              unfold jwhole
              simp only
              rw [if_neg (by decide), if_neg (by decide), if_neg h8, if_pos (fun h => by have := (whole_mark HE.out).1 h; cases this)]
            rw [e]; rfl
          | true =>
            go_wp2
            refine Rx.ws_region (fun _ => True) [(0, .r), (1, .r), (2, .r), (3, .r), (4, .r), (5, .r), (6, .r), (7, .r), (8, .r), (9, .r), (10, .r), (11, .r), (12, .r), (13, .r), (14, .r), (15, .r), (16, .r)] (by kernel_rfl) (by kernel_rfl) trivial (fun _ _ x _ _ h => (by cases x <;> exact h)) ?_
            iterate 17 (refine Rx.ws_q rfl rfl ?_; go_wp2; refine Rx.atS_mk ?_)
            refine Rx.ws_nil ?_
            rw [val_bits]
            obtain ⟨V, hV⟩ : ∃ V, V = val3 y0 y1 y2 := ⟨_, rfl⟩
            rw [← hV]
            have HV := Lib.hid hV
            have iv0 : (0 : Int) ≤ (V : Int) := by omega
            have hw9 : ¬ bs.length < 8 → jwhole bs = if 131072 < V then (0, 92) else if bs.length < 12 + V then (0, 90) else if jsum ((bs.drop 12).take V) ≠ (bs.drop 8).take 4 then (0, 93) else (12 + V, 0) := fun h8 => by
              rw [HV.out]
              rw [HBS.out, HR.out] at h8 ⊢
              unfold jwhole
              simp only
              rw [if_neg (by decide), if_neg (by decide), if_neg h8, if_neg (fun h => h ((whole_mark HE.out).2 rfl))]
              rfl
            have hw9 := hw9 (by have := HN.out; omega)
            have HW9 := Lib.hid hw9
            clear hc2 hc3 hc4 hV hw9
            by_cases hbig : (131072 : Int) < (V : Int)
            · have hd : decide ((131072 : Int) < (V : Int)) = true := decide_eq_true hbig
              go_wp2
              go_ret2
              refine ⟨?_, (Chg.refl _ _).drew.drew⟩
              rw [HW9.out, if_pos (by omega)]; rfl
            · have hd : decide ((131072 : Int) < (V : Int)) = false := decide_eq_false hbig
              by_cases hsh : (n : Int) < 12 + (V : Int)
              · have hd2 : decide ((n : Int) < 12 + (V : Int)) = true := decide_eq_true hsh
                go_wp2
                go_ret2
                refine ⟨?_, (Chg.refl _ _).drew.drew⟩
                rw [HW9.out, if_neg (by omega), if_pos (by have := HN.out; omega)]; rfl
              · have hd2 : decide ((n : Int) < 12 + (V : Int)) = false := decide_eq_false hsh
                have hlen : 12 + V ≤ bs.length := by have := HN.out; omega
                obtain ⟨x0, hx0⟩ : ∃ x, bs[8]? = some x := ⟨_, List.getElem?_eq_getElem (by omega)⟩
                obtain ⟨x1, hx1⟩ : ∃ x, bs[9]? = some x := ⟨_, List.getElem?_eq_getElem (by omega)⟩
                obtain ⟨x2, hx2⟩ : ∃ x, bs[10]? = some x := ⟨_, List.getElem?_eq_getElem (by omega)⟩
                obtain ⟨x3, hx3⟩ : ∃ x, bs[11]? = some x := ⟨_, List.getElem?_eq_getElem (by omega)⟩
                have hx : (bs.drop 8).take 4 = [x0, x1, x2, x3] := by
                  apply List.ext_getElem?
                  intro i
                  rw [List.getElem?_take, List.getElem?_drop]
                  match i with
                  | 0 => simpa using hx0
                  | 1 => simpa using hx1
                  | 2 => simpa using hx2
                  | 3 => simpa using hx3
                  | i + 4 => rw [if_neg (by omega)]; simp
                have k0 := HCC.out 8 x0 hx0
                have k1 := HCC.out 9 x1 hx1
                have k2 := HCC.out 10 x2 hx2
                have k3 := HCC.out 11 x3 hx3
                have hs4 := s2aS (some ⟨b0, o0 + 8, none⟩) (c - 8)
                have inV : 12 + (V : Int) ≤ (n : Int) := by omega
                have inc12 : (12 : Int) ≤ (c : Int) := by omega
                have hcn8 : ¬ c = 8 := by omega
                have HXX := Lib.hid hx
                have HLEN := Lib.hid hlen
                clear hlen hx0 hx1 hx2 hx3 hx
                by_cases hc12 : c = 12
                · have hV0 : V = 0 := by have := HLEN.out; have := HN.out; omega
                  subst hV0
                  have hrb : RB w (.slice (some ⟨b0, o0, none⟩) 0 0) ((bs.drop 12).take 0) := RB.empty rfl
                  have HRB := Lib.hid hrb
                  clear hrb
                  subst hc12
                  go_wp2
                  refine Rx.ws_region (fun W => W.cell? ⟨b0, o0 + 8, none⟩ = some (.int .u8 (x0.toNat : Int)) ∧ W.cell? ⟨b0, o0 + 9, none⟩ = some (.int .u8 (x1.toNat : Int)) ∧ W.cell? ⟨b0, o0 + 10, none⟩ = some (.int .u8 (x2.toNat : Int)) ∧ W.cell? ⟨b0, o0 + 11, none⟩ = some (.int .u8 (x3.toNat : Int)))
                    [(0, .r), (1, .r), (2, .r), (3, .r), (5, .h), (6, .h), (7, .h), (8, .h), (4, .e), (9, .r)] (by kernel_rfl) (by kernel_rfl) ⟨k0, k1, k2, k3⟩ (fun _ _ x _ _ h => (by cases x <;> exact h)) ?_
                  iterate 4 (refine Rx.ws_q rfl rfl ?_; go_wp2; refine Rx.atS_mk ?_)
                  (refine Rx.ws_h (v := ?_) rfl rfl ?_ ?_; rotate_left; (intro w' hS'; go_simp; try with_reducible rfl))
                  (refine Rx.ws_h (v := ?_) rfl rfl ?_ ?_; rotate_left; (intro w' hS'; go_simp; try with_reducible rfl))
                  refine Rx.ws_h (v := .pointer (some ⟨b0, o0 + 8, none⟩)) rfl rfl (fun w' hS' => by go_simp) ?_
                  refine Rx.ws_h (v := .agg #[.int .u8 (x0.toNat : Int), .int .u8 (x1.toNat : Int), .int .u8 (x2.toNat : Int), .int .u8 (x3.toNat : Int)]) rfl rfl (fun w' hS' => by
                    obtain ⟨j0, j1, j2, j3⟩ := hS'
                    go_simp) ?_
                  refine Rx.ws_e rfl ?_
                  go_wp2_with (first | (go_at_call 41; refine stop ?_))
                  refine go ?_
                  obtain ⟨s0, s1, s2, s3, hs⟩ : ∃ s0 s1 s2 s3, jsum ((bs.drop 12).take 0) = [s0, s1, s2, s3] := ⟨_, _, _, _, rfl⟩
                  have hd3 : Chg (fun _ => False) w w.drew.drew.drew := (((Chg.refl (fun _ => False) w).drew).drew).drew
                  have el : ((bs.drop 12).take 0).length = 0 := by rw [List.length_take, List.length_drop]; have := HLEN.out; omega
                  have hck := checksum_any (HG.out.chg hd3) (bs := (bs.drop 12).take 0) (by rw [el]; exact RC.chg HRB.out hd3 fun _ _ h => h) (by rw [el]; have := HLEN.out; have := HL.out; omega)
                  rw [hs, el] at hck
                  refine hck.mono ?_
                  rintro e w2 ⟨rfl, c2⟩
                  obtain ⟨E2, hE2⟩ : ∃ E2 : Bool, E2 = decide ([s0, s1, s2, s3] = [x0, x1, x2, x3]) := ⟨_, rfl⟩
                  have heq : ∀ w : World, (Op.equalIn 10000 79 (.agg #[.int .u8 (s0.toNat : Int), .int .u8 (s1.toNat : Int), .int .u8 (s2.toNat : Int), .int .u8 (s3.toNat : Int)]) (.agg #[.int .u8 (x0.toNat : Int), .int .u8 (x1.toNat : Int), .int .u8 (x2.toNat : Int), .int .u8 (x3.toNat : Int)])).run Tryd.prog w = .ok E2 w := fun w => by rw [hE2, ← sum_beq]; exact eqS _ _ _ _ _ _ _ _ w
                  have HE2 := Lib.hid hE2
                  have HS := Lib.hid hs
                  have HC2 := Lib.hid (hd3.trans c2 fun _ h => h.elim)
                  clear hE2 hs c2 hck el hd3
                  simp only [List.map_cons, List.map_nil]
                  go_wp2
                  refine ⟨⟨Chg.cellSome HC2.out k0, Chg.cellSome HC2.out k1, Chg.cellSome HC2.out k2, Chg.cellSome HC2.out k3⟩, ?_⟩
                  (refine Rx.ws_q rfl rfl ?_; go_wp2; refine Rx.atS_mk ?_)
                  refine Rx.ws_nil ?_
                  clear heq k0 k1 k2 k3 hs4
                  cases E2 with
                  | false =>
                    go_wp2
                    go_ret2
                    refine ⟨?_, HC2.out⟩
                    have hne : jsum ((bs.drop 12).take 0) ≠ (bs.drop 8).take 4 := by
                      rw [HS.out, HXX.out]
                      exact of_decide_eq_false HE2.out.symm
                    rw [HW9.out, if_neg (by omega), if_neg (by have := HLEN.out; omega), if_pos hne]; rfl
                  | true =>
                    go_wp2
                    go_ret2
                    refine ⟨?_, HC2.out⟩
                    have heq : jsum ((bs.drop 12).take 0) = (bs.drop 8).take 4 := by
                      rw [HS.out, HXX.out]
                      exact of_decide_eq_true HE2.out.symm
                    rw [HW9.out, if_neg (by omega), if_neg (by have := HLEN.out; omega), if_neg (fun h => h heq)]; rfl
                have hrb := RB.sub (bs := bs) HB.out (i := 12) (j := 12 + V) (by omega) HLEN.out
                rw [Nat.add_sub_cancel_left] at hrb
                have HRB := Lib.hid hrb
                clear hrb
                go_wp2
                refine Rx.ws_region (fun W => W.cell? ⟨b0, o0 + 8, none⟩ = some (.int .u8 (x0.toNat : Int)) ∧ W.cell? ⟨b0, o0 + 9, none⟩ = some (.int .u8 (x1.toNat : Int)) ∧ W.cell? ⟨b0, o0 + 10, none⟩ = some (.int .u8 (x2.toNat : Int)) ∧ W.cell? ⟨b0, o0 + 11, none⟩ = some (.int .u8 (x3.toNat : Int)))
                  [(0, .r), (1, .r), (2, .r), (3, .r), (5, .h), (6, .h), (7, .h), (8, .h), (4, .e), (9, .r)] (by kernel_rfl) (by kernel_rfl) ⟨k0, k1, k2, k3⟩ (fun _ _ x _ _ h => (by cases x <;> exact h)) ?_
                iterate 4 (refine Rx.ws_q rfl rfl ?_; go_wp2; refine Rx.atS_mk ?_)
                (refine Rx.ws_h (v := ?_) rfl rfl ?_ ?_; rotate_left; (intro w' hS'; go_simp; try with_reducible rfl))
                (refine Rx.ws_h (v := ?_) rfl rfl ?_ ?_; rotate_left; (intro w' hS'; go_simp; try with_reducible rfl))
                refine Rx.ws_h (v := .pointer (some ⟨b0, o0 + 8, none⟩)) rfl rfl (fun w' hS' => by go_simp) ?_
                refine Rx.ws_h (v := .agg #[.int .u8 (x0.toNat : Int), .int .u8 (x1.toNat : Int), .int .u8 (x2.toNat : Int), .int .u8 (x3.toNat : Int)]) rfl rfl (fun w' hS' => by
                  obtain ⟨j0, j1, j2, j3⟩ := hS'
                  go_simp) ?_
                refine Rx.ws_e rfl ?_
                go_wp2_with (first | (go_at_call 41; refine stop ?_))
                refine go ?_
                obtain ⟨s0, s1, s2, s3, hs⟩ : ∃ s0 s1 s2 s3, jsum ((bs.drop 12).take V) = [s0, s1, s2, s3] := ⟨_, _, _, _, rfl⟩
                have hd3 : Chg (fun _ => False) w w.drew.drew.drew := (((Chg.refl (fun _ => False) w).drew).drew).drew
                have el : ((bs.drop 12).take V).length = V := by rw [List.length_take, List.length_drop]; have := HLEN.out; omega
                have hck := checksum_any (HG.out.chg hd3) (bs := (bs.drop 12).take V) (by rw [el]; exact RC.chg HRB.out hd3 fun _ _ h => h) (by rw [el]; have := HLEN.out; have := HL.out; omega)
                rw [hs, el] at hck
                refine hck.mono ?_
                rintro e w2 ⟨rfl, c2⟩
                obtain ⟨E2, hE2⟩ : ∃ E2 : Bool, E2 = decide ([s0, s1, s2, s3] = [x0, x1, x2, x3]) := ⟨_, rfl⟩
                have heq : ∀ w : World, (Op.equalIn 10000 79 (.agg #[.int .u8 (s0.toNat : Int), .int .u8 (s1.toNat : Int), .int .u8 (s2.toNat : Int), .int .u8 (s3.toNat : Int)]) (.agg #[.int .u8 (x0.toNat : Int), .int .u8 (x1.toNat : Int), .int .u8 (x2.toNat : Int), .int .u8 (x3.toNat : Int)])).run Tryd.prog w = .ok E2 w := fun w => by rw [hE2, ← sum_beq]; exact eqS _ _ _ _ _ _ _ _ w
                have HE2 := Lib.hid hE2
                have HS := Lib.hid hs
                have HC2 := Lib.hid (hd3.trans c2 fun _ h => h.elim)
                clear hE2 hs c2 hck el hd3
                simp only [List.map_cons, List.map_nil]
                go_wp2
                refine ⟨⟨Chg.cellSome HC2.out k0, Chg.cellSome HC2.out k1, Chg.cellSome HC2.out k2, Chg.cellSome HC2.out k3⟩, ?_⟩
                (refine Rx.ws_q rfl rfl ?_; go_wp2; refine Rx.atS_mk ?_)
                refine Rx.ws_nil ?_
                clear heq k0 k1 k2 k3 hs4
                cases E2 with
                | false =>
                  go_wp2
                  go_ret2
                  refine ⟨?_, HC2.out⟩
                  have hne : jsum ((bs.drop 12).take V) ≠ (bs.drop 8).take 4 := by
                    rw [HS.out, HXX.out]
                    exact of_decide_eq_false HE2.out.symm
                  rw [HW9.out, if_neg (by omega), if_neg (by have := HLEN.out; omega), if_pos hne]; rfl
                | true =>
                  go_wp2
                  go_ret2
                  refine ⟨?_, HC2.out⟩
                  have heq : jsum ((bs.drop 12).take V) = (bs.drop 8).take 4 := by
                    rw [HS.out, HXX.out]
                    exact of_decide_eq_true HE2.out.symm
                  rw [HW9.out, if_neg (by omega), if_neg (by have := HLEN.out; omega), if_neg (fun h => h heq)]; rfl
end
end Go.Proofs
