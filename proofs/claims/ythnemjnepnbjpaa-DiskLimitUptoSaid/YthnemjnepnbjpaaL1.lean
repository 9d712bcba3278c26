/- DiskLimit's walk. Conditions: the script's ops lie as OpsAt says. -/
import Derived.Test.YthnemjnepnbjpaaLa
namespace Go.Proofs
open Go.RowKit Go.Hp Go.Dm Go.Dr
set_option linter.unusedVariables false
set_option maxRecDepth 10000
section
variable {w : World} {ops : List (OpP × Value)} {fv ov : Value}

set_option maxHeartbeats 4000000 in
theorem limit_bad (n : Int) (hn : n < 0 ∨ 1099511627776 < n) :
    Calls Try.prog 6 #[.agg #[.int .i64 n, fv, ov]] w fun e w' => e = .returned (.bool true) ∧ Chg (fun _ => False) w w' := by
  have hnew := fun W => new_bad (w := W) n hn
  have HNEW := Lib.hid hnew
  clear hnew
  have haw := awake_any ((w.alloc (.cells #[.int .i64 n, fv, ov] 50)))
  have HAW := Lib.hid haw
  clear haw
  by_cases h0 : n < 0
  · clear hn
    go_enter Try.func6, Try.ntmps6
    go_wp2_with (first | (go_at_call 16; refine (num_any _ _).mono ?_; rintro e w' ⟨rfl, rfl⟩) | (go_at_call 15; refine (HNEW.out _).mono ?_; rintro e w' ⟨rfl, rfl⟩) | (go_at_call 28; refine HAW.out.mono ?_; rintro e w' ⟨rfl, hc⟩))
    go_ret
    exact ⟨rfl, ((Chg.refl (fun _ => False) w).alloc _).trans hc (fun k hk => hk.elim)⟩
  · have h1 : 1099511627776 < n := by omega
    clear hn
    go_enter Try.func6, Try.ntmps6
    go_wp2_with (first | (go_at_call 16; refine (num_any _ _).mono ?_; rintro e w' ⟨rfl, rfl⟩) | (go_at_call 15; refine (HNEW.out _).mono ?_; rintro e w' ⟨rfl, rfl⟩) | (go_at_call 28; refine HAW.out.mono ?_; rintro e w' ⟨rfl, hc⟩))
    go_ret
    exact ⟨rfl, ((Chg.refl (fun _ => False) w).alloc _).trans hc (fun k hk => hk.elim)⟩

/-- what holds ahead of a round: k ops are played, the disk is D -/
structure LRel (W wr : World) (d n k : Nat) (len : Nat) : Prop where
  le : k ≤ len
  ex : ∃ D F, DRep wr d D F ∧ Ev [] F W wr ∧ D.limit = n ∧ D.files.length ≤ k

set_option maxHeartbeats 4000000 in
theorem limit_ok (n : Nat) (hn : n ≤ 1099511627776) (ho : OpsAt w ov ops) :
    Calls Try.prog 6 #[.agg #[.int .i64 (n : Int), fv, ov]] w fun e w' => e = .returned (.bool true) ∧ Chg (fun _ => False) w w' := by
  obtain ⟨p, c, rfl, hnc, -, hblk⟩ := id ho.row
  have HO := Lib.hid ho
  have hlen := ho.len
  have hnew := new_ok (w := w.alloc (.cells #[.int .i64 (n : Int), fv, .slice p ops.length c] 50)) n hn
  have HNEW := Lib.hid hnew
  clear hnew ho hblk
  have HNC := Lib.hid hnc
  have HLEN := Lib.hid hlen
  clear hnc hlen
  go_enter Try.func6, Try.ntmps6
  go_wp2_with (first | (go_at_call 16; refine (num_any _ _).mono ?_; rintro e w' ⟨rfl, rfl⟩) | (go_at_call 15; refine HNEW.out.mono ?_; rintro e w1 ⟨rfl, h1, v1⟩))
  rw [halloc_size] at h1 v1
  generalize w.heap.size + 1 + 1 = d at *
  have H1 := Lib.hid h1
  have V1 := Lib.hid v1
  clear h1 v1
  go_loopw [5] (fun i wr => ∃ k : Nat, i = .int .i64 (k : Int) ∧ LRel (w.alloc (.cells #[.int .i64 (n : Int), fv, .slice p ops.length c] 50)) wr d n k ops.length) (fun i _ => ops.length - (Lib.intOf i).toNat)
  case atStart => exact ⟨0, rfl, Nat.zero_le _, _, _, H1.out, V1.out, rfl, Nat.le_refl _⟩
  case round =>
    obtain ⟨k, rfl, hle, D, F, hD, hE, hlim, hfl⟩ := hrel
    have hbx : wr.heap[w.heap.size]? = some (.cells #[.int .i64 (n : Int), fv, .slice p ops.length c] 50 (0, 0)) := (hE.block (by simp) (by simp)).trans (halloc_at w _)
    have q0 := hcell_of hbx 0
    have q2 := hcell_of hbx 2
    simp only [List.getElem?_toArray, List.getElem?_cons_zero, List.getElem?_cons_succ] at q0 q2
    have HD := Lib.hid hD
    have HE := Lib.hid hE
    have HLIM := Lib.hid hlim
    have HFL := Lib.hid hfl
    have HBX := Lib.hid hbx
    clear hD hE hlim hfl hbx
    by_cases hk : (k : Int) < ops.length
    · obtain ⟨b, off, y, py, cy, rfl, hbl, hy, hyv, hcy, hyok, hyb, p0, p1, p2, p3, p4⟩ := (HO.out.chg (chg_ev (W := w) HE.out)).op (k := k) (by omega)
      have hnc := HNC.out
      have HYOK := Lib.hid hyok
      have hk0 : (0 : Int) ≤ (k : Int) := by omega
      rw [hyv] at p2
      have HYV := Lib.hid hyv
      have hnc' : (ops.length : Int) ≤ c := by omega
      have HYB := Lib.hid hyb
      have HCY := Lib.hid hcy
      have hdoes := does_any hyok (by have := HFL.out; have := HO.out.len; omega) (drep_alloc HD.out (.cells #[.int .i64 y.1.kind, .string y.1.name, y.2, .int .i64 y.1.n, .int .i64 y.1.m] 56)) (RC.keep hyb fun b hb => halloc_lt (RC.lt hyb hb))
      unfold OpP.val opV at hdoes
      rw [hyv] at hdoes
      have HDOES := Lib.hid hdoes
      clear hyok hyb hyv hy hnc hdoes hcy hbl
      go_wp2_with (first | (go_at_call 16; refine (num_any _ _).mono ?_; rintro e w' ⟨rfl, rfl⟩) | (go_at_call 35; refine stop ?_))
      refine go ?_
      refine (used_any (drep_alloc HD.out _)).mono ?_
      rintro e w' ⟨rfl, rfl⟩
      go_wp2_with (first | (go_at_call 16; refine (num_any _ _).mono ?_; rintro e w' ⟨rfl, rfl⟩) | (go_at_call 29; refine stop ?_))
      refine go ?_
      refine HDOES.out.mono ?_
      rintro e w2 ⟨v, rfl, F2, A, h2, v2, ⟨bv, fv2, fl2, rfl, ob, fa, -, -⟩, -⟩
      have hdl := does_files_le D y.1
      have hdu := does_used HD.out.ok y.1
      unfold ansV
      obtain ⟨pb, cb, rfl, -⟩ := id ob
      obtain ⟨pf, cf, rfl, -⟩ := id fa.sl
      generalize Dk.does D y.1 = r at *
      obtain ⟨a, D2⟩ := r
      simp only at *
      have H2 := Lib.hid h2
      have V2 := Lib.hid v2
      have HDU := Lib.hid hdu
      have HDL := Lib.hid hdl
      clear h2 v2 hdu hdl ob fa
      go_wp2_with (first | (go_at_call 16; refine (num_any _ _).mono ?_; rintro e w' ⟨rfl, rfl⟩) | (go_at_call 24; refine stop ?_))
      refine go ?_
      refine (files_any (by have := HDL.out.1; have := HFL.out; have := HO.out.len; omega) (drep_alloc H2.out _)).mono ?_
      rintro e w4 ⟨v, l, rfl, f1, f2, f3, f4⟩
      obtain ⟨pl, cl, rfl, hlc, -⟩ := id f1.sl
      have hbx4 := (keep_block V2.out f4 (by have := HE.out.chg.size; simp at this ⊢; omega) (HE.out.out (by simp) (by simp) : w.heap.size ∉ F)).trans ((halloc_lt (by have := HE.out.chg.size; simp at this; omega)).trans HBX.out)
      have hop4 := (keep_block V2.out f4 (by simp) (fun h => by have := HD.out.lt _ h; omega)).trans (halloc_at wr _)
      have han4 := keep_last f4
      have r0 := hcell_of hbx4 0
      have s0 := hcell_of hop4 0
      have s2 := hcell_of hop4 2
      have t0 := hcell_of han4 0
      have t1 := hcell_of han4 1
      simp only [List.getElem?_toArray, List.getElem?_cons_zero, List.getElem?_cons_succ] at r0 s0 s2 t0 t1
      have hd4 := (drep_alloc H2.out _).chg f4 fun _ _ h => h
      have htl : total (l.map LF.fl) = D2.used := by rw [f2]; rfl
      have hul : D2.used ≤ n := by have := H2.out.ok.used; have := HDL.out.2; have := HLIM.out; omega
      have hdu : y.1.kind = 1 → (a.e = 0 → D2.used = D.used + y.1.b.length ∧ a.n = y.1.b.length) ∧ (a.e = 111 → D2.used = n ∧ D2.used = D.used + a.n ∧ a.n < y.1.b.length) := by
        have := HDU.out; have h := HLIM.out; rw [h] at this; exact this
      have HD4 := Lib.hid hd4
      have HDU2 := Lib.hid hdu
      have HTL := Lib.hid htl
      have hui : (D2.used : Int) ≤ (n : Int) := by omega
      have hni : (n : Int) ≤ 1099511627776 := by omega
      have HF1 := Lib.hid f1
      have HF4 := Lib.hid f4
      have HF2 := Lib.hid f2
      clear f1 f2 f3 f4 hbx4 hop4 han4 hd4 hdu htl p0 p1 p2 p3 p4 q0 q2 HDU hul
      have hlci : (l.length : Int) ≤ cl := by omega
      have hlli : (l.length : Int) ≤ 1099511627776 := by
        have h1 : l.length = D2.files.length := by have := congrArg List.length HF2.out; simpa using this
        have := HDL.out.1; have := HFL.out; have := HO.out.len; omega
      clear hlc
      go_wp2
      go_loopw [9, 11] (fun t9 t11 wr => w4 = wr ∧ ∃ j : Nat, j ≤ l.length ∧ t11 = .int .i64 (j : Int) ∧ t9 = .int .i64 (total ((l.map LF.fl).take j) : Int)) (fun _ t11 _ => l.length - (Lib.intOf t11).toNat)
      case atStart => exact ⟨rfl, 0, Nat.zero_le _, rfl, rfl⟩
      case round =>
        obtain ⟨hww, j, hj, rfl, rfl⟩ := hrel
        subst hww
        by_cases hjl : (j : Int) < l.length
        · obtain ⟨bl, x, rfl, hx, hob, hcap, z0, z1, z2⟩ := HF1.out.file (k := j) (by omega)
          have hts := total_take_succ (l := l.map LF.fl) (k := j) (x := x.fl) (by rw [List.getElem?_map, hx]; rfl)
          have htl := total_take_le (l.map LF.fl) (j + 1)
          rw [HTL.out] at htl
          have hts : total ((l.map LF.fl).take (j + 1)) = total ((l.map LF.fl).take j) + x.bytes.length := hts
          have HTS := Lib.hid hts
          have hj0 : (0 : Int) ≤ (j : Int) := by omega
          have hb1 : (total ((l.map LF.fl).take j) : Int) + (x.bytes.length : Int) ≤ 1099511627776 := by omega
          generalize total ((l.map LF.fl).take j) = T at *
          obtain ⟨ap, ac, hsv⟩ : ∃ ap ac, x.sv = .slice ap x.bytes.length ac := ⟨_, _, rfl⟩
          rw [hsv] at z1
          clear hts htl hx hob hcap z0 z2 hsv
          go_wp2
          go_roundw
          case rel => exact ⟨trivial, j + 1, by omega, by go_num, by rw [HTS.out]; go_num⟩
          case measure => simp [Lib.intOf]; omega
        · have hje : j = l.length := by omega
          have hte : total ((l.map LF.fl).take j) = D2.used := by rw [hje, List.take_of_length_le (by simp)]; exact HTL.out
          rw [hte]
          have hus := used_any HD4.out
          have hend : LRel (w.alloc (.cells #[.int .i64 (n : Int), fv, .slice (some ⟨b, off, none⟩) ops.length c] 50)) w4 d n (k + 1) ops.length := ⟨by omega, D2, F2, HD4.out, (((HE.out.alloc _).trans V2.out).alloc _).quiet HF4.out, HDL.out.2.trans HLIM.out, Nat.le_trans HDL.out.1 (Nat.add_le_add_right HFL.out 1)⟩
          have hdu := HDU2.out
          generalize D2.used = U at *
          have HUS := Lib.hid hus
          have HEND := Lib.hid hend
          have hui2 : ¬ (n < U) := by omega
          clear hus hend hte hje hj
          have hkl : (k : Int) + 1 ≤ 1099511627776 := by have := HO.out.len; omega
          have hcyi : (y.1.b.length : Int) ≤ cy := by have := HCY.out; omega
          by_cases h1 : y.1.kind = 1
          · obtain ⟨hA, hB⟩ := hdu h1
            rw [h1] at s0
            by_cases he : a.e = 111
            · obtain ⟨b1, b2, b3⟩ := hB he
              have hb9 : (D.used : Int) ≤ 1099511627776 := by omega
              have hb8 : (a.n : Int) ≤ 1099511627776 := by omega
              have t0' : w4.cell? ⟨w2.heap.size, 0, none⟩ = some (.int .i64 111) := by rw [t0, he]; rfl
              have hq : ((n : Int) != (D.used : Int) + (a.n : Int)) = false := by simp; omega
              have hq2 : ¬ (y.1.b.length ≤ a.n) := by omega
              subst b1
              clear t0 he hA hB b2 b3 h1 hdu
              go_wp2_with (first | (go_at_call 35; refine HUS.out.mono ?_; rintro e w' ⟨rfl, rfl⟩))
              go_roundw
              case rel => exact ⟨k + 1, by go_num, HEND.out⟩
              case measure => simp [Lib.intOf]; omega
            · by_cases he0 : a.e = 0
              · obtain ⟨b1, b2⟩ := hA he0
                have hb9 : (D.used : Int) ≤ 1099511627776 := by omega
                have hb8 : (y.1.b.length : Int) ≤ 1099511627776 := by omega
                have t0' : w4.cell? ⟨w2.heap.size, 0, none⟩ = some (.int .i64 0) := by rw [t0, he0]; rfl
                rw [b2] at t1
                have hq : ((U : Int) != (D.used : Int) + (y.1.b.length : Int)) = false := by simp; omega
                clear t0 he he0 hA hB b1 b2 h1 hdu
                go_wp2_with (first | (go_at_call 35; refine HUS.out.mono ?_; rintro e w' ⟨rfl, rfl⟩))
                go_roundw
                case rel => exact ⟨k + 1, by go_num, HEND.out⟩
                case measure => simp [Lib.intOf]; omega
              · have hq1 : ((a.e : Int) == 111) = false := by simp; omega
                have hq2 : ((a.e : Int) == 0) = false := by simp; omega
                clear he he0 hA hB h1 hdu
                go_wp2_with (first | (go_at_call 35; refine HUS.out.mono ?_; rintro e w' ⟨rfl, rfl⟩))
                go_roundw
                case rel => exact ⟨k + 1, by go_num, HEND.out⟩
                case measure => simp [Lib.intOf]; omega
          · have hq1 : (y.1.kind == (1 : Int)) = false := beq_eq_false_iff_ne.2 h1
            clear h1 hdu
            go_wp2_with (first | (go_at_call 35; refine HUS.out.mono ?_; rintro e w' ⟨rfl, rfl⟩))
            go_roundw
            case rel => exact ⟨k + 1, by go_num, HEND.out⟩
            case measure => simp [Lib.intOf]; omega
    · have haw := awake_any wr
      have HAW := Lib.hid haw
      clear haw
      go_wp2_with (first | (go_at_call 28; refine HAW.out.mono ?_; rintro e w' ⟨rfl, hc⟩))
      go_ret
      have c1 : Chg (fun _ => False) (w.alloc (.cells #[.int .i64 (n : Int), fv, .slice p ops.length c] 50)) wr := Chg.mono HE.out.chg (G := fun _ => False) (fun k hk => by cases hk)
      exact ⟨rfl, Chg.trans (Chg.trans ((Chg.refl (fun _ => False) w).alloc _) c1 (fun k hk => hk.elim)) hc (fun k hk => hk.elim)⟩
end
end Go.Proofs
