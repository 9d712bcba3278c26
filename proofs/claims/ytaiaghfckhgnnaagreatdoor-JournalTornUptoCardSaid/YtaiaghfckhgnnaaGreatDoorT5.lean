/- JournalTorn's walk. Conditions: the records are read; there are at most 1048576, each of at most 1048576 bytes; the listed variables lie as they were laid. -/
import Derived.Test.YtaiaghfckhgnnaaGreatDoorT3
import Derived.Test.YtaiaghfckhgnnaaGreatDoorT4
namespace Go.Proofs
open Go.RowKit Go.Hp Go.Dm Go.Dr Go.Jn
set_option linter.unusedVariables false
set_option maxRecDepth 10000
theorem mask_xor (u : UInt8) {s : Nat} (h : s < 8) : ∃ mk : UInt8, u ^^^ mk ≠ u ∧ bits BinOp.xor IntKind.u8 (u.toNat : Int) ((2 : Int) ^ s % 256) = ((u ^^^ mk).toNat : Int) := by
  have h1 : (2 : Int) ^ s % 256 = ((UInt8.ofNat (2 ^ s)).toNat : Int) ∧ UInt8.ofNat (2 ^ s) ≠ 0 := by
    have : s = 0 ∨ s = 1 ∨ s = 2 ∨ s = 3 ∨ s = 4 ∨ s = 5 ∨ s = 6 ∨ s = 7 := by omega
    rcases this with rfl | rfl | rfl | rfl | rfl | rfl | rfl | rfl <;> exact ⟨by decide, by decide⟩
  refine ⟨UInt8.ofNat (2 ^ s), fun e => h1.2 ?_, ?_⟩
  · have h2 := congrArg (u ^^^ ·) e
    simpa only [← UInt8.xor_assoc, UInt8.xor_self, UInt8.zero_xor] using h2
  · rw [h1.1, u8_xor_nat _ _ (UInt8.toNat_lt _) (UInt8.toNat_lt _), UInt8.toNat_xor]
section
variable {w : World} {ls : List LF} {p : Option Addr} {c : Nat}
set_option maxHeartbeats 64000000 in
theorem torn_walk (n0 bit : Int) (hg : Gl w) (hr : RRows w (.slice p ls.length c) ls) (hn : ls.length ≤ 1048576) (hb : ∀ x ∈ ls, x.bytes.length ≤ 1048576) :
    Calls Tryz.prog 3 #[.slice p ls.length c, .int .i64 n0, .int .i64 bit] w fun e w' => e = .returned (.bool true) ∧ Chg (fun _ => False) w w' := by
  have HFI := Lib.hid (filled_any hg (Many.nil w) hr hn hb)
  have HG := Lib.hid hg
  obtain ⟨N, hN⟩ : ∃ N, N = ls.length := ⟨_, rfl⟩
  rw [← hN] at HFI ⊢
  clear hg hr hn hb hN
  go_enter Tryz.func3, Tryz.ntmps3
  go_wp2_with (first | (go_at_call 8; refine stop ?_))
  refine go ?_
  refine HFI.out.mono ?_
  rintro e w1 ⟨hs, bv, av, rv, h200, h40, rfl, m1⟩
  obtain ⟨l, hl⟩ : ∃ l, l = hs.map LF.bytes := ⟨_, rfl⟩
  rw [← hl] at m1
  have hll : l.length = hs.length := by rw [hl, List.length_map]
  have hl200 : ∀ x ∈ l, x.length ≤ 200 := fun x hx => by rw [hl] at hx; obtain ⟨y, hy, rfl⟩ := List.mem_map.1 hx; exact h200 y hy
  have hfl := file_le hl200
  obtain ⟨Z, hZ⟩ : ∃ Z, Z = (fileOf 0 l).length := ⟨_, rfl⟩
  obtain ⟨S, hS⟩ : ∃ S, S = hs.length := ⟨_, rfl⟩
  have hob : OB w1 5 bv (fileOf 0 l) := m1.first
  obtain ⟨pb, cb, rfl, hcb, -⟩ := id hob
  have hnu : OC w1 1 3 av (atL l).length ((atL l).map intV) := m1.get (x := Ent.nums av (atL l)) (by simp)
  obtain ⟨pa, ac, rfl, hca, -⟩ := id hnu
  obtain ⟨ab, rfl⟩ := OC.blk1 hnu (by rw [atL_len]; omega)
  have hrec : Recs w1 rv hs := m1.get (x := Ent.recs rv hs) (by simp)
  obtain ⟨pr, rc, rfl, hcr, -⟩ := id hrec.oc
  rw [atL_len, hll, ← hS] at hnu hca m1 ⊢
  have hAT : ∀ w', OC w' 1 3 (.slice (some ⟨ab, 0, none⟩) (S + 1) ac) (atL l).length ((atL l).map intV) → ∀ k, k ≤ S → w'.cell? ⟨ab, k, none⟩ = some (.int .i64 (atN l k : Int)) := fun w' h1 k hk =>
    (OC.atk h1 (j := k) (u := intV (atN l k)) (by rw [List.getElem?_map, atL_get (by omega)]; rfl)).1
  have hnu1 : OC w1 1 3 (.slice (some ⟨ab, 0, none⟩) (S + 1) ac) (atL l).length ((atL l).map intV) := by rw [atL_len, hll, ← hS]; exact hnu
  have aS := hAT w1 hnu1 S (Nat.le_refl _)
  have hSZ : atN l S = Z := by rw [hS, hZ, ← atN_all, hll]
  rw [hSZ] at aS
  rw [← hZ] at m1 hcb ⊢
  rw [← hS] at hcr
  have iS : (S : Int) ≤ 40 := by omega
  have iZ : (Z : Int) ≤ 8640 := by omega
  have iZ0 : (0 : Int) ≤ (Z : Int) := by omega
  have iac : (S : Int) + 1 ≤ (ac : Int) := by omega
  have icb : (Z : Int) ≤ (cb : Int) := by omega
  have icr : (S : Int) ≤ (rc : Int) := by omega
  have HL := Lib.hid (And.intro hl200 (And.intro hl (And.intro (show l.length = S by omega) (show hs.length = S by omega))))
  have HZ := Lib.hid hZ
  have HAT := Lib.hid hAT
  have HSZ := Lib.hid hSZ
  have M1 := Lib.hid m1
  have hre := rest_any (w := w1) n0 (m := Z + 1) (by omega) (by omega)
  simp only [Int.natCast_add, show ((1 : Nat) : Int) = 1 from rfl] at hre
  have HRE := Lib.hid hre
  clear h200 h40 hl hll hl200 hfl hZ hS hob hnu hrec hca hcb hcr hAT hSZ m1 hre
  go_wp2_with (first | (go_at_call 9; refine stop ?_))
  refine go ?_
  refine HRE.out.mono ?_
  rintro e w' ⟨n, hnZ, rfl, rfl⟩
  have inZ : (n : Int) ≤ (Z : Int) := by omega
  have in0 : (0 : Int) ≤ (n : Int) := by omega
  clear aS hnZ
  go_wp2
  go_loopw [12] (fun t12 wr => w1 = wr ∧ ∃ k : Nat, t12 = .int .i64 (k : Int) ∧ k ≤ S ∧ atN l k ≤ n) (fun t12 _ => S - (Lib.intOf t12).toNat)
  case atStart => exact ⟨rfl, 0, rfl, Nat.zero_le _, by rw [atN_zero]; omega⟩
  case round =>
    obtain ⟨rfl, k, rfl, hkS, hkn⟩ := hrel
    have ikS : (k : Int) ≤ (S : Int) := by omega
    have ik0 : (0 : Int) ≤ (k : Int) := by omega
    obtain ⟨A, hA⟩ : ∃ A, A = atN l k := ⟨_, rfl⟩
    have iAn : (A : Int) ≤ (n : Int) := by omega
    have iA0 : (0 : Int) ≤ (A : Int) := by omega
    have nu := M1.out.get (x := Ent.nums (.slice (some ⟨ab, 0, none⟩) (S + 1) ac) (atL l)) (by simp)
    have ak := HAT.out w1 nu k hkS
    rw [← hA] at ak
    have HA := Lib.hid hA
    by_cases hkl : (k : Int) + 1 < (S : Int) + 1
    · have e1 : decide ((k : Int) + 1 < (S : Int) + 1) = true := decide_eq_true hkl
      have e1a : decide ((k : Int) < (S : Int)) = true := decide_eq_true (by omega)
      have e1b : decide (k < S) = true := decide_eq_true (by omega)
      have e1c : decide (k + 1 < S + 1) = true := decide_eq_true (by omega)
      obtain ⟨B, hB⟩ : ∃ B, B = atN l (k + 1) := ⟨_, rfl⟩
      have aB := HAT.out w1 nu (k + 1) (by omega)
      rw [← hB] at aB
      by_cases hBn : (B : Int) ≤ (n : Int)
      · have e2 : decide ((B : Int) ≤ (n : Int)) = true := decide_eq_true hBn
        have e2b : decide (B ≤ n) = true := decide_eq_true (by omega)
        have HBN := Lib.hid (And.intro hB hkS)
        clear hB hA nu ak hkn
        go_wp2
        go_roundw
        case rel => exact ⟨by trivial, k + 1, by go_num, by omega, by rw [← HBN.out.1]; omega⟩
        case measure => simp [Lib.intOf]; omega
      · have e2 : decide ((B : Int) ≤ (n : Int)) = false := decide_eq_false hBn
        have e2b : decide (B ≤ n) = false := decide_eq_false (by omega)
        have HK : Hid (k ≤ S ∧ atN l k ≤ n ∧ (k < S → n < atN l (k + 1)) ∧ (k = S → n = atN l k)) := Lib.hid ⟨hkS, hkn, fun _ => by omega, fun h => by omega⟩
        clear hB hA nu hkn hkS hBn
        by_cases hAn : (A : Int) < (n : Int)
        · have e3 : decide ((A : Int) < (n : Int)) = true := decide_eq_true hAn
          have e3b : decide (A < n) = true := decide_eq_true (by omega)
          have hpt : jparse ((fileOf 0 l).take n) = (l.take k, A, 90) := by
            rw [parse_torn (fun x hx => by have := HL.out.1 x hx; omega) (k := k) (by have := HK.out.1; have := HL.out.2.2.1; omega) HK.out.2.1 (fun h => HK.out.2.2.1 (by have := HL.out.2.2.1; omega)) (fun h => HK.out.2.2.2 (by have := HL.out.2.2.1; omega)), ← HA.out]
            congr 2; first | exact if_pos (by omega) | exact if_neg (by omega)
          have HPT := Lib.hid hpt
          have hrb := RB.pre (OB.rb M1.out.first) (m := n) (by omega)
          have hnl : ((fileOf 0 l).take n).length = n := by rw [List.length_take, ← HZ.out]; omega
          have hcp := copied_any (by rw [hnl]; omega) hrb
          rw [hnl] at hcp
          have HCP := Lib.hid hcp
          have HNL := Lib.hid hnl
          clear hpt hrb hnl hcp
          go_wp2_with (first | (go_at_call 11; refine stop ?_))
          refine go ?_
          refine HCP.out.mono ?_
          rintro e w2 ⟨v2, rfl, o2, c2, n2⟩
          obtain ⟨p2, cc2, rfl, -⟩ := id o2
          have m2 := M1.out.quiet c2
          have hpa := parse_any (HG.out.chg m2.chg) (OB.rb o2) (by rw [HNL.out]; omega)
          rw [HPT.out, HNL.out] at hpa
          rw [HNL.out]
          have HPA := Lib.hid hpa
          have M2 := Lib.hid m2
          clear o2 c2 n2 hpa m2
          go_wp2_with (first | (go_at_call 10; refine stop ?_))
          refine go ?_
          refine HPA.out.mono ?_
          rintro e w3 ⟨v3, ls3, rfl, hls3, hrec3, c3, -⟩
          obtain ⟨p3, cc3, rfl, -⟩ := id hrec3.oc
          have m3 := M2.out.quiet c3
          have hka : (hs.take k).length = k := by rw [List.length_take]; have := HK.out.1; have := HL.out.2.2.2; omega
          have hrr3 : RRows w3 (.slice pr (hs.take k).length rc) (hs.take k) := by
            have h1 : Recs w3 (.slice pr S rc) hs := m3.get (x := Ent.recs (.slice pr S rc) hs) (by simp)
            rw [hka]
            exact h1.rows.pre HK.out.1
          have heq3 := eqAll_same hrec3.rows hrr3 (by rw [hls3, List.map_take, ← HL.out.2.1]) (by have := congrArg List.length hls3; rw [List.length_map, List.length_take] at this; have := HL.out.2.2.1; omega)
          rw [hka] at heq3
          have HEQ3 := Lib.hid heq3
          have a3 := HAT.out w3 (m3.get (x := Ent.nums (.slice (some ⟨ab, 0, none⟩) (S + 1) ac) (atL l)) (by simp)) k HK.out.1
          rw [← HA.out] at a3
          have M3 := Lib.hid (And.intro m3 hka)
          clear hls3 hrec3 c3 m3 hrr3 heq3 hka ak
          go_wp2_with (first | (go_at_call 12; refine stop ?_))
          refine go ?_
          refine HEQ3.out.mono ?_
          rintro e w4 ⟨rfl, c4⟩
          have m4 := M3.out.1.quiet c4
          have hov := over_any HG.out m4 (RB.pre (OB.rb m4.first) (m := n) (by omega)) (by rw [HNL.out]; omega) HPT.out
          rw [HNL.out, show ((n - A : Nat) : Int) = (n : Int) - (A : Int) by omega] at hov
          have HOV := Lib.hid hov
          clear hov m4 c4 a3
          go_wp2_with (first | (go_at_call 13; refine stop ?_))
          refine go ?_
          refine HOV.out.mono ?_
          rintro e w5 ⟨v5, ls5, rfl, hls5, m5⟩
          have hrec5 : Recs w5 v5 ls5 := m5.first
          obtain ⟨p5, cc5, rfl, -⟩ := id hrec5.oc
          have hrr5 : RRows w5 (.slice pr (hs.take k).length rc) (hs.take k) := by
            have h1 : Recs w5 (.slice pr S rc) hs := m5.get (x := Ent.recs (.slice pr S rc) hs) (by simp)
            rw [M3.out.2]
            exact h1.rows.pre HK.out.1
          have heq5 := eqAll_same hrec5.rows hrr5 (by rw [hls5, List.map_take, ← HL.out.2.1]) (by have := congrArg List.length hls5; rw [List.length_map, List.length_take] at this; have := HL.out.2.2.1; omega)
          rw [M3.out.2] at heq5
          have HEQ5 := Lib.hid heq5
          have a5 := HAT.out w5 (m5.get (x := Ent.nums (.slice (some ⟨ab, 0, none⟩) (S + 1) ac) (atL l)) (by simp)) k HK.out.1
          rw [← HA.out] at a5
          have M5 := Lib.hid m5
          clear hls5 hrec5 m5 hrr5 heq5
          go_wp2_with (first | (go_at_call 12; refine stop ?_))
          refine go ?_
          refine HEQ5.out.mono ?_
          rintro e w6 ⟨rfl, c6⟩
          have m6 := M5.out.tail.quiet c6
          have M6 := Lib.hid m6
          clear m6 c6 a5
          by_cases hz0 : Z = 0
          · subst hz0
            go_wp2
            go_ret
            exact ⟨rfl, M6.out.chg⟩
          · have bz : ((Z : Int) == 0) = false := by rw [beq_eq_false_iff_ne]; omega
            have iZ1 : (1 : Int) ≤ (Z : Int) := by omega
            have hre2 := rest_any (w := w6) bit (m := 8 * Z) (by omega) (by omega)
            simp only [Int.natCast_mul, show ((8 : Nat) : Int) = 8 from rfl] at hre2
            have HRE2 := Lib.hid hre2
            clear hre2
            go_wp2_with (first | (go_at_call 9; refine stop ?_))
            refine go ?_
            refine HRE2.out.mono ?_
            rintro e w' ⟨i, hi, rfl, rfl⟩
            obtain ⟨o, ho⟩ : ∃ o, o = i / 8 := ⟨_, rfl⟩
            obtain ⟨s, hs8⟩ : ∃ s, s = i % 8 := ⟨_, rfl⟩
            have hq1 : (i : Int).tdiv 8 = (o : Int) := by rw [ho]; rfl
            have hq2 : (i : Int).tmod 8 = (s : Int) := by rw [hs8]; rfl
            have hoZ : o < Z := by omega
            have is8 : (s : Int) < 8 := by omega
            have is0 : (0 : Int) ≤ (s : Int) := by omega
            have ioZ : (o : Int) < (Z : Int) := by omega
            have io0 : (0 : Int) ≤ (o : Int) := by omega
            have ii0 : (0 : Int) ≤ (i : Int) := by omega
            have iiZ : (i : Int) < 8 * (Z : Int) := by omega
            have hcp := copied_any (w := w6) (l := fileOf 0 l) (by rw [← HZ.out]; omega) (OB.rb M6.out.first)
            have HCP := Lib.hid hcp
            clear hcp ho hs8 hi hz0
            go_wp2_with (first | (go_at_call 11; refine stop ?_))
            refine go ?_
            refine HCP.out.mono ?_
            rintro e w7 ⟨v7, rfl, o7, c7, n7⟩
            obtain ⟨p7, cc7, rfl, hcc7, -⟩ := id o7
            obtain ⟨bb, rfl⟩ := OB.blk o7 (fun e => by have h := HZ.out; rw [e] at h; simp at h; omega)
            have m7 := M6.out.addBytes o7 c7 n7
            obtain ⟨u, hu⟩ : ∃ u, (fileOf 0 l)[o]? = some u := ⟨_, List.getElem?_eq_getElem (by rw [← HZ.out]; omega)⟩
            have hu2 : ((fileOf 0 l)[o]'(by rw [← HZ.out]; omega)) = u := (List.getElem?_eq_some_iff.1 hu).2
            obtain ⟨y0, z0⟩ := OB.at_ o7 (j := o) (by rw [← HZ.out]; omega)
            rw [hu2] at y0
            rw [← HZ.out] at hcc7
            have icc7 : (Z : Int) ≤ (cc7 : Int) := by omega
            rw [← HZ.out]
            have M7 := Lib.hid (And.intro m7 hu)
            clear o7 c7 n7 m7 hu hu2 hcc7
            go_wp2
            refine Rx.wp_region_sched (fun _ => True) [(0, .r), (1, .r), (2, .r), (3, .r), (4, .r), (5, .r), (6, .r), (7, .r), (8, .r), (9, .r), (10, .r), (11, .r), (12, .r), (13, .e)] (by kernel_rfl) (by kernel_rfl) trivial (fun _ _ x _ _ h => (by cases x <;> exact h)) ?_
            iterate 13 (refine Rx.wpSched_q rfl rfl ?_; go_wp2; refine ⟨rfl, ?_⟩)
            refine Rx.wpSched_e rfl ?_
            go_wp2
            refine ⟨trivial, ?_⟩
            refine Rx.wpSched_nil ?_
            obtain ⟨mk, hmk, hxe⟩ := mask_xor u (s := s) (by omega)
            rw [hxe]
            have m8 := (M7.out.1.setByte (n := o) (by rw [← HZ.out]; omega) (u ^^^ mk)).quiet ((Chg.refl (fun _ => False) _).drew)
            change Many w (w7.setCell ⟨bb, o, none⟩ (.int .u8 ((u ^^^ mk).toNat : Int))).drew _ at m8
            obtain ⟨w8, hw8⟩ : ∃ w8, w8 = (w7.setCell ⟨bb, o, none⟩ (.int .u8 ((u ^^^ mk).toNat : Int))).drew := ⟨_, rfl⟩
            rw [← hw8] at m8 ⊢
            rw [← HZ.out] at m8
            have M8 := Lib.hid m8
            have HU := Lib.hid (And.intro M7.out.2 hmk)
            clear hmk hxe hw8 m8 y0 z0
            go_wp2
            go_loopw [12] (fun t12 wr => w8 = wr ∧ ∃ k2 : Nat, t12 = .int .i64 (k2 : Int) ∧ k2 < S ∧ atN l k2 ≤ o) (fun t12 _ => S - (Lib.intOf t12).toNat)
            case atStart => exact ⟨rfl, 0, rfl, by
              rcases Nat.eq_zero_or_pos S with h | h
              · have h2 := HSZ.out
                rw [h, atN_zero] at h2
                omega
              · exact h, by rw [atN_zero]; omega⟩
            case round =>
              obtain ⟨rfl, k2, rfl, hkS2, hko⟩ := hrel
              have ik2S : (k2 : Int) < (S : Int) := by omega
              have ik20 : (0 : Int) ≤ (k2 : Int) := by omega
              obtain ⟨A2, hA2⟩ : ∃ A2, A2 = atN l k2 := ⟨_, rfl⟩
              obtain ⟨B2, hB2⟩ : ∃ B2, B2 = atN l (k2 + 1) := ⟨_, rfl⟩
              have nu := M8.out.get (x := Ent.nums (.slice (some ⟨ab, 0, none⟩) (S + 1) ac) (atL l)) (by simp)
              have a2 := HAT.out w8 nu k2 (by omega)
              have b2 := HAT.out w8 nu (k2 + 1) (by omega)
              rw [← hA2] at a2
              rw [← hB2] at b2
              have iA2 : (A2 : Int) ≤ (o : Int) := by omega
              have iA20 : (0 : Int) ≤ (A2 : Int) := by omega
              have ik21 : (k2 : Int) + 1 < (S : Int) + 1 := by omega
              by_cases hBo : (B2 : Int) ≤ (o : Int)
              · have f2 : decide ((B2 : Int) ≤ (o : Int)) = true := decide_eq_true hBo
                have f2b : decide (B2 ≤ o) = true := decide_eq_true (by omega)
                have hk3 : k2 + 1 < S := by
                  rcases Nat.lt_or_ge (k2 + 1) S with h | h
                  · exact h
                  · have h2 := HSZ.out
                    rw [show S = k2 + 1 by omega, ← hB2] at h2
                    omega
                have HB2 := Lib.hid (And.intro hB2 hk3)
                clear hA2 hB2 nu a2 hko hk3
                go_wp2
                go_roundw
                case rel => exact ⟨by trivial, k2 + 1, by go_num, HB2.out.2, by rw [← HB2.out.1]; omega⟩
                case measure => simp [Lib.intOf]; omega
              · have f2 : decide ((B2 : Int) ≤ (o : Int)) = false := decide_eq_false hBo
                have f2b : decide (B2 ≤ o) = false := decide_eq_false (by omega)
                have HK2 := Lib.hid (And.intro hkS2 (And.intro (show A2 ≤ o by omega) (show o < atN l (k2 + 1) by omega)))
                have HA2 := Lib.hid hA2
                clear hA2 hB2 nu hko
                by_cases h8 : (o : Int) - (A2 : Int) < 8
                · have f3 : decide ((o : Int) - (A2 : Int) < 8) = true := decide_eq_true h8
                  have hps := parse_spoilt (l := l) (fun x hx => by have := HL.out.1 x hx; omega) (k := k2) (o := o) (u := u) (y := u ^^^ mk) (by have := HK2.out.1; have := HL.out.2.2.1; omega) (by rw [← HA2.out]; exact HK2.out.2.1) HK2.out.2.2 HU.out.1 HU.out.2
                  rw [← HA2.out] at hps
                  have hps' : jparse ((fileOf 0 l).set o (u ^^^ mk)) = (l.take k2, A2, 91) := by rw [hps]; congr 2; first | exact if_pos (by omega) | exact if_neg (by omega)
                  clear hps
                  have hsl : ((fileOf 0 l).set o (u ^^^ mk)).length = Z := by rw [List.length_set, ← HZ.out]
                  have hcp := copied_any (w := w8) (l := (fileOf 0 l).set o (u ^^^ mk)) (by rw [hsl]; omega) (OB.rb M8.out.first)
                  have HCP := Lib.hid hcp
                  have HPS := Lib.hid (And.intro hps' hsl)
                  clear hps' hsl hcp
                  go_wp2_with (first | (go_at_call 11; refine stop ?_))
                  refine go ?_
                  refine HCP.out.mono ?_
                  rintro e w9 ⟨v9, rfl, o9, c9, n9⟩
                  obtain ⟨p9, cc9, rfl, -⟩ := id o9
                  have m9 := M8.out.quiet c9
                  have hpa := parse_any (HG.out.chg m9.chg) (OB.rb o9) (by rw [HPS.out.2]; omega)
                  rw [HPS.out.1, HPS.out.2] at hpa
                  rw [HPS.out.2]
                  have HPA := Lib.hid hpa
                  have M9 := Lib.hid m9
                  clear o9 c9 n9 hpa m9
                  go_wp2_with (first | (go_at_call 10; refine stop ?_))
                  refine go ?_
                  refine HPA.out.mono ?_
                  rintro e w10 ⟨v10, ls10, rfl, hls10, hrec10, c10, -⟩
                  obtain ⟨p10, cc10, rfl, -⟩ := id hrec10.oc
                  have m10 := M9.out.quiet c10
                  have hka : (hs.take k2).length = k2 := by rw [List.length_take]; have := HK2.out.1; have := HL.out.2.2.2; omega
                  have hrr10 : RRows w10 (.slice pr (hs.take k2).length rc) (hs.take k2) := by
                    have h1 : Recs w10 (.slice pr S rc) hs := m10.get (x := Ent.recs (.slice pr S rc) hs) (by simp)
                    rw [hka]
                    exact h1.rows.pre (by have := HK2.out.1; omega)
                  have heq10 := eqAll_same hrec10.rows hrr10 (by rw [hls10, List.map_take, ← HL.out.2.1]) (by have := congrArg List.length hls10; rw [List.length_map, List.length_take] at this; have := HL.out.2.2.1; omega)
                  rw [hka] at heq10
                  have HEQ10 := Lib.hid heq10
                  have a10 := HAT.out w10 (m10.get (x := Ent.nums (.slice (some ⟨ab, 0, none⟩) (S + 1) ac) (atL l)) (by simp)) k2 (by have := HK2.out.1; omega)
                  rw [← HA2.out] at a10
                  have M10 := Lib.hid (And.intro m10 hka)
                  clear hls10 hrec10 c10 m10 hrr10 heq10 hka a2
                  go_wp2_with (first | (go_at_call 12; refine stop ?_))
                  refine go ?_
                  refine HEQ10.out.mono ?_
                  rintro e w11 ⟨rfl, c11⟩
                  have m11 := M10.out.1.quiet c11
                  have hov := over_any HG.out m11 (b := (fileOf 0 l).set o (u ^^^ mk)) (p := some ⟨bb, 0, none⟩) (c := cc7) (by rw [HPS.out.2]; exact OB.rb m11.first) (by rw [HPS.out.2]; omega) HPS.out.1
                  rw [HPS.out.2, show ((Z - A2 : Nat) : Int) = (Z : Int) - (A2 : Int) by omega] at hov
                  have HOV := Lib.hid hov
                  clear hov m11 c11 a10
                  go_wp2_with (first | (go_at_call 13; refine stop ?_))
                  refine go ?_
                  refine HOV.out.mono ?_
                  rintro e w12 ⟨v12, ls12, rfl, hls12, m12⟩
                  have hrec12 : Recs w12 v12 ls12 := m12.first
                  obtain ⟨p12, cc12, rfl, -⟩ := id hrec12.oc
                  have hrr12 : RRows w12 (.slice pr (hs.take k2).length rc) (hs.take k2) := by
                    have h1 : Recs w12 (.slice pr S rc) hs := m12.get (x := Ent.recs (.slice pr S rc) hs) (by simp)
                    rw [M10.out.2]
                    exact h1.rows.pre (by have := HK2.out.1; omega)
                  have heq12 := eqAll_same hrec12.rows hrr12 (by rw [hls12, List.map_take, ← HL.out.2.1]) (by have := congrArg List.length hls12; rw [List.length_map, List.length_take] at this; have := HL.out.2.2.1; omega)
                  rw [M10.out.2] at heq12
                  have HEQ12 := Lib.hid heq12
                  have a12 := HAT.out w12 (m12.get (x := Ent.nums (.slice (some ⟨ab, 0, none⟩) (S + 1) ac) (atL l)) (by simp)) k2 (by have := HK2.out.1; omega)
                  rw [← HA2.out] at a12
                  have M12 := Lib.hid m12
                  clear hls12 hrec12 m12 hrr12 heq12
                  go_wp2_with (first | (go_at_call 12; refine stop ?_))
                  refine go ?_
                  refine HEQ12.out.mono ?_
                  rintro e w13 ⟨rfl, c13⟩
                  go_wp2
                  go_ret
                  exact ⟨by simp, (M12.out.quiet c13).chg⟩
                · have f3 : decide ((o : Int) - (A2 : Int) < 8) = false := decide_eq_false h8
                  have hps := parse_spoilt (l := l) (fun x hx => by have := HL.out.1 x hx; omega) (k := k2) (o := o) (u := u) (y := u ^^^ mk) (by have := HK2.out.1; have := HL.out.2.2.1; omega) (by rw [← HA2.out]; exact HK2.out.2.1) HK2.out.2.2 HU.out.1 HU.out.2
                  rw [← HA2.out] at hps
                  have hps' : jparse ((fileOf 0 l).set o (u ^^^ mk)) = (l.take k2, A2, 93) := by rw [hps]; congr 2; first | exact if_pos (by omega) | exact if_neg (by omega)
                  clear hps
                  have hsl : ((fileOf 0 l).set o (u ^^^ mk)).length = Z := by rw [List.length_set, ← HZ.out]
                  have hcp := copied_any (w := w8) (l := (fileOf 0 l).set o (u ^^^ mk)) (by rw [hsl]; omega) (OB.rb M8.out.first)
                  have HCP := Lib.hid hcp
                  have HPS := Lib.hid (And.intro hps' hsl)
                  clear hps' hsl hcp
                  go_wp2_with (first | (go_at_call 11; refine stop ?_))
                  refine go ?_
                  refine HCP.out.mono ?_
                  rintro e w9 ⟨v9, rfl, o9, c9, n9⟩
                  obtain ⟨p9, cc9, rfl, -⟩ := id o9
                  have m9 := M8.out.quiet c9
                  have hpa := parse_any (HG.out.chg m9.chg) (OB.rb o9) (by rw [HPS.out.2]; omega)
                  rw [HPS.out.1, HPS.out.2] at hpa
                  rw [HPS.out.2]
                  have HPA := Lib.hid hpa
                  have M9 := Lib.hid m9
                  clear o9 c9 n9 hpa m9
                  go_wp2_with (first | (go_at_call 10; refine stop ?_))
                  refine go ?_
                  refine HPA.out.mono ?_
                  rintro e w10 ⟨v10, ls10, rfl, hls10, hrec10, c10, -⟩
                  obtain ⟨p10, cc10, rfl, -⟩ := id hrec10.oc
                  have m10 := M9.out.quiet c10
                  have hka : (hs.take k2).length = k2 := by rw [List.length_take]; have := HK2.out.1; have := HL.out.2.2.2; omega
                  have hrr10 : RRows w10 (.slice pr (hs.take k2).length rc) (hs.take k2) := by
                    have h1 : Recs w10 (.slice pr S rc) hs := m10.get (x := Ent.recs (.slice pr S rc) hs) (by simp)
                    rw [hka]
                    exact h1.rows.pre (by have := HK2.out.1; omega)
                  have heq10 := eqAll_same hrec10.rows hrr10 (by rw [hls10, List.map_take, ← HL.out.2.1]) (by have := congrArg List.length hls10; rw [List.length_map, List.length_take] at this; have := HL.out.2.2.1; omega)
                  rw [hka] at heq10
                  have HEQ10 := Lib.hid heq10
                  have a10 := HAT.out w10 (m10.get (x := Ent.nums (.slice (some ⟨ab, 0, none⟩) (S + 1) ac) (atL l)) (by simp)) k2 (by have := HK2.out.1; omega)
                  rw [← HA2.out] at a10
                  have M10 := Lib.hid (And.intro m10 hka)
                  clear hls10 hrec10 c10 m10 hrr10 heq10 hka a2
                  go_wp2_with (first | (go_at_call 12; refine stop ?_))
                  refine go ?_
                  refine HEQ10.out.mono ?_
                  rintro e w11 ⟨rfl, c11⟩
                  have m11 := M10.out.1.quiet c11
                  have hov := over_any HG.out m11 (b := (fileOf 0 l).set o (u ^^^ mk)) (p := some ⟨bb, 0, none⟩) (c := cc7) (by rw [HPS.out.2]; exact OB.rb m11.first) (by rw [HPS.out.2]; omega) HPS.out.1
                  rw [HPS.out.2, show ((Z - A2 : Nat) : Int) = (Z : Int) - (A2 : Int) by omega] at hov
                  have HOV := Lib.hid hov
                  clear hov m11 c11 a10
                  go_wp2_with (first | (go_at_call 13; refine stop ?_))
                  refine go ?_
                  refine HOV.out.mono ?_
                  rintro e w12 ⟨v12, ls12, rfl, hls12, m12⟩
                  have hrec12 : Recs w12 v12 ls12 := m12.first
                  obtain ⟨p12, cc12, rfl, -⟩ := id hrec12.oc
                  have hrr12 : RRows w12 (.slice pr (hs.take k2).length rc) (hs.take k2) := by
                    have h1 : Recs w12 (.slice pr S rc) hs := m12.get (x := Ent.recs (.slice pr S rc) hs) (by simp)
                    rw [M10.out.2]
                    exact h1.rows.pre (by have := HK2.out.1; omega)
                  have heq12 := eqAll_same hrec12.rows hrr12 (by rw [hls12, List.map_take, ← HL.out.2.1]) (by have := congrArg List.length hls12; rw [List.length_map, List.length_take] at this; have := HL.out.2.2.1; omega)
                  rw [M10.out.2] at heq12
                  have HEQ12 := Lib.hid heq12
                  have a12 := HAT.out w12 (m12.get (x := Ent.nums (.slice (some ⟨ab, 0, none⟩) (S + 1) ac) (atL l)) (by simp)) k2 (by have := HK2.out.1; omega)
                  rw [← HA2.out] at a12
                  have M12 := Lib.hid m12
                  clear hls12 hrec12 m12 hrr12 heq12
                  go_wp2_with (first | (go_at_call 12; refine stop ?_))
                  refine go ?_
                  refine HEQ12.out.mono ?_
                  rintro e w13 ⟨rfl, c13⟩
                  go_wp2
                  go_ret
                  exact ⟨by simp, (M12.out.quiet c13).chg⟩
        · have e3 : decide ((A : Int) < (n : Int)) = false := decide_eq_false hAn
          have e3b : decide (A < n) = false := decide_eq_false (by omega)
          have hpt : jparse ((fileOf 0 l).take n) = (l.take k, A, 0) := by
            rw [parse_torn (fun x hx => by have := HL.out.1 x hx; omega) (k := k) (by have := HK.out.1; have := HL.out.2.2.1; omega) HK.out.2.1 (fun h => HK.out.2.2.1 (by have := HL.out.2.2.1; omega)) (fun h => HK.out.2.2.2 (by have := HL.out.2.2.1; omega)), ← HA.out]
            congr 2; first | exact if_pos (by omega) | exact if_neg (by omega)
          have HPT := Lib.hid hpt
          have hrb := RB.pre (OB.rb M1.out.first) (m := n) (by omega)
          have hnl : ((fileOf 0 l).take n).length = n := by rw [List.length_take, ← HZ.out]; omega
          have hcp := copied_any (by rw [hnl]; omega) hrb
          rw [hnl] at hcp
          have HCP := Lib.hid hcp
          have HNL := Lib.hid hnl
          clear hpt hrb hnl hcp
          go_wp2_with (first | (go_at_call 11; refine stop ?_))
          refine go ?_
          refine HCP.out.mono ?_
          rintro e w2 ⟨v2, rfl, o2, c2, n2⟩
          obtain ⟨p2, cc2, rfl, -⟩ := id o2
          have m2 := M1.out.quiet c2
          have hpa := parse_any (HG.out.chg m2.chg) (OB.rb o2) (by rw [HNL.out]; omega)
          rw [HPT.out, HNL.out] at hpa
          rw [HNL.out]
          have HPA := Lib.hid hpa
          have M2 := Lib.hid m2
          clear o2 c2 n2 hpa m2
          go_wp2_with (first | (go_at_call 10; refine stop ?_))
          refine go ?_
          refine HPA.out.mono ?_
          rintro e w3 ⟨v3, ls3, rfl, hls3, hrec3, c3, -⟩
          obtain ⟨p3, cc3, rfl, -⟩ := id hrec3.oc
          have m3 := M2.out.quiet c3
          have hka : (hs.take k).length = k := by rw [List.length_take]; have := HK.out.1; have := HL.out.2.2.2; omega
          have hrr3 : RRows w3 (.slice pr (hs.take k).length rc) (hs.take k) := by
            have h1 : Recs w3 (.slice pr S rc) hs := m3.get (x := Ent.recs (.slice pr S rc) hs) (by simp)
            rw [hka]
            exact h1.rows.pre HK.out.1
          have heq3 := eqAll_same hrec3.rows hrr3 (by rw [hls3, List.map_take, ← HL.out.2.1]) (by have := congrArg List.length hls3; rw [List.length_map, List.length_take] at this; have := HL.out.2.2.1; omega)
          rw [hka] at heq3
          have HEQ3 := Lib.hid heq3
          have a3 := HAT.out w3 (m3.get (x := Ent.nums (.slice (some ⟨ab, 0, none⟩) (S + 1) ac) (atL l)) (by simp)) k HK.out.1
          rw [← HA.out] at a3
          have M3 := Lib.hid (And.intro m3 hka)
          clear hls3 hrec3 c3 m3 hrr3 heq3 hka ak
          go_wp2_with (first | (go_at_call 12; refine stop ?_))
          refine go ?_
          refine HEQ3.out.mono ?_
          rintro e w4 ⟨rfl, c4⟩
          have m4 := M3.out.1.quiet c4
          have hov := over_any HG.out m4 (RB.pre (OB.rb m4.first) (m := n) (by omega)) (by rw [HNL.out]; omega) HPT.out
          rw [HNL.out, show ((n - A : Nat) : Int) = (n : Int) - (A : Int) by omega] at hov
          have HOV := Lib.hid hov
          clear hov m4 c4 a3
          go_wp2_with (first | (go_at_call 13; refine stop ?_))
          refine go ?_
          refine HOV.out.mono ?_
          rintro e w5 ⟨v5, ls5, rfl, hls5, m5⟩
          have hrec5 : Recs w5 v5 ls5 := m5.first
          obtain ⟨p5, cc5, rfl, -⟩ := id hrec5.oc
          have hrr5 : RRows w5 (.slice pr (hs.take k).length rc) (hs.take k) := by
            have h1 : Recs w5 (.slice pr S rc) hs := m5.get (x := Ent.recs (.slice pr S rc) hs) (by simp)
            rw [M3.out.2]
            exact h1.rows.pre HK.out.1
          have heq5 := eqAll_same hrec5.rows hrr5 (by rw [hls5, List.map_take, ← HL.out.2.1]) (by have := congrArg List.length hls5; rw [List.length_map, List.length_take] at this; have := HL.out.2.2.1; omega)
          rw [M3.out.2] at heq5
          have HEQ5 := Lib.hid heq5
          have a5 := HAT.out w5 (m5.get (x := Ent.nums (.slice (some ⟨ab, 0, none⟩) (S + 1) ac) (atL l)) (by simp)) k HK.out.1
          rw [← HA.out] at a5
          have M5 := Lib.hid m5
          clear hls5 hrec5 m5 hrr5 heq5
          go_wp2_with (first | (go_at_call 12; refine stop ?_))
          refine go ?_
          refine HEQ5.out.mono ?_
          rintro e w6 ⟨rfl, c6⟩
          have m6 := M5.out.tail.quiet c6
          have M6 := Lib.hid m6
          clear m6 c6 a5
          by_cases hz0 : Z = 0
          · subst hz0
            go_wp2
            go_ret
            exact ⟨rfl, M6.out.chg⟩
          · have bz : ((Z : Int) == 0) = false := by rw [beq_eq_false_iff_ne]; omega
            have iZ1 : (1 : Int) ≤ (Z : Int) := by omega
            have hre2 := rest_any (w := w6) bit (m := 8 * Z) (by omega) (by omega)
            simp only [Int.natCast_mul, show ((8 : Nat) : Int) = 8 from rfl] at hre2
            have HRE2 := Lib.hid hre2
            clear hre2
            go_wp2_with (first | (go_at_call 9; refine stop ?_))
            refine go ?_
            refine HRE2.out.mono ?_
            rintro e w' ⟨i, hi, rfl, rfl⟩
            obtain ⟨o, ho⟩ : ∃ o, o = i / 8 := ⟨_, rfl⟩
            obtain ⟨s, hs8⟩ : ∃ s, s = i % 8 := ⟨_, rfl⟩
            have hq1 : (i : Int).tdiv 8 = (o : Int) := by rw [ho]; rfl
            have hq2 : (i : Int).tmod 8 = (s : Int) := by rw [hs8]; rfl
            have hoZ : o < Z := by omega
            have is8 : (s : Int) < 8 := by omega
            have is0 : (0 : Int) ≤ (s : Int) := by omega
            have ioZ : (o : Int) < (Z : Int) := by omega
            have io0 : (0 : Int) ≤ (o : Int) := by omega
            have ii0 : (0 : Int) ≤ (i : Int) := by omega
            have iiZ : (i : Int) < 8 * (Z : Int) := by omega
            have hcp := copied_any (w := w6) (l := fileOf 0 l) (by rw [← HZ.out]; omega) (OB.rb M6.out.first)
            have HCP := Lib.hid hcp
            clear hcp ho hs8 hi hz0
            go_wp2_with (first | (go_at_call 11; refine stop ?_))
            refine go ?_
            refine HCP.out.mono ?_
            rintro e w7 ⟨v7, rfl, o7, c7, n7⟩
            obtain ⟨p7, cc7, rfl, hcc7, -⟩ := id o7
            obtain ⟨bb, rfl⟩ := OB.blk o7 (fun e => by have h := HZ.out; rw [e] at h; simp at h; omega)
            have m7 := M6.out.addBytes o7 c7 n7
            obtain ⟨u, hu⟩ : ∃ u, (fileOf 0 l)[o]? = some u := ⟨_, List.getElem?_eq_getElem (by rw [← HZ.out]; omega)⟩
            have hu2 : ((fileOf 0 l)[o]'(by rw [← HZ.out]; omega)) = u := (List.getElem?_eq_some_iff.1 hu).2
            obtain ⟨y0, z0⟩ := OB.at_ o7 (j := o) (by rw [← HZ.out]; omega)
            rw [hu2] at y0
            rw [← HZ.out] at hcc7
            have icc7 : (Z : Int) ≤ (cc7 : Int) := by omega
            rw [← HZ.out]
            have M7 := Lib.hid (And.intro m7 hu)
            clear o7 c7 n7 m7 hu hu2 hcc7
            go_wp2
            refine Rx.wp_region_sched (fun _ => True) [(0, .r), (1, .r), (2, .r), (3, .r), (4, .r), (5, .r), (6, .r), (7, .r), (8, .r), (9, .r), (10, .r), (11, .r), (12, .r), (13, .e)] (by kernel_rfl) (by kernel_rfl) trivial (fun _ _ x _ _ h => (by cases x <;> exact h)) ?_
            iterate 13 (refine Rx.wpSched_q rfl rfl ?_; go_wp2; refine ⟨rfl, ?_⟩)
            refine Rx.wpSched_e rfl ?_
            go_wp2
            refine ⟨trivial, ?_⟩
            refine Rx.wpSched_nil ?_
            obtain ⟨mk, hmk, hxe⟩ := mask_xor u (s := s) (by omega)
            rw [hxe]
            have m8 := (M7.out.1.setByte (n := o) (by rw [← HZ.out]; omega) (u ^^^ mk)).quiet ((Chg.refl (fun _ => False) _).drew)
            change Many w (w7.setCell ⟨bb, o, none⟩ (.int .u8 ((u ^^^ mk).toNat : Int))).drew _ at m8
            obtain ⟨w8, hw8⟩ : ∃ w8, w8 = (w7.setCell ⟨bb, o, none⟩ (.int .u8 ((u ^^^ mk).toNat : Int))).drew := ⟨_, rfl⟩
            rw [← hw8] at m8 ⊢
            rw [← HZ.out] at m8
            have M8 := Lib.hid m8
            have HU := Lib.hid (And.intro M7.out.2 hmk)
            clear hmk hxe hw8 m8 y0 z0
            go_wp2
            go_loopw [12] (fun t12 wr => w8 = wr ∧ ∃ k2 : Nat, t12 = .int .i64 (k2 : Int) ∧ k2 < S ∧ atN l k2 ≤ o) (fun t12 _ => S - (Lib.intOf t12).toNat)
            case atStart => exact ⟨rfl, 0, rfl, by
              rcases Nat.eq_zero_or_pos S with h | h
              · have h2 := HSZ.out
                rw [h, atN_zero] at h2
                omega
              · exact h, by rw [atN_zero]; omega⟩
            case round =>
              obtain ⟨rfl, k2, rfl, hkS2, hko⟩ := hrel
              have ik2S : (k2 : Int) < (S : Int) := by omega
              have ik20 : (0 : Int) ≤ (k2 : Int) := by omega
              obtain ⟨A2, hA2⟩ : ∃ A2, A2 = atN l k2 := ⟨_, rfl⟩
              obtain ⟨B2, hB2⟩ : ∃ B2, B2 = atN l (k2 + 1) := ⟨_, rfl⟩
              have nu := M8.out.get (x := Ent.nums (.slice (some ⟨ab, 0, none⟩) (S + 1) ac) (atL l)) (by simp)
              have a2 := HAT.out w8 nu k2 (by omega)
              have b2 := HAT.out w8 nu (k2 + 1) (by omega)
              rw [← hA2] at a2
              rw [← hB2] at b2
              have iA2 : (A2 : Int) ≤ (o : Int) := by omega
              have iA20 : (0 : Int) ≤ (A2 : Int) := by omega
              have ik21 : (k2 : Int) + 1 < (S : Int) + 1 := by omega
              by_cases hBo : (B2 : Int) ≤ (o : Int)
              · have f2 : decide ((B2 : Int) ≤ (o : Int)) = true := decide_eq_true hBo
                have f2b : decide (B2 ≤ o) = true := decide_eq_true (by omega)
                have hk3 : k2 + 1 < S := by
                  rcases Nat.lt_or_ge (k2 + 1) S with h | h
                  · exact h
                  · have h2 := HSZ.out
                    rw [show S = k2 + 1 by omega, ← hB2] at h2
                    omega
                have HB2 := Lib.hid (And.intro hB2 hk3)
                clear hA2 hB2 nu a2 hko hk3
                go_wp2
                go_roundw
                case rel => exact ⟨by trivial, k2 + 1, by go_num, HB2.out.2, by rw [← HB2.out.1]; omega⟩
                case measure => simp [Lib.intOf]; omega
              · have f2 : decide ((B2 : Int) ≤ (o : Int)) = false := decide_eq_false hBo
                have f2b : decide (B2 ≤ o) = false := decide_eq_false (by omega)
                have HK2 := Lib.hid (And.intro hkS2 (And.intro (show A2 ≤ o by omega) (show o < atN l (k2 + 1) by omega)))
                have HA2 := Lib.hid hA2
                clear hA2 hB2 nu hko
                by_cases h8 : (o : Int) - (A2 : Int) < 8
                · have f3 : decide ((o : Int) - (A2 : Int) < 8) = true := decide_eq_true h8
                  have hps := parse_spoilt (l := l) (fun x hx => by have := HL.out.1 x hx; omega) (k := k2) (o := o) (u := u) (y := u ^^^ mk) (by have := HK2.out.1; have := HL.out.2.2.1; omega) (by rw [← HA2.out]; exact HK2.out.2.1) HK2.out.2.2 HU.out.1 HU.out.2
                  rw [← HA2.out] at hps
                  have hps' : jparse ((fileOf 0 l).set o (u ^^^ mk)) = (l.take k2, A2, 91) := by rw [hps]; congr 2; first | exact if_pos (by omega) | exact if_neg (by omega)
                  clear hps
                  have hsl : ((fileOf 0 l).set o (u ^^^ mk)).length = Z := by rw [List.length_set, ← HZ.out]
                  have hcp := copied_any (w := w8) (l := (fileOf 0 l).set o (u ^^^ mk)) (by rw [hsl]; omega) (OB.rb M8.out.first)
                  have HCP := Lib.hid hcp
                  have HPS := Lib.hid (And.intro hps' hsl)
                  clear hps' hsl hcp
                  go_wp2_with (first | (go_at_call 11; refine stop ?_))
                  refine go ?_
                  refine HCP.out.mono ?_
                  rintro e w9 ⟨v9, rfl, o9, c9, n9⟩
                  obtain ⟨p9, cc9, rfl, -⟩ := id o9
                  have m9 := M8.out.quiet c9
                  have hpa := parse_any (HG.out.chg m9.chg) (OB.rb o9) (by rw [HPS.out.2]; omega)
                  rw [HPS.out.1, HPS.out.2] at hpa
                  rw [HPS.out.2]
                  have HPA := Lib.hid hpa
                  have M9 := Lib.hid m9
                  clear o9 c9 n9 hpa m9
                  go_wp2_with (first | (go_at_call 10; refine stop ?_))
                  refine go ?_
                  refine HPA.out.mono ?_
                  rintro e w10 ⟨v10, ls10, rfl, hls10, hrec10, c10, -⟩
                  obtain ⟨p10, cc10, rfl, -⟩ := id hrec10.oc
                  have m10 := M9.out.quiet c10
                  have hka : (hs.take k2).length = k2 := by rw [List.length_take]; have := HK2.out.1; have := HL.out.2.2.2; omega
                  have hrr10 : RRows w10 (.slice pr (hs.take k2).length rc) (hs.take k2) := by
                    have h1 : Recs w10 (.slice pr S rc) hs := m10.get (x := Ent.recs (.slice pr S rc) hs) (by simp)
                    rw [hka]
                    exact h1.rows.pre (by have := HK2.out.1; omega)
                  have heq10 := eqAll_same hrec10.rows hrr10 (by rw [hls10, List.map_take, ← HL.out.2.1]) (by have := congrArg List.length hls10; rw [List.length_map, List.length_take] at this; have := HL.out.2.2.1; omega)
                  rw [hka] at heq10
                  have HEQ10 := Lib.hid heq10
                  have a10 := HAT.out w10 (m10.get (x := Ent.nums (.slice (some ⟨ab, 0, none⟩) (S + 1) ac) (atL l)) (by simp)) k2 (by have := HK2.out.1; omega)
                  rw [← HA2.out] at a10
                  have M10 := Lib.hid (And.intro m10 hka)
                  clear hls10 hrec10 c10 m10 hrr10 heq10 hka a2
                  go_wp2_with (first | (go_at_call 12; refine stop ?_))
                  refine go ?_
                  refine HEQ10.out.mono ?_
                  rintro e w11 ⟨rfl, c11⟩
                  have m11 := M10.out.1.quiet c11
                  have hov := over_any HG.out m11 (b := (fileOf 0 l).set o (u ^^^ mk)) (p := some ⟨bb, 0, none⟩) (c := cc7) (by rw [HPS.out.2]; exact OB.rb m11.first) (by rw [HPS.out.2]; omega) HPS.out.1
                  rw [HPS.out.2, show ((Z - A2 : Nat) : Int) = (Z : Int) - (A2 : Int) by omega] at hov
                  have HOV := Lib.hid hov
                  clear hov m11 c11 a10
                  go_wp2_with (first | (go_at_call 13; refine stop ?_))
                  refine go ?_
                  refine HOV.out.mono ?_
                  rintro e w12 ⟨v12, ls12, rfl, hls12, m12⟩
                  have hrec12 : Recs w12 v12 ls12 := m12.first
                  obtain ⟨p12, cc12, rfl, -⟩ := id hrec12.oc
                  have hrr12 : RRows w12 (.slice pr (hs.take k2).length rc) (hs.take k2) := by
                    have h1 : Recs w12 (.slice pr S rc) hs := m12.get (x := Ent.recs (.slice pr S rc) hs) (by simp)
                    rw [M10.out.2]
                    exact h1.rows.pre (by have := HK2.out.1; omega)
                  have heq12 := eqAll_same hrec12.rows hrr12 (by rw [hls12, List.map_take, ← HL.out.2.1]) (by have := congrArg List.length hls12; rw [List.length_map, List.length_take] at this; have := HL.out.2.2.1; omega)
                  rw [M10.out.2] at heq12
                  have HEQ12 := Lib.hid heq12
                  have a12 := HAT.out w12 (m12.get (x := Ent.nums (.slice (some ⟨ab, 0, none⟩) (S + 1) ac) (atL l)) (by simp)) k2 (by have := HK2.out.1; omega)
                  rw [← HA2.out] at a12
                  have M12 := Lib.hid m12
                  clear hls12 hrec12 m12 hrr12 heq12
                  go_wp2_with (first | (go_at_call 12; refine stop ?_))
                  refine go ?_
                  refine HEQ12.out.mono ?_
                  rintro e w13 ⟨rfl, c13⟩
                  go_wp2
                  go_ret
                  exact ⟨by simp, (M12.out.quiet c13).chg⟩
                · have f3 : decide ((o : Int) - (A2 : Int) < 8) = false := decide_eq_false h8
                  have hps := parse_spoilt (l := l) (fun x hx => by have := HL.out.1 x hx; omega) (k := k2) (o := o) (u := u) (y := u ^^^ mk) (by have := HK2.out.1; have := HL.out.2.2.1; omega) (by rw [← HA2.out]; exact HK2.out.2.1) HK2.out.2.2 HU.out.1 HU.out.2
                  rw [← HA2.out] at hps
                  have hps' : jparse ((fileOf 0 l).set o (u ^^^ mk)) = (l.take k2, A2, 93) := by rw [hps]; congr 2; first | exact if_pos (by omega) | exact if_neg (by omega)
                  clear hps
                  have hsl : ((fileOf 0 l).set o (u ^^^ mk)).length = Z := by rw [List.length_set, ← HZ.out]
                  have hcp := copied_any (w := w8) (l := (fileOf 0 l).set o (u ^^^ mk)) (by rw [hsl]; omega) (OB.rb M8.out.first)
                  have HCP := Lib.hid hcp
                  have HPS := Lib.hid (And.intro hps' hsl)
                  clear hps' hsl hcp
                  go_wp2_with (first | (go_at_call 11; refine stop ?_))
                  refine go ?_
                  refine HCP.out.mono ?_
                  rintro e w9 ⟨v9, rfl, o9, c9, n9⟩
                  obtain ⟨p9, cc9, rfl, -⟩ := id o9
                  have m9 := M8.out.quiet c9
                  have hpa := parse_any (HG.out.chg m9.chg) (OB.rb o9) (by rw [HPS.out.2]; omega)
                  rw [HPS.out.1, HPS.out.2] at hpa
                  rw [HPS.out.2]
                  have HPA := Lib.hid hpa
                  have M9 := Lib.hid m9
                  clear o9 c9 n9 hpa m9
                  go_wp2_with (first | (go_at_call 10; refine stop ?_))
                  refine go ?_
                  refine HPA.out.mono ?_
                  rintro e w10 ⟨v10, ls10, rfl, hls10, hrec10, c10, -⟩
                  obtain ⟨p10, cc10, rfl, -⟩ := id hrec10.oc
                  have m10 := M9.out.quiet c10
                  have hka : (hs.take k2).length = k2 := by rw [List.length_take]; have := HK2.out.1; have := HL.out.2.2.2; omega
                  have hrr10 : RRows w10 (.slice pr (hs.take k2).length rc) (hs.take k2) := by
                    have h1 : Recs w10 (.slice pr S rc) hs := m10.get (x := Ent.recs (.slice pr S rc) hs) (by simp)
                    rw [hka]
                    exact h1.rows.pre (by have := HK2.out.1; omega)
                  have heq10 := eqAll_same hrec10.rows hrr10 (by rw [hls10, List.map_take, ← HL.out.2.1]) (by have := congrArg List.length hls10; rw [List.length_map, List.length_take] at this; have := HL.out.2.2.1; omega)
                  rw [hka] at heq10
                  have HEQ10 := Lib.hid heq10
                  have a10 := HAT.out w10 (m10.get (x := Ent.nums (.slice (some ⟨ab, 0, none⟩) (S + 1) ac) (atL l)) (by simp)) k2 (by have := HK2.out.1; omega)
                  rw [← HA2.out] at a10
                  have M10 := Lib.hid (And.intro m10 hka)
                  clear hls10 hrec10 c10 m10 hrr10 heq10 hka a2
                  go_wp2_with (first | (go_at_call 12; refine stop ?_))
                  refine go ?_
                  refine HEQ10.out.mono ?_
                  rintro e w11 ⟨rfl, c11⟩
                  have m11 := M10.out.1.quiet c11
                  have hov := over_any HG.out m11 (b := (fileOf 0 l).set o (u ^^^ mk)) (p := some ⟨bb, 0, none⟩) (c := cc7) (by rw [HPS.out.2]; exact OB.rb m11.first) (by rw [HPS.out.2]; omega) HPS.out.1
                  rw [HPS.out.2, show ((Z - A2 : Nat) : Int) = (Z : Int) - (A2 : Int) by omega] at hov
                  have HOV := Lib.hid hov
                  clear hov m11 c11 a10
                  go_wp2_with (first | (go_at_call 13; refine stop ?_))
                  refine go ?_
                  refine HOV.out.mono ?_
                  rintro e w12 ⟨v12, ls12, rfl, hls12, m12⟩
                  have hrec12 : Recs w12 v12 ls12 := m12.first
                  obtain ⟨p12, cc12, rfl, -⟩ := id hrec12.oc
                  have hrr12 : RRows w12 (.slice pr (hs.take k2).length rc) (hs.take k2) := by
                    have h1 : Recs w12 (.slice pr S rc) hs := m12.get (x := Ent.recs (.slice pr S rc) hs) (by simp)
                    rw [M10.out.2]
                    exact h1.rows.pre (by have := HK2.out.1; omega)
                  have heq12 := eqAll_same hrec12.rows hrr12 (by rw [hls12, List.map_take, ← HL.out.2.1]) (by have := congrArg List.length hls12; rw [List.length_map, List.length_take] at this; have := HL.out.2.2.1; omega)
                  rw [M10.out.2] at heq12
                  have HEQ12 := Lib.hid heq12
                  have a12 := HAT.out w12 (m12.get (x := Ent.nums (.slice (some ⟨ab, 0, none⟩) (S + 1) ac) (atL l)) (by simp)) k2 (by have := HK2.out.1; omega)
                  rw [← HA2.out] at a12
                  have M12 := Lib.hid m12
                  clear hls12 hrec12 m12 hrr12 heq12
                  go_wp2_with (first | (go_at_call 12; refine stop ?_))
                  refine go ?_
                  refine HEQ12.out.mono ?_
                  rintro e w13 ⟨rfl, c13⟩
                  go_wp2
                  go_ret
                  exact ⟨by simp, (M12.out.quiet c13).chg⟩
    · have e1 : decide ((k : Int) + 1 < (S : Int) + 1) = false := decide_eq_false hkl
      have e1a : decide ((k : Int) < (S : Int)) = false := decide_eq_false (by omega)
      have e1b : decide (k < S) = false := decide_eq_false (by omega)
      have e1c : decide (k + 1 < S + 1) = false := decide_eq_false (by omega)
      have hAZ : A = Z := by rw [hA, show k = S by omega]; exact HSZ.out
      have hAn : ¬ (A : Int) < (n : Int) := by omega
      have e3 : decide ((A : Int) < (n : Int)) = false := decide_eq_false hAn
      have e3b : decide (A < n) = false := decide_eq_false (by omega)
      have HK : Hid (k ≤ S ∧ atN l k ≤ n ∧ (k < S → n < atN l (k + 1)) ∧ (k = S → n = atN l k)) := Lib.hid ⟨hkS, hkn, fun h => by omega, fun h => by omega⟩
      clear hA nu hkn hkS hAZ
      have hpt : jparse ((fileOf 0 l).take n) = (l.take k, A, 0) := by
        rw [parse_torn (fun x hx => by have := HL.out.1 x hx; omega) (k := k) (by have := HK.out.1; have := HL.out.2.2.1; omega) HK.out.2.1 (fun h => HK.out.2.2.1 (by have := HL.out.2.2.1; omega)) (fun h => HK.out.2.2.2 (by have := HL.out.2.2.1; omega)), ← HA.out]
        congr 2; first | exact if_pos (by omega) | exact if_neg (by omega)
      have HPT := Lib.hid hpt
      have hrb := RB.pre (OB.rb M1.out.first) (m := n) (by omega)
      have hnl : ((fileOf 0 l).take n).length = n := by rw [List.length_take, ← HZ.out]; omega
      have hcp := copied_any (by rw [hnl]; omega) hrb
      rw [hnl] at hcp
      have HCP := Lib.hid hcp
      have HNL := Lib.hid hnl
      clear hpt hrb hnl hcp
      go_wp2_with (first | (go_at_call 11; refine stop ?_))
      refine go ?_
      refine HCP.out.mono ?_
      rintro e w2 ⟨v2, rfl, o2, c2, n2⟩
      obtain ⟨p2, cc2, rfl, -⟩ := id o2
      have m2 := M1.out.quiet c2
      have hpa := parse_any (HG.out.chg m2.chg) (OB.rb o2) (by rw [HNL.out]; omega)
      rw [HPT.out, HNL.out] at hpa
      rw [HNL.out]
      have HPA := Lib.hid hpa
      have M2 := Lib.hid m2
      clear o2 c2 n2 hpa m2
      go_wp2_with (first | (go_at_call 10; refine stop ?_))
      refine go ?_
      refine HPA.out.mono ?_
      rintro e w3 ⟨v3, ls3, rfl, hls3, hrec3, c3, -⟩
      obtain ⟨p3, cc3, rfl, -⟩ := id hrec3.oc
      have m3 := M2.out.quiet c3
      have hka : (hs.take k).length = k := by rw [List.length_take]; have := HK.out.1; have := HL.out.2.2.2; omega
      have hrr3 : RRows w3 (.slice pr (hs.take k).length rc) (hs.take k) := by
        have h1 : Recs w3 (.slice pr S rc) hs := m3.get (x := Ent.recs (.slice pr S rc) hs) (by simp)
        rw [hka]
        exact h1.rows.pre HK.out.1
      have heq3 := eqAll_same hrec3.rows hrr3 (by rw [hls3, List.map_take, ← HL.out.2.1]) (by have := congrArg List.length hls3; rw [List.length_map, List.length_take] at this; have := HL.out.2.2.1; omega)
      rw [hka] at heq3
      have HEQ3 := Lib.hid heq3
      have a3 := HAT.out w3 (m3.get (x := Ent.nums (.slice (some ⟨ab, 0, none⟩) (S + 1) ac) (atL l)) (by simp)) k HK.out.1
      rw [← HA.out] at a3
      have M3 := Lib.hid (And.intro m3 hka)
      clear hls3 hrec3 c3 m3 hrr3 heq3 hka ak
      go_wp2_with (first | (go_at_call 12; refine stop ?_))
      refine go ?_
      refine HEQ3.out.mono ?_
      rintro e w4 ⟨rfl, c4⟩
      have m4 := M3.out.1.quiet c4
      have hov := over_any HG.out m4 (RB.pre (OB.rb m4.first) (m := n) (by omega)) (by rw [HNL.out]; omega) HPT.out
      rw [HNL.out, show ((n - A : Nat) : Int) = (n : Int) - (A : Int) by omega] at hov
      have HOV := Lib.hid hov
      clear hov m4 c4 a3
      go_wp2_with (first | (go_at_call 13; refine stop ?_))
      refine go ?_
      refine HOV.out.mono ?_
      rintro e w5 ⟨v5, ls5, rfl, hls5, m5⟩
      have hrec5 : Recs w5 v5 ls5 := m5.first
      obtain ⟨p5, cc5, rfl, -⟩ := id hrec5.oc
      have hrr5 : RRows w5 (.slice pr (hs.take k).length rc) (hs.take k) := by
        have h1 : Recs w5 (.slice pr S rc) hs := m5.get (x := Ent.recs (.slice pr S rc) hs) (by simp)
        rw [M3.out.2]
        exact h1.rows.pre HK.out.1
      have heq5 := eqAll_same hrec5.rows hrr5 (by rw [hls5, List.map_take, ← HL.out.2.1]) (by have := congrArg List.length hls5; rw [List.length_map, List.length_take] at this; have := HL.out.2.2.1; omega)
      rw [M3.out.2] at heq5
      have HEQ5 := Lib.hid heq5
      have a5 := HAT.out w5 (m5.get (x := Ent.nums (.slice (some ⟨ab, 0, none⟩) (S + 1) ac) (atL l)) (by simp)) k HK.out.1
      rw [← HA.out] at a5
      have M5 := Lib.hid m5
      clear hls5 hrec5 m5 hrr5 heq5
      go_wp2_with (first | (go_at_call 12; refine stop ?_))
      refine go ?_
      refine HEQ5.out.mono ?_
      rintro e w6 ⟨rfl, c6⟩
      have m6 := M5.out.tail.quiet c6
      have M6 := Lib.hid m6
      clear m6 c6 a5
      by_cases hz0 : Z = 0
      · subst hz0
        go_wp2
        go_ret
        exact ⟨rfl, M6.out.chg⟩
      · have bz : ((Z : Int) == 0) = false := by rw [beq_eq_false_iff_ne]; omega
        have iZ1 : (1 : Int) ≤ (Z : Int) := by omega
        have hre2 := rest_any (w := w6) bit (m := 8 * Z) (by omega) (by omega)
        simp only [Int.natCast_mul, show ((8 : Nat) : Int) = 8 from rfl] at hre2
        have HRE2 := Lib.hid hre2
        clear hre2
        go_wp2_with (first | (go_at_call 9; refine stop ?_))
        refine go ?_
        refine HRE2.out.mono ?_
        rintro e w' ⟨i, hi, rfl, rfl⟩
        obtain ⟨o, ho⟩ : ∃ o, o = i / 8 := ⟨_, rfl⟩
        obtain ⟨s, hs8⟩ : ∃ s, s = i % 8 := ⟨_, rfl⟩
        have hq1 : (i : Int).tdiv 8 = (o : Int) := by rw [ho]; rfl
        have hq2 : (i : Int).tmod 8 = (s : Int) := by rw [hs8]; rfl
        have hoZ : o < Z := by omega
        have is8 : (s : Int) < 8 := by omega
        have is0 : (0 : Int) ≤ (s : Int) := by omega
        have ioZ : (o : Int) < (Z : Int) := by omega
        have io0 : (0 : Int) ≤ (o : Int) := by omega
        have ii0 : (0 : Int) ≤ (i : Int) := by omega
        have iiZ : (i : Int) < 8 * (Z : Int) := by omega
        have hcp := copied_any (w := w6) (l := fileOf 0 l) (by rw [← HZ.out]; omega) (OB.rb M6.out.first)
        have HCP := Lib.hid hcp
        clear hcp ho hs8 hi hz0
        go_wp2_with (first | (go_at_call 11; refine stop ?_))
        refine go ?_
        refine HCP.out.mono ?_
        rintro e w7 ⟨v7, rfl, o7, c7, n7⟩
        obtain ⟨p7, cc7, rfl, hcc7, -⟩ := id o7
        obtain ⟨bb, rfl⟩ := OB.blk o7 (fun e => by have h := HZ.out; rw [e] at h; simp at h; omega)
        have m7 := M6.out.addBytes o7 c7 n7
        obtain ⟨u, hu⟩ : ∃ u, (fileOf 0 l)[o]? = some u := ⟨_, List.getElem?_eq_getElem (by rw [← HZ.out]; omega)⟩
        have hu2 : ((fileOf 0 l)[o]'(by rw [← HZ.out]; omega)) = u := (List.getElem?_eq_some_iff.1 hu).2
        obtain ⟨y0, z0⟩ := OB.at_ o7 (j := o) (by rw [← HZ.out]; omega)
        rw [hu2] at y0
        rw [← HZ.out] at hcc7
        have icc7 : (Z : Int) ≤ (cc7 : Int) := by omega
        rw [← HZ.out]
        have M7 := Lib.hid (And.intro m7 hu)
        clear o7 c7 n7 m7 hu hu2 hcc7
        go_wp2
        refine Rx.wp_region_sched (fun _ => True) [(0, .r), (1, .r), (2, .r), (3, .r), (4, .r), (5, .r), (6, .r), (7, .r), (8, .r), (9, .r), (10, .r), (11, .r), (12, .r), (13, .e)] (by kernel_rfl) (by kernel_rfl) trivial (fun _ _ x _ _ h => (by cases x <;> exact h)) ?_
        iterate 13 (refine Rx.wpSched_q rfl rfl ?_; go_wp2; refine ⟨rfl, ?_⟩)
        refine Rx.wpSched_e rfl ?_
        go_wp2
        refine ⟨trivial, ?_⟩
        refine Rx.wpSched_nil ?_
        obtain ⟨mk, hmk, hxe⟩ := mask_xor u (s := s) (by omega)
        rw [hxe]
        have m8 := (M7.out.1.setByte (n := o) (by rw [← HZ.out]; omega) (u ^^^ mk)).quiet ((Chg.refl (fun _ => False) _).drew)
        change Many w (w7.setCell ⟨bb, o, none⟩ (.int .u8 ((u ^^^ mk).toNat : Int))).drew _ at m8
        obtain ⟨w8, hw8⟩ : ∃ w8, w8 = (w7.setCell ⟨bb, o, none⟩ (.int .u8 ((u ^^^ mk).toNat : Int))).drew := ⟨_, rfl⟩
        rw [← hw8] at m8 ⊢
        rw [← HZ.out] at m8
        have M8 := Lib.hid m8
        have HU := Lib.hid (And.intro M7.out.2 hmk)
        clear hmk hxe hw8 m8 y0 z0
        go_wp2
        go_loopw [12] (fun t12 wr => w8 = wr ∧ ∃ k2 : Nat, t12 = .int .i64 (k2 : Int) ∧ k2 < S ∧ atN l k2 ≤ o) (fun t12 _ => S - (Lib.intOf t12).toNat)
        case atStart => exact ⟨rfl, 0, rfl, by
          rcases Nat.eq_zero_or_pos S with h | h
          · have h2 := HSZ.out
            rw [h, atN_zero] at h2
            omega
          · exact h, by rw [atN_zero]; omega⟩
        case round =>
          obtain ⟨rfl, k2, rfl, hkS2, hko⟩ := hrel
          have ik2S : (k2 : Int) < (S : Int) := by omega
          have ik20 : (0 : Int) ≤ (k2 : Int) := by omega
          obtain ⟨A2, hA2⟩ : ∃ A2, A2 = atN l k2 := ⟨_, rfl⟩
          obtain ⟨B2, hB2⟩ : ∃ B2, B2 = atN l (k2 + 1) := ⟨_, rfl⟩
          have nu := M8.out.get (x := Ent.nums (.slice (some ⟨ab, 0, none⟩) (S + 1) ac) (atL l)) (by simp)
          have a2 := HAT.out w8 nu k2 (by omega)
          have b2 := HAT.out w8 nu (k2 + 1) (by omega)
          rw [← hA2] at a2
          rw [← hB2] at b2
          have iA2 : (A2 : Int) ≤ (o : Int) := by omega
          have iA20 : (0 : Int) ≤ (A2 : Int) := by omega
          have ik21 : (k2 : Int) + 1 < (S : Int) + 1 := by omega
          by_cases hBo : (B2 : Int) ≤ (o : Int)
          · have f2 : decide ((B2 : Int) ≤ (o : Int)) = true := decide_eq_true hBo
            have f2b : decide (B2 ≤ o) = true := decide_eq_true (by omega)
            have hk3 : k2 + 1 < S := by
              rcases Nat.lt_or_ge (k2 + 1) S with h | h
              · exact h
              · have h2 := HSZ.out
                rw [show S = k2 + 1 by omega, ← hB2] at h2
                omega
            have HB2 := Lib.hid (And.intro hB2 hk3)
            clear hA2 hB2 nu a2 hko hk3
            go_wp2
            go_roundw
            case rel => exact ⟨by trivial, k2 + 1, by go_num, HB2.out.2, by rw [← HB2.out.1]; omega⟩
            case measure => simp [Lib.intOf]; omega
          · have f2 : decide ((B2 : Int) ≤ (o : Int)) = false := decide_eq_false hBo
            have f2b : decide (B2 ≤ o) = false := decide_eq_false (by omega)
            have HK2 := Lib.hid (And.intro hkS2 (And.intro (show A2 ≤ o by omega) (show o < atN l (k2 + 1) by omega)))
            have HA2 := Lib.hid hA2
            clear hA2 hB2 nu hko
            by_cases h8 : (o : Int) - (A2 : Int) < 8
            · have f3 : decide ((o : Int) - (A2 : Int) < 8) = true := decide_eq_true h8
              have hps := parse_spoilt (l := l) (fun x hx => by have := HL.out.1 x hx; omega) (k := k2) (o := o) (u := u) (y := u ^^^ mk) (by have := HK2.out.1; have := HL.out.2.2.1; omega) (by rw [← HA2.out]; exact HK2.out.2.1) HK2.out.2.2 HU.out.1 HU.out.2
              rw [← HA2.out] at hps
              have hps' : jparse ((fileOf 0 l).set o (u ^^^ mk)) = (l.take k2, A2, 91) := by rw [hps]; congr 2; first | exact if_pos (by omega) | exact if_neg (by omega)
              clear hps
              have hsl : ((fileOf 0 l).set o (u ^^^ mk)).length = Z := by rw [List.length_set, ← HZ.out]
              have hcp := copied_any (w := w8) (l := (fileOf 0 l).set o (u ^^^ mk)) (by rw [hsl]; omega) (OB.rb M8.out.first)
              have HCP := Lib.hid hcp
              have HPS := Lib.hid (And.intro hps' hsl)
              clear hps' hsl hcp
              go_wp2_with (first | (go_at_call 11; refine stop ?_))
              refine go ?_
              refine HCP.out.mono ?_
              rintro e w9 ⟨v9, rfl, o9, c9, n9⟩
              obtain ⟨p9, cc9, rfl, -⟩ := id o9
              have m9 := M8.out.quiet c9
              have hpa := parse_any (HG.out.chg m9.chg) (OB.rb o9) (by rw [HPS.out.2]; omega)
              rw [HPS.out.1, HPS.out.2] at hpa
              rw [HPS.out.2]
              have HPA := Lib.hid hpa
              have M9 := Lib.hid m9
              clear o9 c9 n9 hpa m9
              go_wp2_with (first | (go_at_call 10; refine stop ?_))
              refine go ?_
              refine HPA.out.mono ?_
              rintro e w10 ⟨v10, ls10, rfl, hls10, hrec10, c10, -⟩
              obtain ⟨p10, cc10, rfl, -⟩ := id hrec10.oc
              have m10 := M9.out.quiet c10
              have hka : (hs.take k2).length = k2 := by rw [List.length_take]; have := HK2.out.1; have := HL.out.2.2.2; omega
              have hrr10 : RRows w10 (.slice pr (hs.take k2).length rc) (hs.take k2) := by
                have h1 : Recs w10 (.slice pr S rc) hs := m10.get (x := Ent.recs (.slice pr S rc) hs) (by simp)
                rw [hka]
                exact h1.rows.pre (by have := HK2.out.1; omega)
              have heq10 := eqAll_same hrec10.rows hrr10 (by rw [hls10, List.map_take, ← HL.out.2.1]) (by have := congrArg List.length hls10; rw [List.length_map, List.length_take] at this; have := HL.out.2.2.1; omega)
              rw [hka] at heq10
              have HEQ10 := Lib.hid heq10
              have a10 := HAT.out w10 (m10.get (x := Ent.nums (.slice (some ⟨ab, 0, none⟩) (S + 1) ac) (atL l)) (by simp)) k2 (by have := HK2.out.1; omega)
              rw [← HA2.out] at a10
              have M10 := Lib.hid (And.intro m10 hka)
              clear hls10 hrec10 c10 m10 hrr10 heq10 hka a2
              go_wp2_with (first | (go_at_call 12; refine stop ?_))
              refine go ?_
              refine HEQ10.out.mono ?_
              rintro e w11 ⟨rfl, c11⟩
              have m11 := M10.out.1.quiet c11
              have hov := over_any HG.out m11 (b := (fileOf 0 l).set o (u ^^^ mk)) (p := some ⟨bb, 0, none⟩) (c := cc7) (by rw [HPS.out.2]; exact OB.rb m11.first) (by rw [HPS.out.2]; omega) HPS.out.1
              rw [HPS.out.2, show ((Z - A2 : Nat) : Int) = (Z : Int) - (A2 : Int) by omega] at hov
              have HOV := Lib.hid hov
              clear hov m11 c11 a10
              go_wp2_with (first | (go_at_call 13; refine stop ?_))
              refine go ?_
              refine HOV.out.mono ?_
              rintro e w12 ⟨v12, ls12, rfl, hls12, m12⟩
              have hrec12 : Recs w12 v12 ls12 := m12.first
              obtain ⟨p12, cc12, rfl, -⟩ := id hrec12.oc
              have hrr12 : RRows w12 (.slice pr (hs.take k2).length rc) (hs.take k2) := by
                have h1 : Recs w12 (.slice pr S rc) hs := m12.get (x := Ent.recs (.slice pr S rc) hs) (by simp)
                rw [M10.out.2]
                exact h1.rows.pre (by have := HK2.out.1; omega)
              have heq12 := eqAll_same hrec12.rows hrr12 (by rw [hls12, List.map_take, ← HL.out.2.1]) (by have := congrArg List.length hls12; rw [List.length_map, List.length_take] at this; have := HL.out.2.2.1; omega)
              rw [M10.out.2] at heq12
              have HEQ12 := Lib.hid heq12
              have a12 := HAT.out w12 (m12.get (x := Ent.nums (.slice (some ⟨ab, 0, none⟩) (S + 1) ac) (atL l)) (by simp)) k2 (by have := HK2.out.1; omega)
              rw [← HA2.out] at a12
              have M12 := Lib.hid m12
              clear hls12 hrec12 m12 hrr12 heq12
              go_wp2_with (first | (go_at_call 12; refine stop ?_))
              refine go ?_
              refine HEQ12.out.mono ?_
              rintro e w13 ⟨rfl, c13⟩
              go_wp2
              go_ret
              exact ⟨by simp, (M12.out.quiet c13).chg⟩
            · have f3 : decide ((o : Int) - (A2 : Int) < 8) = false := decide_eq_false h8
              have hps := parse_spoilt (l := l) (fun x hx => by have := HL.out.1 x hx; omega) (k := k2) (o := o) (u := u) (y := u ^^^ mk) (by have := HK2.out.1; have := HL.out.2.2.1; omega) (by rw [← HA2.out]; exact HK2.out.2.1) HK2.out.2.2 HU.out.1 HU.out.2
              rw [← HA2.out] at hps
              have hps' : jparse ((fileOf 0 l).set o (u ^^^ mk)) = (l.take k2, A2, 93) := by rw [hps]; congr 2; first | exact if_pos (by omega) | exact if_neg (by omega)
              clear hps
              have hsl : ((fileOf 0 l).set o (u ^^^ mk)).length = Z := by rw [List.length_set, ← HZ.out]
              have hcp := copied_any (w := w8) (l := (fileOf 0 l).set o (u ^^^ mk)) (by rw [hsl]; omega) (OB.rb M8.out.first)
              have HCP := Lib.hid hcp
              have HPS := Lib.hid (And.intro hps' hsl)
              clear hps' hsl hcp
              go_wp2_with (first | (go_at_call 11; refine stop ?_))
              refine go ?_
              refine HCP.out.mono ?_
              rintro e w9 ⟨v9, rfl, o9, c9, n9⟩
              obtain ⟨p9, cc9, rfl, -⟩ := id o9
              have m9 := M8.out.quiet c9
              have hpa := parse_any (HG.out.chg m9.chg) (OB.rb o9) (by rw [HPS.out.2]; omega)
              rw [HPS.out.1, HPS.out.2] at hpa
              rw [HPS.out.2]
              have HPA := Lib.hid hpa
              have M9 := Lib.hid m9
              clear o9 c9 n9 hpa m9
              go_wp2_with (first | (go_at_call 10; refine stop ?_))
              refine go ?_
              refine HPA.out.mono ?_
              rintro e w10 ⟨v10, ls10, rfl, hls10, hrec10, c10, -⟩
              obtain ⟨p10, cc10, rfl, -⟩ := id hrec10.oc
              have m10 := M9.out.quiet c10
              have hka : (hs.take k2).length = k2 := by rw [List.length_take]; have := HK2.out.1; have := HL.out.2.2.2; omega
              have hrr10 : RRows w10 (.slice pr (hs.take k2).length rc) (hs.take k2) := by
                have h1 : Recs w10 (.slice pr S rc) hs := m10.get (x := Ent.recs (.slice pr S rc) hs) (by simp)
                rw [hka]
                exact h1.rows.pre (by have := HK2.out.1; omega)
              have heq10 := eqAll_same hrec10.rows hrr10 (by rw [hls10, List.map_take, ← HL.out.2.1]) (by have := congrArg List.length hls10; rw [List.length_map, List.length_take] at this; have := HL.out.2.2.1; omega)
              rw [hka] at heq10
              have HEQ10 := Lib.hid heq10
              have a10 := HAT.out w10 (m10.get (x := Ent.nums (.slice (some ⟨ab, 0, none⟩) (S + 1) ac) (atL l)) (by simp)) k2 (by have := HK2.out.1; omega)
              rw [← HA2.out] at a10
              have M10 := Lib.hid (And.intro m10 hka)
              clear hls10 hrec10 c10 m10 hrr10 heq10 hka a2
              go_wp2_with (first | (go_at_call 12; refine stop ?_))
              refine go ?_
              refine HEQ10.out.mono ?_
              rintro e w11 ⟨rfl, c11⟩
              have m11 := M10.out.1.quiet c11
              have hov := over_any HG.out m11 (b := (fileOf 0 l).set o (u ^^^ mk)) (p := some ⟨bb, 0, none⟩) (c := cc7) (by rw [HPS.out.2]; exact OB.rb m11.first) (by rw [HPS.out.2]; omega) HPS.out.1
              rw [HPS.out.2, show ((Z - A2 : Nat) : Int) = (Z : Int) - (A2 : Int) by omega] at hov
              have HOV := Lib.hid hov
              clear hov m11 c11 a10
              go_wp2_with (first | (go_at_call 13; refine stop ?_))
              refine go ?_
              refine HOV.out.mono ?_
              rintro e w12 ⟨v12, ls12, rfl, hls12, m12⟩
              have hrec12 : Recs w12 v12 ls12 := m12.first
              obtain ⟨p12, cc12, rfl, -⟩ := id hrec12.oc
              have hrr12 : RRows w12 (.slice pr (hs.take k2).length rc) (hs.take k2) := by
                have h1 : Recs w12 (.slice pr S rc) hs := m12.get (x := Ent.recs (.slice pr S rc) hs) (by simp)
                rw [M10.out.2]
                exact h1.rows.pre (by have := HK2.out.1; omega)
              have heq12 := eqAll_same hrec12.rows hrr12 (by rw [hls12, List.map_take, ← HL.out.2.1]) (by have := congrArg List.length hls12; rw [List.length_map, List.length_take] at this; have := HL.out.2.2.1; omega)
              rw [M10.out.2] at heq12
              have HEQ12 := Lib.hid heq12
              have a12 := HAT.out w12 (m12.get (x := Ent.nums (.slice (some ⟨ab, 0, none⟩) (S + 1) ac) (atL l)) (by simp)) k2 (by have := HK2.out.1; omega)
              rw [← HA2.out] at a12
              have M12 := Lib.hid m12
              clear hls12 hrec12 m12 hrr12 heq12
              go_wp2_with (first | (go_at_call 12; refine stop ?_))
              refine go ?_
              refine HEQ12.out.mono ?_
              rintro e w13 ⟨rfl, c13⟩
              go_wp2
              go_ret
              exact ⟨by simp, (M12.out.quiet c13).chg⟩
end
end Go.Proofs
