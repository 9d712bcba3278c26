/- JournalNumbers' walk. Conditions: the records are read; there are at most 1048576, each of at most 1048576 bytes; at most 1048576 numbers; the listed variables lie as they were laid. -/
import Derived.Test.YtaiaghfckhgnnaaGreatDoorT3
import Derived.Test.YtaiaghfckhgnnaaGreatDoorT4
import Derived.Test.YtaiaghfckhgnnaaGreatDoorT6
namespace Go.Proofs
open Go.RowKit Go.Hp Go.Dm Go.Dr Go.Jn
set_option linter.unusedVariables false
set_option maxRecDepth 10000
section
variable {w : World} {ls : List LF} {p : Option Addr} {c : Nat} {vs : List Int} {q : Option Addr} {qc : Nat}
set_option maxHeartbeats 64000000 in
theorem numbers_walk (hg : Gl w) (hr : RRows w (.slice p ls.length c) ls) (hn : ls.length ≤ 1048576) (hb : ∀ x ∈ ls, x.bytes.length ≤ 1048576)
    (ho : RC w 1 (.slice q vs.length qc) vs.length (vs.map (Value.int .i64))) (hv : vs.length ≤ 1048576) :
    Calls Tryz.prog 4 #[.slice p ls.length c, .slice q vs.length qc] w fun e w' => e = .returned (.bool true) ∧ Chg (fun _ => False) w w' := by
  have HFI := Lib.hid (filled_any hg (Many.nil w) hr hn hb)
  have HG := Lib.hid hg
  obtain ⟨N, hN⟩ : ∃ N, N = ls.length := ⟨_, rfl⟩
  rw [← hN] at HFI ⊢
  obtain ⟨V, hV⟩ : ∃ V, V = vs.length := ⟨_, rfl⟩
  rw [← hV] at ho ⊢
  have iV : (V : Int) ≤ 1048576 := by omega
  have HO := Lib.hid (And.intro ho hV)
  clear hg hr hn hb hN ho hv hV
  go_enter Tryz.func4, Tryz.ntmps4
  go_wp2_with (first | (go_at_call 8; refine stop ?_))
  refine go ?_
  refine HFI.out.mono ?_
  rintro e w1 ⟨hs, bv, av, rv, h200, h40, rfl, m1⟩
  obtain ⟨l, hl⟩ : ∃ l, l = hs.map LF.bytes := ⟨_, rfl⟩
  rw [← hl] at m1
  have hll : l.length = hs.length := by rw [hl, List.length_map]
  have hl200 : ∀ x ∈ l, x.length ≤ 200 := fun x hx => by rw [hl] at hx; obtain ⟨y, hy, rfl⟩ := List.mem_map.1 hx; exact h200 y hy
  have hfl := file_le hl200
  obtain ⟨Z, hZ⟩ : ∃ Z, Z = (fileOf 0 l).length := ⟨_, rfl⟩
  obtain ⟨S, hS⟩ : ∃ S, S = hs.length := ⟨_, rfl⟩
  have hob : OB w1 5 bv (fileOf 0 l) := m1.first
  obtain ⟨pb, cb, rfl, hcb, -⟩ := id hob
  have hnu : OC w1 1 3 av (atL l).length ((atL l).map intV) := m1.get (x := Ent.nums av (atL l)) (by simp)
  obtain ⟨pa, ac, rfl, hca, -⟩ := id hnu
  obtain ⟨ab, rfl⟩ := OC.blk1 hnu (by rw [atL_len]; omega)
  have hrec : Recs w1 rv hs := m1.get (x := Ent.recs rv hs) (by simp)
  obtain ⟨pr, rc, rfl, hcr, -⟩ := id hrec.oc
  rw [atL_len, hll, ← hS] at hnu hca m1 ⊢
  have hAT : ∀ w', OC w' 1 3 (.slice (some ⟨ab, 0, none⟩) (S + 1) ac) (atL l).length ((atL l).map intV) → ∀ k, k ≤ S → w'.cell? ⟨ab, k, none⟩ = some (.int .i64 (atN l k : Int)) := fun w' h1 k hk =>
    (OC.atk h1 (j := k) (u := intV (atN l k)) (by rw [List.getElem?_map, atL_get (by omega)]; rfl)).1
  have hnu1 : OC w1 1 3 (.slice (some ⟨ab, 0, none⟩) (S + 1) ac) (atL l).length ((atL l).map intV) := by rw [atL_len, hll, ← hS]; exact hnu
  have aS := hAT w1 hnu1 S (Nat.le_refl _)
  have hSZ : atN l S = Z := by rw [hS, hZ, ← atN_all, hll]
  rw [hSZ] at aS
  rw [← hZ] at m1 hcb ⊢
  rw [← hS] at hcr
  have iS : (S : Int) ≤ 40 := by omega
  have iZ : (Z : Int) ≤ 8640 := by omega
  have iZ0 : (0 : Int) ≤ (Z : Int) := by omega
  have iac : (S : Int) + 1 ≤ (ac : Int) := by omega
  have icb : (Z : Int) ≤ (cb : Int) := by omega
  have icr : (S : Int) ≤ (rc : Int) := by omega
  have HL := Lib.hid (And.intro hl200 (And.intro hl (And.intro (show l.length = S by omega) (show hs.length = S by omega))))
  have HZ := Lib.hid hZ
  have HAT := Lib.hid hAT
  have HSZ := Lib.hid hSZ
  have M1 := Lib.hid m1
  have m0 := m1.addBytes (v := .slice none 0 0) (l := []) (OB_nil _ _) (Chg.refl _ _) (fun b hb => by cases hb)
  have M0 := Lib.hid m0
  clear h200 h40 hl hll hl200 hfl hZ hS hob hnu hnu1 hrec hca hcb hcr hAT hSZ m1 m0
  go_wp2
  clear aS
  go_loopw [9, 10, 11, 12] (fun t9 t10 t11 t12 wr => ∃ (pc : Option Addr) (cc : Nat) (C : List UInt8) (wh i : Nat) (rt : Bool), t9 = .slice pc C.length cc ∧ t10 = .int .i64 (wh : Int) ∧ t11 = .bool rt ∧ t12 = .int .i64 (i : Int) ∧ i ≤ V ∧ i ≤ 40 ∧ C.length ≤ 216 * i ∧ NS l i C wh rt ∧
    Many w wr (Ent.bytes (.slice pc C.length cc) C :: Ent.bytes (.slice pb Z cb) (fileOf 0 l) :: Ent.nums (.slice (some ⟨ab, 0, none⟩) (S + 1) ac) (atL l) :: Ent.recs (.slice pr S rc) hs :: [])) (fun _ _ _ t12 _ => V - (Lib.intOf t12).toNat)
  case atStart => exact ⟨none, 0, [], 0, 0, true, rfl, rfl, rfl, rfl, Nat.zero_le _, Nat.zero_le _, Nat.zero_le _, NS.start l, M0.out⟩
  case round =>
    obtain ⟨pc, cc, C, wh, i, rt, rfl, rfl, rfl, rfl, hiV, hi40, hC, hNS, hM⟩ := hrel
    obtain ⟨CL, hCL⟩ : ∃ CL, CL = C.length := ⟨_, rfl⟩
    rw [← hCL] at hM hC ⊢
    have iC : (CL : Int) ≤ 8640 := by omega
    have iC0 : (0 : Int) ≤ (CL : Int) := by omega
    have ii0 : (0 : Int) ≤ (i : Int) := by omega
    have ii40 : (i : Int) ≤ 40 := by omega
    have iwl : (wh : Int) ≤ (S : Int) := by have h1 := hNS.le; have h2 := HL.out.2.2.1; omega
    have iwl0 : (0 : Int) ≤ (wh : Int) := by omega
    by_cases hil : (i : Int) < (V : Int)
    · have d1 : decide ((i : Int) < (V : Int)) = true := decide_eq_true hil
      have d1n : decide (i < V) = true := decide_eq_true (by omega)
      by_cases hi4 : (i : Int) < 40
      · have d2 : decide ((i : Int) < 40) = true := decide_eq_true hi4
        by_cases hS0 : (0 : Int) < (S : Int)
        · have d3 : decide ((0 : Int) < (S : Int)) = true := decide_eq_true hS0
          have d3n : decide (0 < S) = true := decide_eq_true (by omega)
          obtain ⟨vi, hvi⟩ : ∃ vi, vs[i]? = some vi := ⟨_, List.getElem?_eq_getElem (by have := HO.out.2; omega)⟩
          have hor := RC.chg HO.out.1 hM.chg fun _ _ h => h
          obtain ⟨p0, c0, e0, hVc, -, hblk⟩ := id hor
          simp only [Value.slice.injEq] at e0
          obtain ⟨rfl, -, rfl⟩ := e0
          obtain ⟨ob, oo, arr, t, fz, rfl, hh, hx⟩ := hblk (by omega)
          have qi : wr.cell? ⟨ob, oo + i, none⟩ = some (.int .i64 vi) := by rw [hcell_of hh]; exact hx i _ (by rw [List.getElem?_map, hvi]; rfl)
          have iVc : (V : Int) ≤ (qc : Int) := by omega
          have hre := rest_any (w := wr) vi (m := S + 1) (by omega) (by omega)
          simp only [Int.natCast_add, show ((1 : Nat) : Int) = 1 from rfl] at hre
          have HRE := Lib.hid hre
          have HC := Lib.hid (And.intro hNS (And.intro hM (And.intro hC hCL)))
          clear hvi hor hVc hblk hh hx hre hNS hM hC hCL
          go_wp2_with (first | (go_at_call 9; refine stop ?_))
          refine go ?_
          refine HRE.out.mono ?_
          rintro e w' ⟨k, hkS1, rfl, rfl⟩
          have ik0 : (0 : Int) ≤ (k : Int) := by omega
          clear qi
          by_cases hkS : k = S
          · have b1 : ((k : Int) == (S : Int)) = true := by rw [beq_iff_eq]; omega
            have b1n : (k == S) = true := by rw [beq_iff_eq]; exact hkS
            have hrb : RB (wr.alloc (.cells #[.int .u8 0, .int .u8 0, .int .u8 (i : Int)] 5)) (.slice (some ⟨wr.heap.size, 0, none⟩) 3 3) [0, 0, UInt8.ofNat i] := by
              have h1 := rb_new wr [0, 0, UInt8.ofNat i] 5 (0, 0)
              have e1 : (([0, 0, UInt8.ofNat i] : List UInt8).map u8).toArray = #[.int .u8 0, .int .u8 0, .int .u8 (i : Int)] := by
                have h2 : ((UInt8.ofNat i).toNat : Int) = (i : Int) := by rw [ofNat_mod]; omega
                simp only [List.map_cons, List.map_nil, u8, h2]
                rfl
              rw [e1] at h1
              exact h1
            have hw256 : (i : Int) % 256 = (i : Int) := by omega
            have hca : Chg (fun _ => False) wr (wr.alloc (.cells #[.int .u8 0, .int .u8 0, .int .u8 (i : Int)] 5)) := (Chg.refl _ _).alloc _
            have hwr := wrap_any (bs := [0, 0, UInt8.ofNat i]) (p := some ⟨wr.heap.size, 0, none⟩) (c := 3) (HG.out.chg (HC.out.2.1.chg.trans hca fun _ h => h.elim)) hrb (show 3 ≤ 131072 by decide)
            have HWR := Lib.hid hwr
            have HCA := Lib.hid hca
            clear hrb hca hwr hkS hkS1
            go_wp2_with (first | (go_at_call 14; refine stop ?_))
            refine go ?_
            refine HWR.out.mono ?_
            rintro e w5 ⟨v5, rfl, o5, c5, n5⟩
            obtain ⟨p5, cc5, rfl, -⟩ := id o5
            have m5 := (HC.out.2.1.quiet HCA.out).quiet c5
            have hl5 : (jwrap [0, 0, UInt8.ofNat i]).length = 15 := by rw [wrap_len]; rfl
            rw [hl5]
            have O5 := Lib.hid (And.intro o5 (And.intro m5 hl5))
            clear o5 c5 n5 m5 hl5
            go_wp2_with (first | (at_builtin; refine stop ?_))
            refine go ?_
            refine wpList_append_bytes2 rfl _ _ rfl (v := .slice pc CL cc) (l := C) (y := .slice p5 15 cc5) (m := jwrap [0, 0, UInt8.ofNat i]) rfl rfl O5.out.2.1.first (by have h := OB.rb O5.out.1; rw [O5.out.2.2] at h; exact h) (by rw [O5.out.2.2, ← HC.out.2.2.2]; omega) ?_
            intro pv lv cv w6 a1 a5 a3 a4
            have m6 := O5.out.2.1.growBytes a1 a3 a4
            obtain ⟨hlv, -⟩ := OB.lenEq a1
            subst hlv
            have M6 := Lib.hid m6
            clear a1 a5 a3 a4 m6
            go_wp2
            go_roundw
            case rel =>
              refine ⟨pv, cv, C ++ jwrap [0, 0, UInt8.ofNat i], wh, i + 1, false, by simp, by simp, by simp, by go_num, by omega, by omega, ?_, HC.out.1.other (by simp), M6.out⟩
              rw [List.length_append, O5.out.2.2]
              have := HC.out.2.2.1
              have := HC.out.2.2.2
              omega
            case measure => simp [Lib.intOf]; omega
          · have b1 : ((k : Int) == (S : Int)) = false := by rw [beq_eq_false_iff_ne]; omega
            have b1n : (k == S) = false := by rw [beq_eq_false_iff_ne]; exact hkS
            have ikS : (k : Int) < (S : Int) := by omega
            have ikS1 : (k : Int) + 1 < (S : Int) + 1 := by omega
            obtain ⟨x, hx⟩ : ∃ x, l[k]? = some x := ⟨_, List.getElem?_eq_getElem (by have := HL.out.2.2.1; omega)⟩
            have hx200 : x.length ≤ 200 := HL.out.1 x (List.mem_of_getElem? hx)
            obtain ⟨A, hA⟩ : ∃ A, A = atN l k := ⟨_, rfl⟩
            obtain ⟨B, hB⟩ : ∃ B, B = atN l (k + 1) := ⟨_, rfl⟩
            have hAB : B = A + (x.length + 16) := by rw [hA, hB, atN_succ hx]
            have hBZ : B ≤ Z := by
              have := HSZ.out
              rw [hB, ← this]
              exact atN_mono (by omega) (by have := HL.out.2.2.1; omega)
            have m5 := HC.out.2.1.quiet ((Chg.refl (fun _ => False) wr).drew)
            have nu := HC.out.2.1.get (x := Ent.nums (.slice (some ⟨ab, 0, none⟩) (S + 1) ac) (atL l)) (by simp)
            have qA := HAT.out wr nu k (by omega)
            have qB := HAT.out wr nu (k + 1) (by omega)
            rw [← hA] at qA
            rw [← hB] at qB
            have hob : OB wr.drew 5 (.slice pb Z cb) (fileOf 0 l) := m5.get (x := Ent.bytes (.slice pb Z cb) (fileOf 0 l)) (by simp)
            obtain ⟨bb, rfl⟩ := OB.blk hob (fun e => by have h := HZ.out; rw [e] at h; simp at h; omega)
            have hsub := RB.sub (OB.rb hob) (i := A) (j := B) (by omega) (by rw [← HZ.out]; exact hBZ)
            rw [← List.drop_take, hA, hB, frame_of hx, ← hA, ← hB, Nat.zero_add] at hsub
            have iAB : (A : Int) ≤ (B : Int) := by omega
            have iBZ : (B : Int) ≤ (Z : Int) := by omega
            have iBcb : (B : Int) ≤ (cb : Int) := by omega
            have iA0 : (0 : Int) ≤ (A : Int) := by omega
            have hcA : ¬ cb = A := by omega
            have hBA : (jwrap (jpay k x)).length = B - A := by rw [wrap_len, payload_len]; omega
            have HS := Lib.hid (And.intro hsub (And.intro m5 (And.intro hBA (And.intro hx (And.intro hx200 hAB)))))
            clear hx hA hB hBZ m5 nu hob hsub hBA hkS1 hx200 hAB
            go_wp2
            refine Rx.wp_region_sched (fun _ => True) [(0, .r), (1, .r), (2, .r), (3, .r), (4, .r), (5, .r), (6, .r), (7, .r), (8, .r), (9, .r), (10, .r), (11, .r), (12, .e), (13, .r)] (by kernel_rfl) (by kernel_rfl) trivial (fun _ _ x _ _ h => (by cases x <;> exact h)) ?_
            iterate 12 (refine Rx.wpSched_q rfl rfl ?_; go_wp2; refine ⟨rfl, ?_⟩)
            refine Rx.wpSched_e rfl ?_
            refine wpList_append_bytes2 rfl _ _ rfl (v := .slice pc CL cc) (l := C) (y := .slice (some ⟨bb, A, none⟩) (B - A) (cb - A)) (m := jwrap (jpay k x)) rfl rfl HS.out.2.1.first HS.out.1 (by rw [HS.out.2.2.1, ← HC.out.2.2.2]; omega) ?_
            intro pv lv cv w6 a1 a5 a3 a4
            have m6 := HS.out.2.1.growBytes a1 a3 a4
            obtain ⟨hlv, -⟩ := OB.lenEq a1
            subst hlv
            have M6 := Lib.hid m6
            clear a1 a5 a3 a4 m6 qA qB
            go_wp2
            refine ⟨trivial, ?_⟩
            (refine Rx.wpSched_q rfl rfl ?_; go_wp2; refine ⟨rfl, ?_⟩)
            refine Rx.wpSched_nil ?_
            have hlen : (C ++ jwrap (jpay k x)).length ≤ 216 * (i + 1) := by
              rw [List.length_append, HS.out.2.2.1]
              have := HC.out.2.2.1
              have := HC.out.2.2.2
              have := HS.out.2.2.2.2.1
              have := HS.out.2.2.2.2.2
              omega
            have HLN := Lib.hid hlen
            clear hlen
            cases rt with
            | true =>
              by_cases hki : k = i
              · have b2 : ((k : Int) == (i : Int)) = true := by rw [beq_iff_eq]; omega
                have b2n : (k == i) = true := by rw [beq_iff_eq]; exact hki
                have HKI := Lib.hid hki
                clear hki
                go_wp2
                go_roundw
                case rel =>
                  refine ⟨pv, cv, C ++ jwrap (jpay k x), wh + 1, i + 1, true, by simp, by go_num, by simp, by go_num, by omega, by omega, HLN.out, ?_, M6.out⟩
                  have h1 := HS.out.2.2.2.1
                  rw [HKI.out] at h1 ⊢
                  exact HC.out.1.right h1
                case measure => simp [Lib.intOf]; omega
              · have b2 : ((k : Int) == (i : Int)) = false := by rw [beq_eq_false_iff_ne]; omega
                have b2n : (k == i) = false := by rw [beq_eq_false_iff_ne]; exact hki
                have HKI := Lib.hid hki
                clear hki
                go_wp2
                go_roundw
                case rel =>
                  exact ⟨pv, cv, C ++ jwrap (jpay k x), wh, i + 1, false, by simp, by simp, by simp, by go_num, by omega, by omega, HLN.out, HC.out.1.wrong (by have := HS.out.2.2.2.2.1; omega) (by omega) (by omega) (fun _ => HKI.out), M6.out⟩
                case measure => simp [Lib.intOf]; omega
            | false =>
              go_wp2
              go_roundw
              case rel =>
                exact ⟨pv, cv, C ++ jwrap (jpay k x), wh, i + 1, false, by simp, by simp, by simp, by go_num, by omega, by omega, HLN.out, HC.out.1.wrong (by have := HS.out.2.2.2.2.1; omega) (by omega) (by omega) (fun h => by cases h), M6.out⟩
              case measure => simp [Lib.intOf]; omega
        · have d3 : decide ((0 : Int) < (S : Int)) = false := decide_eq_false hS0
          have d3n : decide (0 < S) = false := decide_eq_false (by omega)
          obtain ⟨E, hE, hE3, hE0⟩ := hNS.found (fun x hx => by have := HL.out.1 x hx; omega)
          obtain ⟨A, hA⟩ : ∃ A, A = atN l wh := ⟨_, rfl⟩
          rw [← hA] at hE hE0
          have hAC : A ≤ C.length := by have := parse_good_le C; rw [hE] at this; exact this
          rw [← hCL] at hAC hE0
          have hwS : wh ≤ S := by have := hNS.le; have := HL.out.2.2.1; omega
          have iwS : (wh : Int) ≤ (S : Int) := by omega
          have iw0 : (0 : Int) ≤ (wh : Int) := by omega
          have iAC : (A : Int) ≤ (CL : Int) := by omega
          have iA0 : (0 : Int) ≤ (A : Int) := by omega
          have iE : (E : Int) ≤ 200 := by omega
          have hcp := copied_any (w := wr) (l := C) (by rw [← hCL]; omega) (OB.rb hM.first)
          have HCP := Lib.hid hcp
          have HC := Lib.hid (And.intro hM (And.intro hCL (And.intro hE (And.intro hwS hA))))
          have HE := Lib.hid (And.intro hE3 hE0)
          clear hNS hE hE3 hE0 hA hAC hwS hcp hM hCL
          go_wp2_with (first | (go_at_call 11; refine stop ?_))
          refine go ?_
          refine HCP.out.mono ?_
          rintro e w9 ⟨v9, rfl, o9, c9, n9⟩
          obtain ⟨p9, cc9, rfl, -⟩ := id o9
          have m9 := HC.out.1.quiet c9
          have hpa := parse_any (HG.out.chg m9.chg) (OB.rb o9) (by rw [← HC.out.2.1]; omega)
          rw [HC.out.2.2.1] at hpa
          have HPA := Lib.hid hpa
          have M9 := Lib.hid m9
          rw [← HC.out.2.1] at HPA ⊢
          clear o9 c9 n9 hpa m9
          go_wp2_with (first | (go_at_call 10; refine stop ?_))
          refine go ?_
          refine HPA.out.mono ?_
          rintro e w10 ⟨v10, ls10, rfl, hls10, hrec10, c10, -⟩
          obtain ⟨p10, cc10, rfl, -⟩ := id hrec10.oc
          have m10 := M9.out.quiet c10
          have hka : (hs.take wh).length = wh := by rw [List.length_take]; have := HC.out.2.2.2.1; have := HL.out.2.2.2; omega
          have hrr10 : RRows w10 (.slice pr (hs.take wh).length rc) (hs.take wh) := by
            have h1 : Recs w10 (.slice pr S rc) hs := m10.get (x := Ent.recs (.slice pr S rc) hs) (by simp)
            rw [hka]
            exact h1.rows.pre (by have := HC.out.2.2.2.1; omega)
          have heq10 := eqAll_same hrec10.rows hrr10 (by rw [hls10, List.map_take, ← HL.out.2.1]) (by have := congrArg List.length hls10; rw [List.length_map, List.length_take] at this; have := HL.out.2.2.1; omega)
          rw [hka] at heq10
          have HEQ10 := Lib.hid heq10
          have a10 := HAT.out w10 (m10.get (x := Ent.nums (.slice (some ⟨ab, 0, none⟩) (S + 1) ac) (atL l)) (by simp)) wh (by have := HC.out.2.2.2.1; omega)
          rw [← HC.out.2.2.2.2] at a10
          have M10 := Lib.hid (And.intro m10 hka)
          clear hls10 hrec10 c10 m10 hrr10 heq10 hka
          go_wp2_with (first | (go_at_call 12; refine stop ?_))
          refine go ?_
          refine HEQ10.out.mono ?_
          rintro e w11 ⟨rfl, c11⟩
          have m11 := M10.out.1.quiet c11
          have hov := over_any HG.out m11 (b := C) (p := pc) (c := cc) (by rw [← HC.out.2.1]; exact OB.rb m11.first) (by rw [← HC.out.2.1]; omega) HC.out.2.2.1
          rw [← HC.out.2.1, show ((CL - A : Nat) : Int) = (CL : Int) - (A : Int) by omega] at hov
          have HOV := Lib.hid hov
          have M11 := Lib.hid m11
          clear hov m11 c11 a10
          by_cases hE0 : E = 0
          · have hAC : A = CL := HE.out.2.1 hE0
            subst hE0
            have b1 : ((A : Int) == (CL : Int)) = true := by rw [beq_iff_eq]; omega
            (try simp only [show ((0 : Nat) : Int) = 0 from rfl, show ((121 : Nat) : Int) = 121 from rfl, show ((102 : Nat) : Int) = 102 from rfl] at *)
            go_wp2_with (first | (go_at_call 13; refine stop ?_))
            refine go ?_
            refine HOV.out.mono ?_
            rintro e w12 ⟨v12, ls12, rfl, hls12, m12⟩
            have hrec12 : Recs w12 v12 ls12 := m12.first
            obtain ⟨p12, cc12, rfl, -⟩ := id hrec12.oc
            have hrr12 : RRows w12 (.slice pr (hs.take wh).length rc) (hs.take wh) := by
              have h1 : Recs w12 (.slice pr S rc) hs := m12.get (x := Ent.recs (.slice pr S rc) hs) (by simp)
              rw [M10.out.2]
              exact h1.rows.pre (by have := HC.out.2.2.2.1; omega)
            have heq12 := eqAll_same hrec12.rows hrr12 (by rw [hls12, List.map_take, ← HL.out.2.1]) (by have := congrArg List.length hls12; rw [List.length_map, List.length_take] at this; have := HL.out.2.2.1; omega)
            rw [M10.out.2] at heq12
            have HEQ12 := Lib.hid heq12
            have M12 := Lib.hid m12
            clear hls12 hrec12 m12 hrr12 heq12
            go_wp2_with (first | (go_at_call 12; refine stop ?_))
            refine go ?_
            refine HEQ12.out.mono ?_
            rintro e w13 ⟨rfl, c13⟩
            go_wp2
            go_ret
            exact ⟨by simp, (M12.out.quiet c13).chg⟩
          · have hAC : ¬ A = CL := fun h => hE0 (HE.out.2.2 h)
            have b1 : ((A : Int) == (CL : Int)) = false := by rw [beq_eq_false_iff_ne]; omega
            have b2 : ((E : Int) == 0) = false := by rw [beq_eq_false_iff_ne]; omega
            by_cases h121 : E = 121
            · subst h121
              (try simp only [show ((0 : Nat) : Int) = 0 from rfl, show ((121 : Nat) : Int) = 121 from rfl, show ((102 : Nat) : Int) = 102 from rfl] at *)
              go_wp2_with (first | (go_at_call 13; refine stop ?_))
              refine go ?_
              refine HOV.out.mono ?_
              rintro e w12 ⟨v12, ls12, rfl, hls12, m12⟩
              have hrec12 : Recs w12 v12 ls12 := m12.first
              obtain ⟨p12, cc12, rfl, -⟩ := id hrec12.oc
              have hrr12 : RRows w12 (.slice pr (hs.take wh).length rc) (hs.take wh) := by
                have h1 : Recs w12 (.slice pr S rc) hs := m12.get (x := Ent.recs (.slice pr S rc) hs) (by simp)
                rw [M10.out.2]
                exact h1.rows.pre (by have := HC.out.2.2.2.1; omega)
              have heq12 := eqAll_same hrec12.rows hrr12 (by rw [hls12, List.map_take, ← HL.out.2.1]) (by have := congrArg List.length hls12; rw [List.length_map, List.length_take] at this; have := HL.out.2.2.1; omega)
              rw [M10.out.2] at heq12
              have HEQ12 := Lib.hid heq12
              have M12 := Lib.hid m12
              clear hls12 hrec12 m12 hrr12 heq12
              go_wp2_with (first | (go_at_call 12; refine stop ?_))
              refine go ?_
              refine HEQ12.out.mono ?_
              rintro e w13 ⟨rfl, c13⟩
              go_wp2
              go_ret
              exact ⟨by simp, (M12.out.quiet c13).chg⟩
            · have h102 : E = 102 := by have := HE.out.1; omega
              subst h102
              (try simp only [show ((0 : Nat) : Int) = 0 from rfl, show ((121 : Nat) : Int) = 121 from rfl, show ((102 : Nat) : Int) = 102 from rfl] at *)
              go_wp2_with (first | (go_at_call 13; refine stop ?_))
              refine go ?_
              refine HOV.out.mono ?_
              rintro e w12 ⟨v12, ls12, rfl, hls12, m12⟩
              have hrec12 : Recs w12 v12 ls12 := m12.first
              obtain ⟨p12, cc12, rfl, -⟩ := id hrec12.oc
              have hrr12 : RRows w12 (.slice pr (hs.take wh).length rc) (hs.take wh) := by
                have h1 : Recs w12 (.slice pr S rc) hs := m12.get (x := Ent.recs (.slice pr S rc) hs) (by simp)
                rw [M10.out.2]
                exact h1.rows.pre (by have := HC.out.2.2.2.1; omega)
              have heq12 := eqAll_same hrec12.rows hrr12 (by rw [hls12, List.map_take, ← HL.out.2.1]) (by have := congrArg List.length hls12; rw [List.length_map, List.length_take] at this; have := HL.out.2.2.1; omega)
              rw [M10.out.2] at heq12
              have HEQ12 := Lib.hid heq12
              have M12 := Lib.hid m12
              clear hls12 hrec12 m12 hrr12 heq12
              go_wp2_with (first | (go_at_call 12; refine stop ?_))
              refine go ?_
              refine HEQ12.out.mono ?_
              rintro e w13 ⟨rfl, c13⟩
              go_wp2
              go_ret
              exact ⟨by simp, (M12.out.quiet c13).chg⟩
      · have d2 : decide ((i : Int) < 40) = false := decide_eq_false hi4
        obtain ⟨E, hE, hE3, hE0⟩ := hNS.found (fun x hx => by have := HL.out.1 x hx; omega)
        obtain ⟨A, hA⟩ : ∃ A, A = atN l wh := ⟨_, rfl⟩
        rw [← hA] at hE hE0
        have hAC : A ≤ C.length := by have := parse_good_le C; rw [hE] at this; exact this
        rw [← hCL] at hAC hE0
        have hwS : wh ≤ S := by have := hNS.le; have := HL.out.2.2.1; omega
        have iwS : (wh : Int) ≤ (S : Int) := by omega
        have iw0 : (0 : Int) ≤ (wh : Int) := by omega
        have iAC : (A : Int) ≤ (CL : Int) := by omega
        have iA0 : (0 : Int) ≤ (A : Int) := by omega
        have iE : (E : Int) ≤ 200 := by omega
        have hcp := copied_any (w := wr) (l := C) (by rw [← hCL]; omega) (OB.rb hM.first)
        have HCP := Lib.hid hcp
        have HC := Lib.hid (And.intro hM (And.intro hCL (And.intro hE (And.intro hwS hA))))
        have HE := Lib.hid (And.intro hE3 hE0)
        clear hNS hE hE3 hE0 hA hAC hwS hcp hM hCL
        go_wp2_with (first | (go_at_call 11; refine stop ?_))
        refine go ?_
        refine HCP.out.mono ?_
        rintro e w9 ⟨v9, rfl, o9, c9, n9⟩
        obtain ⟨p9, cc9, rfl, -⟩ := id o9
        have m9 := HC.out.1.quiet c9
        have hpa := parse_any (HG.out.chg m9.chg) (OB.rb o9) (by rw [← HC.out.2.1]; omega)
        rw [HC.out.2.2.1] at hpa
        have HPA := Lib.hid hpa
        have M9 := Lib.hid m9
        rw [← HC.out.2.1] at HPA ⊢
        clear o9 c9 n9 hpa m9
        go_wp2_with (first | (go_at_call 10; refine stop ?_))
        refine go ?_
        refine HPA.out.mono ?_
        rintro e w10 ⟨v10, ls10, rfl, hls10, hrec10, c10, -⟩
        obtain ⟨p10, cc10, rfl, -⟩ := id hrec10.oc
        have m10 := M9.out.quiet c10
        have hka : (hs.take wh).length = wh := by rw [List.length_take]; have := HC.out.2.2.2.1; have := HL.out.2.2.2; omega
        have hrr10 : RRows w10 (.slice pr (hs.take wh).length rc) (hs.take wh) := by
          have h1 : Recs w10 (.slice pr S rc) hs := m10.get (x := Ent.recs (.slice pr S rc) hs) (by simp)
          rw [hka]
          exact h1.rows.pre (by have := HC.out.2.2.2.1; omega)
        have heq10 := eqAll_same hrec10.rows hrr10 (by rw [hls10, List.map_take, ← HL.out.2.1]) (by have := congrArg List.length hls10; rw [List.length_map, List.length_take] at this; have := HL.out.2.2.1; omega)
        rw [hka] at heq10
        have HEQ10 := Lib.hid heq10
        have a10 := HAT.out w10 (m10.get (x := Ent.nums (.slice (some ⟨ab, 0, none⟩) (S + 1) ac) (atL l)) (by simp)) wh (by have := HC.out.2.2.2.1; omega)
        rw [← HC.out.2.2.2.2] at a10
        have M10 := Lib.hid (And.intro m10 hka)
        clear hls10 hrec10 c10 m10 hrr10 heq10 hka
        go_wp2_with (first | (go_at_call 12; refine stop ?_))
        refine go ?_
        refine HEQ10.out.mono ?_
        rintro e w11 ⟨rfl, c11⟩
        have m11 := M10.out.1.quiet c11
        have hov := over_any HG.out m11 (b := C) (p := pc) (c := cc) (by rw [← HC.out.2.1]; exact OB.rb m11.first) (by rw [← HC.out.2.1]; omega) HC.out.2.2.1
        rw [← HC.out.2.1, show ((CL - A : Nat) : Int) = (CL : Int) - (A : Int) by omega] at hov
        have HOV := Lib.hid hov
        have M11 := Lib.hid m11
        clear hov m11 c11 a10
        by_cases hE0 : E = 0
        · have hAC : A = CL := HE.out.2.1 hE0
          subst hE0
          have b1 : ((A : Int) == (CL : Int)) = true := by rw [beq_iff_eq]; omega
          (try simp only [show ((0 : Nat) : Int) = 0 from rfl, show ((121 : Nat) : Int) = 121 from rfl, show ((102 : Nat) : Int) = 102 from rfl] at *)
          go_wp2_with (first | (go_at_call 13; refine stop ?_))
          refine go ?_
          refine HOV.out.mono ?_
          rintro e w12 ⟨v12, ls12, rfl, hls12, m12⟩
          have hrec12 : Recs w12 v12 ls12 := m12.first
          obtain ⟨p12, cc12, rfl, -⟩ := id hrec12.oc
          have hrr12 : RRows w12 (.slice pr (hs.take wh).length rc) (hs.take wh) := by
            have h1 : Recs w12 (.slice pr S rc) hs := m12.get (x := Ent.recs (.slice pr S rc) hs) (by simp)
            rw [M10.out.2]
            exact h1.rows.pre (by have := HC.out.2.2.2.1; omega)
          have heq12 := eqAll_same hrec12.rows hrr12 (by rw [hls12, List.map_take, ← HL.out.2.1]) (by have := congrArg List.length hls12; rw [List.length_map, List.length_take] at this; have := HL.out.2.2.1; omega)
          rw [M10.out.2] at heq12
          have HEQ12 := Lib.hid heq12
          have M12 := Lib.hid m12
          clear hls12 hrec12 m12 hrr12 heq12
          go_wp2_with (first | (go_at_call 12; refine stop ?_))
          refine go ?_
          refine HEQ12.out.mono ?_
          rintro e w13 ⟨rfl, c13⟩
          go_wp2
          go_ret
          exact ⟨by simp, (M12.out.quiet c13).chg⟩
        · have hAC : ¬ A = CL := fun h => hE0 (HE.out.2.2 h)
          have b1 : ((A : Int) == (CL : Int)) = false := by rw [beq_eq_false_iff_ne]; omega
          have b2 : ((E : Int) == 0) = false := by rw [beq_eq_false_iff_ne]; omega
          by_cases h121 : E = 121
          · subst h121
            (try simp only [show ((0 : Nat) : Int) = 0 from rfl, show ((121 : Nat) : Int) = 121 from rfl, show ((102 : Nat) : Int) = 102 from rfl] at *)
            go_wp2_with (first | (go_at_call 13; refine stop ?_))
            refine go ?_
            refine HOV.out.mono ?_
            rintro e w12 ⟨v12, ls12, rfl, hls12, m12⟩
            have hrec12 : Recs w12 v12 ls12 := m12.first
            obtain ⟨p12, cc12, rfl, -⟩ := id hrec12.oc
            have hrr12 : RRows w12 (.slice pr (hs.take wh).length rc) (hs.take wh) := by
              have h1 : Recs w12 (.slice pr S rc) hs := m12.get (x := Ent.recs (.slice pr S rc) hs) (by simp)
              rw [M10.out.2]
              exact h1.rows.pre (by have := HC.out.2.2.2.1; omega)
            have heq12 := eqAll_same hrec12.rows hrr12 (by rw [hls12, List.map_take, ← HL.out.2.1]) (by have := congrArg List.length hls12; rw [List.length_map, List.length_take] at this; have := HL.out.2.2.1; omega)
            rw [M10.out.2] at heq12
            have HEQ12 := Lib.hid heq12
            have M12 := Lib.hid m12
            clear hls12 hrec12 m12 hrr12 heq12
            go_wp2_with (first | (go_at_call 12; refine stop ?_))
            refine go ?_
            refine HEQ12.out.mono ?_
            rintro e w13 ⟨rfl, c13⟩
            go_wp2
            go_ret
            exact ⟨by simp, (M12.out.quiet c13).chg⟩
          · have h102 : E = 102 := by have := HE.out.1; omega
            subst h102
            (try simp only [show ((0 : Nat) : Int) = 0 from rfl, show ((121 : Nat) : Int) = 121 from rfl, show ((102 : Nat) : Int) = 102 from rfl] at *)
            go_wp2_with (first | (go_at_call 13; refine stop ?_))
            refine go ?_
            refine HOV.out.mono ?_
            rintro e w12 ⟨v12, ls12, rfl, hls12, m12⟩
            have hrec12 : Recs w12 v12 ls12 := m12.first
            obtain ⟨p12, cc12, rfl, -⟩ := id hrec12.oc
            have hrr12 : RRows w12 (.slice pr (hs.take wh).length rc) (hs.take wh) := by
              have h1 : Recs w12 (.slice pr S rc) hs := m12.get (x := Ent.recs (.slice pr S rc) hs) (by simp)
              rw [M10.out.2]
              exact h1.rows.pre (by have := HC.out.2.2.2.1; omega)
            have heq12 := eqAll_same hrec12.rows hrr12 (by rw [hls12, List.map_take, ← HL.out.2.1]) (by have := congrArg List.length hls12; rw [List.length_map, List.length_take] at this; have := HL.out.2.2.1; omega)
            rw [M10.out.2] at heq12
            have HEQ12 := Lib.hid heq12
            have M12 := Lib.hid m12
            clear hls12 hrec12 m12 hrr12 heq12
            go_wp2_with (first | (go_at_call 12; refine stop ?_))
            refine go ?_
            refine HEQ12.out.mono ?_
            rintro e w13 ⟨rfl, c13⟩
            go_wp2
            go_ret
            exact ⟨by simp, (M12.out.quiet c13).chg⟩
    · have d1 : decide ((i : Int) < (V : Int)) = false := decide_eq_false hil
      have d1n : decide (i < V) = false := decide_eq_false (by omega)
      obtain ⟨E, hE, hE3, hE0⟩ := hNS.found (fun x hx => by have := HL.out.1 x hx; omega)
      obtain ⟨A, hA⟩ : ∃ A, A = atN l wh := ⟨_, rfl⟩
      rw [← hA] at hE hE0
      have hAC : A ≤ C.length := by have := parse_good_le C; rw [hE] at this; exact this
      rw [← hCL] at hAC hE0
      have hwS : wh ≤ S := by have := hNS.le; have := HL.out.2.2.1; omega
      have iwS : (wh : Int) ≤ (S : Int) := by omega
      have iw0 : (0 : Int) ≤ (wh : Int) := by omega
      have iAC : (A : Int) ≤ (CL : Int) := by omega
      have iA0 : (0 : Int) ≤ (A : Int) := by omega
      have iE : (E : Int) ≤ 200 := by omega
      have hcp := copied_any (w := wr) (l := C) (by rw [← hCL]; omega) (OB.rb hM.first)
      have HCP := Lib.hid hcp
      have HC := Lib.hid (And.intro hM (And.intro hCL (And.intro hE (And.intro hwS hA))))
      have HE := Lib.hid (And.intro hE3 hE0)
      clear hNS hE hE3 hE0 hA hAC hwS hcp hM hCL
      go_wp2_with (first | (go_at_call 11; refine stop ?_))
      refine go ?_
      refine HCP.out.mono ?_
      rintro e w9 ⟨v9, rfl, o9, c9, n9⟩
      obtain ⟨p9, cc9, rfl, -⟩ := id o9
      have m9 := HC.out.1.quiet c9
      have hpa := parse_any (HG.out.chg m9.chg) (OB.rb o9) (by rw [← HC.out.2.1]; omega)
      rw [HC.out.2.2.1] at hpa
      have HPA := Lib.hid hpa
      have M9 := Lib.hid m9
      rw [← HC.out.2.1] at HPA ⊢
      clear o9 c9 n9 hpa m9
      go_wp2_with (first | (go_at_call 10; refine stop ?_))
      refine go ?_
      refine HPA.out.mono ?_
      rintro e w10 ⟨v10, ls10, rfl, hls10, hrec10, c10, -⟩
      obtain ⟨p10, cc10, rfl, -⟩ := id hrec10.oc
      have m10 := M9.out.quiet c10
      have hka : (hs.take wh).length = wh := by rw [List.length_take]; have := HC.out.2.2.2.1; have := HL.out.2.2.2; omega
      have hrr10 : RRows w10 (.slice pr (hs.take wh).length rc) (hs.take wh) := by
        have h1 : Recs w10 (.slice pr S rc) hs := m10.get (x := Ent.recs (.slice pr S rc) hs) (by simp)
        rw [hka]
        exact h1.rows.pre (by have := HC.out.2.2.2.1; omega)
      have heq10 := eqAll_same hrec10.rows hrr10 (by rw [hls10, List.map_take, ← HL.out.2.1]) (by have := congrArg List.length hls10; rw [List.length_map, List.length_take] at this; have := HL.out.2.2.1; omega)
      rw [hka] at heq10
      have HEQ10 := Lib.hid heq10
      have a10 := HAT.out w10 (m10.get (x := Ent.nums (.slice (some ⟨ab, 0, none⟩) (S + 1) ac) (atL l)) (by simp)) wh (by have := HC.out.2.2.2.1; omega)
      rw [← HC.out.2.2.2.2] at a10
      have M10 := Lib.hid (And.intro m10 hka)
      clear hls10 hrec10 c10 m10 hrr10 heq10 hka
      go_wp2_with (first | (go_at_call 12; refine stop ?_))
      refine go ?_
      refine HEQ10.out.mono ?_
      rintro e w11 ⟨rfl, c11⟩
      have m11 := M10.out.1.quiet c11
      have hov := over_any HG.out m11 (b := C) (p := pc) (c := cc) (by rw [← HC.out.2.1]; exact OB.rb m11.first) (by rw [← HC.out.2.1]; omega) HC.out.2.2.1
      rw [← HC.out.2.1, show ((CL - A : Nat) : Int) = (CL : Int) - (A : Int) by omega] at hov
      have HOV := Lib.hid hov
      have M11 := Lib.hid m11
      clear hov m11 c11 a10
      by_cases hE0 : E = 0
      · have hAC : A = CL := HE.out.2.1 hE0
        subst hE0
        have b1 : ((A : Int) == (CL : Int)) = true := by rw [beq_iff_eq]; omega
        (try simp only [show ((0 : Nat) : Int) = 0 from rfl, show ((121 : Nat) : Int) = 121 from rfl, show ((102 : Nat) : Int) = 102 from rfl] at *)
        go_wp2_with (first | (go_at_call 13; refine stop ?_))
        refine go ?_
        refine HOV.out.mono ?_
        rintro e w12 ⟨v12, ls12, rfl, hls12, m12⟩
        have hrec12 : Recs w12 v12 ls12 := m12.first
        obtain ⟨p12, cc12, rfl, -⟩ := id hrec12.oc
        have hrr12 : RRows w12 (.slice pr (hs.take wh).length rc) (hs.take wh) := by
          have h1 : Recs w12 (.slice pr S rc) hs := m12.get (x := Ent.recs (.slice pr S rc) hs) (by simp)
          rw [M10.out.2]
          exact h1.rows.pre (by have := HC.out.2.2.2.1; omega)
        have heq12 := eqAll_same hrec12.rows hrr12 (by rw [hls12, List.map_take, ← HL.out.2.1]) (by have := congrArg List.length hls12; rw [List.length_map, List.length_take] at this; have := HL.out.2.2.1; omega)
        rw [M10.out.2] at heq12
        have HEQ12 := Lib.hid heq12
        have M12 := Lib.hid m12
        clear hls12 hrec12 m12 hrr12 heq12
        go_wp2_with (first | (go_at_call 12; refine stop ?_))
        refine go ?_
        refine HEQ12.out.mono ?_
        rintro e w13 ⟨rfl, c13⟩
        go_wp2
        go_ret
        exact ⟨by simp, (M12.out.quiet c13).chg⟩
      · have hAC : ¬ A = CL := fun h => hE0 (HE.out.2.2 h)
        have b1 : ((A : Int) == (CL : Int)) = false := by rw [beq_eq_false_iff_ne]; omega
        have b2 : ((E : Int) == 0) = false := by rw [beq_eq_false_iff_ne]; omega
        by_cases h121 : E = 121
        · subst h121
          (try simp only [show ((0 : Nat) : Int) = 0 from rfl, show ((121 : Nat) : Int) = 121 from rfl, show ((102 : Nat) : Int) = 102 from rfl] at *)
          go_wp2_with (first | (go_at_call 13; refine stop ?_))
          refine go ?_
          refine HOV.out.mono ?_
          rintro e w12 ⟨v12, ls12, rfl, hls12, m12⟩
          have hrec12 : Recs w12 v12 ls12 := m12.first
          obtain ⟨p12, cc12, rfl, -⟩ := id hrec12.oc
          have hrr12 : RRows w12 (.slice pr (hs.take wh).length rc) (hs.take wh) := by
            have h1 : Recs w12 (.slice pr S rc) hs := m12.get (x := Ent.recs (.slice pr S rc) hs) (by simp)
            rw [M10.out.2]
            exact h1.rows.pre (by have := HC.out.2.2.2.1; omega)
          have heq12 := eqAll_same hrec12.rows hrr12 (by rw [hls12, List.map_take, ← HL.out.2.1]) (by have := congrArg List.length hls12; rw [List.length_map, List.length_take] at this; have := HL.out.2.2.1; omega)
          rw [M10.out.2] at heq12
          have HEQ12 := Lib.hid heq12
          have M12 := Lib.hid m12
          clear hls12 hrec12 m12 hrr12 heq12
          go_wp2_with (first | (go_at_call 12; refine stop ?_))
          refine go ?_
          refine HEQ12.out.mono ?_
          rintro e w13 ⟨rfl, c13⟩
          go_wp2
          go_ret
          exact ⟨by simp, (M12.out.quiet c13).chg⟩
        · have h102 : E = 102 := by have := HE.out.1; omega
          subst h102
          (try simp only [show ((0 : Nat) : Int) = 0 from rfl, show ((121 : Nat) : Int) = 121 from rfl, show ((102 : Nat) : Int) = 102 from rfl] at *)
          go_wp2_with (first | (go_at_call 13; refine stop ?_))
          refine go ?_
          refine HOV.out.mono ?_
          rintro e w12 ⟨v12, ls12, rfl, hls12, m12⟩
          have hrec12 : Recs w12 v12 ls12 := m12.first
          obtain ⟨p12, cc12, rfl, -⟩ := id hrec12.oc
          have hrr12 : RRows w12 (.slice pr (hs.take wh).length rc) (hs.take wh) := by
            have h1 : Recs w12 (.slice pr S rc) hs := m12.get (x := Ent.recs (.slice pr S rc) hs) (by simp)
            rw [M10.out.2]
            exact h1.rows.pre (by have := HC.out.2.2.2.1; omega)
          have heq12 := eqAll_same hrec12.rows hrr12 (by rw [hls12, List.map_take, ← HL.out.2.1]) (by have := congrArg List.length hls12; rw [List.length_map, List.length_take] at this; have := HL.out.2.2.1; omega)
          rw [M10.out.2] at heq12
          have HEQ12 := Lib.hid heq12
          have M12 := Lib.hid m12
          clear hls12 hrec12 m12 hrr12 heq12
          go_wp2_with (first | (go_at_call 12; refine stop ?_))
          refine go ?_
          refine HEQ12.out.mono ?_
          rintro e w13 ⟨rfl, c13⟩
          go_wp2
          go_ret
          exact ⟨by simp, (M12.out.quiet c13).chg⟩
end
end Go.Proofs
