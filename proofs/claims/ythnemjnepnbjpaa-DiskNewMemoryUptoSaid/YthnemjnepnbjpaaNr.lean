/- DiskNewMemory's walk. Conditions: the three slices are read; they have at most 1048576 bytes. -/
import Derived.Test.YthnemjnepnbjpaaNw
namespace Go.Proofs
open Go.RowKit Go.Hp Go.Dm Go.Dr
set_option linter.unusedVariables false
set_option maxRecDepth 10000
section
variable {w : World} {X Y Z : List UInt8} {px py pz : Option Addr} {cx cy cz : Nat}
set_option maxHeartbeats 16000000 in
theorem newmem_walk (kk : Int) (ar : Bool) (hX : RB w (.slice px X.length cx) X) (hY : RB w (.slice py Y.length cy) Y) (hZ : RB w (.slice pz Z.length cz) Z) (lX : X.length ≤ 1048576) (lY : Y.length ≤ 1048576) (lZ : Z.length ≤ 1048576) :
    Calls Try.prog 4 #[.agg #[.slice px X.length cx, .slice py Y.length cy, .slice pz Z.length cz, .int .i64 kk, .bool ar]] w fun e w' => e = .returned (.bool true) ∧ Chg (fun _ => False) w w' := by
  obtain ⟨L, hL⟩ : ∃ L : Nat, L = 2 * X.length + Y.length + 9 := ⟨_, rfl⟩
  have eL : 2 * (X.length : Int) + (Y.length : Int) + 9 = (L : Int) := by omega
  have iX : (X.length : Int) ≤ 1048576 := by omega
  have iY : (Y.length : Int) ≤ 1048576 := by omega
  have iZ : (Z.length : Int) ≤ 1048576 := by omega
  have HWC := Lib.hid ((Chg.refl (fun _ => False) w).alloc (.cells #[.slice px X.length cx, .slice py Y.length cy, .slice pz Z.length cz, .int .i64 kk, .bool ar] 24))
  have HB0 := Lib.hid (halloc_at w (.cells #[.slice px X.length cx, .slice py Y.length cy, .slice pz Z.length cz, .int .i64 kk, .bool ar] 24))
  have HNEW := Lib.hid (new_ok (w := w.alloc (.cells #[.slice px X.length cx, .slice py Y.length cy, .slice pz Z.length cz, .int .i64 kk, .bool ar] 24)) L (by omega))
  have HX := Lib.hid (RC.chg hX HWC.out fun _ _ h => h)
  have HY := Lib.hid (RC.chg hY HWC.out fun _ _ h => h)
  have HZ := Lib.hid (RC.chg hZ HWC.out fun _ _ h => h)
  have HL := Lib.hid hL
  have HLX := Lib.hid (And.intro lX (And.intro lY lZ))
  clear hX hY hZ lX lY lZ hL
  go_enter Try.func4, Try.ntmps4
  go_wp2_with (first | (go_at_call 16; refine (num_any _ _).mono ?_; rintro e w' ⟨rfl, rfl⟩) | (go_at_call 15; refine stop ?_))
  refine go ?_
  refine HNEW.out.mono ?_
  rintro e w1 ⟨he, h1, v1⟩
  rw [halloc_size] at he h1 v1
  generalize w.heap.size + 1 + 1 = d at he h1 v1
  subst he
  have m1 := (Many.nil _).addDisk h1 v1
  generalize w.alloc (.cells #[.slice px X.length cx, .slice py Y.length cy, .slice pz Z.length cz, .int .i64 kk, .bool ar] 24) = W at m1 HB0 HWC HNEW HX HY HZ
  have hbx := (m1.chg.block _ (hlt_of HB0.out) (fun h => h)).trans HB0.out
  have q0 := hcell_of hbx 0
  have q1 := hcell_of hbx 1
  have q2 := hcell_of hbx 2
  simp only [List.getElem?_toArray, List.getElem?_cons_zero, List.getElem?_cons_succ] at q0 q1 q2
  have HOW := Lib.hid (loadedOwn_any (w := w1) (RC.chg HZ.out m1.chg fun _ _ h => h) HLX.out.2.2)
  have M1 := Lib.hid m1
  clear h1 v1 m1 hbx
  go_wp2_with (first | (go_at_call 16; refine (num_any _ _).mono ?_; rintro e w' ⟨rfl, rfl⟩) | (go_at_call 25; refine stop ?_))
  refine go ?_
  refine HOW.out.mono ?_
  rintro e w2 ⟨rfl, c2⟩
  have m2 := M1.out.quiet c2
  have hbx := (m2.chg.block _ (hlt_of HB0.out) (fun h => h)).trans HB0.out
  have q0 := hcell_of hbx 0
  have q1 := hcell_of hbx 1
  simp only [List.getElem?_toArray, List.getElem?_cons_zero, List.getElem?_cons_succ] at q0 q1
  have HCP := Lib.hid (copied_any (w := w2) (l := X) (by have := HLX.out.1; omega) (RC.chg HX.out m2.chg fun _ _ h => h))
  have M2 := Lib.hid m2
  clear c2 m2 hbx q2
  go_wp2_with (first | (go_at_call 20; refine stop ?_))
  refine go ?_
  refine HCP.out.mono ?_
  rintro e w3 ⟨v3, rfl, o3, c3, n3⟩
  have m3 := M2.out.addBytes o3 c3 n3
  obtain ⟨p1, cc1, rfl, -⟩ := id o3
  have M3 := Lib.hid m3
  clear o3 c3 n3 m3 q0 q1
  go_wp2_with (first | (at_builtin; refine stop ?_))
  refine go ?_
  have M4 := Lib.hid (M3.out.alloc (.cells #[.int .u8 112, .int .u8 113] 5))
  refine wpList_append_bytes rfl _ _ rfl (v := .slice p1 X.length cc1) rfl rfl M4.out.first (rb_new w3 [112, 113] 5 (0, 0)) (by have := HLX.out.1; simp; omega) ?_
  intro pb lb cb w4 a1 a2 a3 a4
  have M5 := Lib.hid (M4.out.growBytes a1 a2 a3)
  obtain rfl : X.length + 2 = lb := by obtain ⟨p', c', e, -⟩ := a1; simp only [Value.slice.injEq] at e; simpa using e.2.1.symm
  have hcc : X.length + 2 ≤ cb := by obtain ⟨p', c', e, h1, -⟩ := a1; simp only [Value.slice.injEq] at e; simp at h1; omega
  have hcc1 : (X.length : Int) + 2 - 1 ≤ (cb : Int) := by omega
  have hcc2 : (X.length : Int) + 1 ≤ (cb : Int) := by omega
  have ibl0 : (0 : Int) ≤ (X.length : Int) := by omega
  have hrb1 : RB w4 (.slice pb (X.length + 1) cb) (X ++ [112]) := by
    have h1 := RB.takeN (p := pb) (c := cb) (bs := X ++ [112, 113]) (by simpa using OB.rb a1) (X.length + 1) (by simp)
    have e : (X ++ [112, 113]).take (X.length + 1) = X ++ [112] := by
      rw [List.take_append, List.take_of_length_le (by omega)]; simp
    rw [e] at h1; exact h1
  have hcv : (convert 22 9 (.slice pb (X.length + 1) cb)).run Try.prog w4 = .ok (.string ⟨(X ++ [112]).toArray⟩) w4 := run_toString (P := Try.prog) w4 22 9 5 Try.underlying22 Try.underlying5 Try.underlying9 hrb1
  have m5 := M5.out.swap12
  have hap := append_any (nm := nA) (by decide) m5.first hrb1 (fun k hk hF => (List.pairwise_cons.1 m5.apart).1 _ (List.mem_cons_self ..) k hF (by
    show k ∈ (sblk (.slice pb (X.length + 2) cb)).toList
    cases pb with
    | none => cases hk
    | some b => cases cb <;> simpa [sblk] using hk.symm))
  rw [nm1 HL.out] at hap
  have HAP := Lib.hid hap
  have M6 := Lib.hid m5
  have HCC := Lib.hid hcc
  clear a1 a2 a3 a4 hrb1 hcc m5 hap
  go_wp2_with (first | (go_at_call 17; refine stop ?_))
  refine go ?_
  refine HAP.out.mono ?_
  rintro e w5 ⟨rfl, hl5⟩
  obtain ⟨F5, m5⟩ := M6.out.left hl5
  have hbx := (m5.chg.block _ (hlt_of HB0.out) (fun h => h)).trans HB0.out
  have q1 := hcell_of hbx 1
  simp only [List.getElem?_toArray, List.getElem?_cons_zero, List.getElem?_cons_succ] at q1
  have HCP2 := Lib.hid (copied_any (w := w5) (l := Y) (by have := HLX.out.2.1; omega) (RC.chg HY.out m5.chg fun _ _ h => h))
  have M7 := Lib.hid m5
  clear hl5 m5 hbx hcv
  go_wp2_with (first | (go_at_call 20; refine stop ?_))
  refine go ?_
  refine HCP2.out.mono ?_
  rintro e w6 ⟨v6, rfl, o6, c6, n6⟩
  have m6 := M7.out.quiet c6
  have hap := append_any (nm := nB) (by decide) m6.first (OB.rb o6) (fun k hk hF => by have h1 := M7.out.first.lt k hF; have h2 := n6 k hk; omega)
  rw [nm2 HL.out] at hap
  obtain ⟨p6, c6', rfl, -⟩ := id o6
  have HAP2 := Lib.hid hap
  have M8 := Lib.hid m6
  clear o6 c6 n6 m6 hap q1
  go_wp2_with (first | (go_at_call 17; refine stop ?_))
  refine go ?_
  refine HAP2.out.mono ?_
  rintro e w7 ⟨rfl, hl7⟩
  obtain ⟨F7, m7⟩ := M8.out.left hl7
  have M9 := Lib.hid m7
  clear hl7 m7
  have hconv := Lib.run_convert_bytes_const (P := Try.prog) w7 22 5 #[.int .u8 101] 1 1 Try.underlying22 Try.underlying5
  go_wp2_with (first | (go_at_call 17; refine stop ?_))
  clear hconv
  refine go ?_
  have M10 := Lib.hid (M9.out.alloc (.cells #[.int .u8 101] 5 (1, 2)))
  have hap := append_any (nm := nB) (by decide) M10.out.first (rb_new w7 [101] 5 (1, 2)) (fun k hk hF => by
    have h1 := M9.out.first.lt k hF
    have : k = w7.heap.size := by simpa [sblk] using hk.symm
    omega)
  rw [nm3 HL.out] at hap
  refine hap.mono ?_
  rintro e w8 ⟨rfl, hl8⟩
  obtain ⟨F8, m8⟩ := M10.out.left hl8
  have ho := (m8.get (x := Ent.bytes (.slice pb (X.length + 2) cb) (X ++ [112, 113])) (by simp))
  have hcv := run_toString (P := Try.prog) w8 22 9 5 Try.underlying22 Try.underlying5 Try.underlying9 (OB.rb ho)
  have hbq : ((⟨(X ++ [112]).toArray⟩ : ByteArray) ++ ⟨#[113]⟩) = ⟨(X ++ [112, 113]).toArray⟩ := by apply bytes_ext; simp [ByteArray.data_append]
  have M11 := Lib.hid m8
  clear hap hl8 m8 ho
  go_wp2
  obtain ⟨D3, hD3⟩ : ∃ D3 : Dk, D3 = ⟨L, [⟨nA, X ++ [112], 0⟩, ⟨nB, Y ++ [101], 0⟩], false, 0, 0⟩ := ⟨_, rfl⟩
  have M12 : Hid (Many W w8 (Ent.bytes (.slice pb (X.length + 2) cb) (X ++ [112, 113]) :: [Ent.disk d D3 F8])) := Lib.hid (by rw [hD3]; exact M11.out.swap12)
  have HD3 := Lib.hid hD3
  clear hD3 hcv hbq q0 q1
  go_loopw [8] (fun i wr => ∃ j : Nat, i = .int .i64 (j : Int) ∧ j ≤ X.length + 2 ∧ ∃ lx : List UInt8, lx.length = X.length + 2 ∧ Many W wr (Ent.bytes (.slice pb (X.length + 2) cb) lx :: [Ent.disk d D3 F8])) (fun i _ => X.length + 2 - (Lib.intOf i).toNat)
  case atStart => exact ⟨0, rfl, Nat.zero_le _, _, by simp, M12.out⟩
  case round =>
    obtain ⟨j, rfl, hj, lx, hlx, hMi⟩ := hrel
    have HMI := Lib.hid hMi
    have hj0 : (0 : Int) ≤ (j : Int) := by omega
    by_cases hjl : (j : Int) < (X.length : Int) + 2
    · have hob : OB wr 5 (.slice pb (X.length + 2) cb) lx := hMi.first
      obtain ⟨bb, hbb⟩ := OB.blk hob (by intro e; rw [e] at hlx; simp at hlx)
      have hset : Many W (wr.setCell ⟨bb, j, none⟩ (.int .u8 77)) (Ent.bytes (.slice pb (X.length + 2) cb) (lx.set j 77) :: [Ent.disk d D3 F8]) := by
        have hm := hMi
        rw [hbb, ← hlx] at hm
        have h1 := hm.setByte (l := lx) (n := j) (by omega) 77
        rw [hlx] at h1
        rw [hbb]; exact h1
      subst hbb
      obtain ⟨u, hce1, hce2⟩ : ∃ u : UInt8, wr.cell? ⟨bb, j, none⟩ = some (.int .u8 (u.toNat : Int)) ∧ wr.frozen? ⟨bb, j, none⟩ = false := ⟨_, OB.at_ hob (j := j) (by omega)⟩
      have HSET := Lib.hid (And.intro hlx hset)
      have hjc : (X.length : Int) + 2 ≤ (cb : Int) := by have := HCC.out; omega
      clear hMi hob hset hlx
      go_wp2
      go_roundw
      case rel => exact ⟨j + 1, by go_num, by omega, _, by have := HSET.out.1; simpa using this, HSET.out.2⟩
      case measure => simp [Lib.intOf]; omega
    · have m1 := hMi.tail
      have hrd : ∀ w' : World, DRep w' d D3 F8 → Calls Try.prog 26 #[.pointer (some ⟨d, 0, none⟩), .string nA, .int .i64 0, .int .i64 ((X.length : Int) + 1)] w' (Tell w' d F8 D3 (X ++ [112]) 0) := fun w' h => by
        have h1 := read_any (nm := nA) 0 ((X.length : Int) + 1) (by decide) h
        have e : D3.read nA 0 ((X.length : Int) + 1) = (X ++ [112], 0) := by rw [HD3.out]; exact nm4
        rw [e] at h1
        exact h1
      have HRD := Lib.hid hrd
      have hfn : D3.files.length ≤ 1099511627776 := by rw [HD3.out]; show [(_ : Fl), _].length ≤ _; simp
      have HFN := Lib.hid hfn
      have M13 := Lib.hid m1
      clear hMi m1 hrd hfn hlx
      go_wp2_with (first | (go_at_call 26; refine stop ?_))
      refine go ?_
      refine (HRD.out _ M13.out.first).mono ?_
      rintro e w10 ⟨v, rfl, o1, o2, o3, -⟩
      obtain ⟨p1, c1, rfl, -⟩ := id o1
      have M14 := Lib.hid (M13.out.addBytes o1 o3 o2).swap12
      clear o1 o2 o3
      go_wp2_with (first | (go_at_call 26; refine stop ?_))
      refine go ?_
      refine (HRD.out _ M14.out.first).mono ?_
      rintro e w11 ⟨v, rfl, o1, o2, o3, -⟩
      obtain ⟨p2, c2, rfl, -⟩ := id o1
      have M15 := Lib.hid (M14.out.addBytes o1 o3 o2).swap12
      clear o1 o2 o3
      go_wp2_with (first | (go_at_call 24; refine stop ?_))
      refine go ?_
      refine (files_any HFN.out M15.out.first).mono ?_
      rintro e w12 ⟨v, l, rfl, f1, f2, f3, f4⟩
      rw [HD3.out] at f2
      obtain ⟨f, f', rfl, hf2⟩ := two_of f2
      have HF2 := Lib.hid hf2
      obtain ⟨pl, cl, rfl, hlc, -⟩ := id f1.sl
      have M16 := Lib.hid (M15.out.filesOf f1 f3 f4).swap12
      have hlc1 : 2 ≤ cl := hlc
      clear f1 f2 f3 f4 hlc hf2
      go_wp2_with (first | (go_at_call 24; refine stop ?_))
      refine go ?_
      refine (files_any HFN.out M16.out.first).mono ?_
      rintro e w13 ⟨v, l, rfl, f1, f2, f3, f4⟩
      rw [HD3.out] at f2
      obtain ⟨g, g', rfl, hf2⟩ := two_of f2
      have HG2 := Lib.hid hf2
      obtain ⟨pm, cm, rfl, hlc, -⟩ := id f1.sl
      have M17 := Lib.hid (M16.out.filesOf f1 f3 f4)
      have hlc2 : 2 ≤ cm := hlc
      have ilc1 : (2 : Int) ≤ (cl : Int) := by omega
      have ilc2 : (2 : Int) ≤ (cm : Int) := by omega
      clear f1 f2 f3 f4 hlc hf2
      have hr1 := M17.out.get (x := Ent.bytes (.slice p1 (X ++ [112]).length c1) (X ++ [112])) (by simp)
      have hr2 := M17.out.get (x := Ent.bytes (.slice p2 (X ++ [112]).length c2) (X ++ [112])) (by simp)
      have el : (X ++ [(112 : UInt8)]).length = X.length + 1 := by simp
      have hcv1 : (convert 22 9 (.slice p1 (X.length + 1) c1)).run Try.prog w13 = .ok (.string ⟨(X ++ [112]).toArray⟩) w13 := by rw [← el]; exact run_toString (P := Try.prog) w13 22 9 5 Try.underlying22 Try.underlying5 Try.underlying9 (OB.rb hr1)
      have hcv2 : (convert 22 9 (.slice p2 (X.length + 1) c2)).run Try.prog w13 = .ok (.string ⟨(X ++ [112]).toArray⟩) w13 := by rw [← el]; exact run_toString (P := Try.prog) w13 22 9 5 Try.underlying22 Try.underlying5 Try.underlying9 (OB.rb hr2)
      clear hr1 hr2
      clear el
      go_wp2_with (first | (go_at_call 16; refine (num_any _ _).mono ?_; rintro e w' ⟨rfl, rfl⟩))
      have hF1 : FilesAt w13 (.slice pl [f, f'].length cl) [f, f'] := M17.out.get (x := Ent.files (.slice pl [f, f'].length cl) [f, f']) (by simp)
      have hF2 : FilesAt w13 (.slice pm [g, g'].length cm) [g, g'] := M17.out.first
      obtain ⟨bl, x, rfl, hx, -, -, y0, y1, y2⟩ := hF1.file (k := 0) (by simp)
      obtain rfl : f = x := by simpa using hx
      obtain ⟨bl', x', he, hx', -, -, u0, u1, u2⟩ := hF1.file (k := 1) (by simp)
      obtain rfl : bl = bl' := by simpa using he
      obtain rfl : f' = x' := by simpa using hx'
      obtain ⟨bm, y, rfl, hy, -, -, r0, r1, r2⟩ := hF2.file (k := 0) (by simp)
      obtain rfl : g = y := by simpa using hy
      obtain ⟨bm', y', he', hy', -, -, s0, s1, s2⟩ := hF2.file (k := 1) (by simp)
      obtain rfl : bm = bm' := by simpa using he'
      obtain rfl : g' = y' := by simpa using hy'
      simp only [Nat.zero_mul, Nat.zero_add, Nat.one_mul] at y1 u1 r1 s1
      change w13.cell? ⟨bl, 1, none⟩ = some (.slice f.p f.bytes.length f.cap) at y1
      change w13.cell? ⟨bl, 3 + 1, none⟩ = some (.slice f'.p f'.bytes.length f'.cap) at u1
      change w13.cell? ⟨bm, 1, none⟩ = some (.slice g.p g.bytes.length g.cap) at r1
      change w13.cell? ⟨bm, 3 + 1, none⟩ = some (.slice g'.p g'.bytes.length g'.cap) at s1
      clear y0 y2 u0 u2 r0 r2 s0 s2 hF1 hF2 hx hx' hy hy' he he' hcv1 hcv2
      refine Rx.ws_region (fun _ => True) [(0, .r), (1, .r), (2, .r), (3, .r), (4, .r), (5, .r), (6, .r), (7, .r), (8, .r), (9, .r), (10, .r), (11, .r), (12, .r), (13, .r), (14, .r), (15, .r), (16, .r), (17, .r), (18, .e), (19, .r)] (by kernel_rfl) (by kernel_rfl) trivial (fun _ _ x _ _ h => (by cases x <;> exact h)) ?_
      iterate 18 (refine Rx.ws_q rfl rfl ?_; go_wp2; refine Rx.atS_mk ?_)
      refine Rx.ws_e rfl ?_
      go_wp2
      refine ⟨trivial, ?_⟩
      (refine Rx.ws_q rfl rfl ?_; go_wp2; refine Rx.atS_mk ?_)
      refine Rx.ws_nil ?_
      go_wp2_with (first | (go_at_call 27; refine stop ?_))
      refine go ?_
      clear y1 u1 r1 s1
      have e1 : (X ++ [(112 : UInt8)]).length = X.length + 1 := by simp
      have m1 := M17.out.files2
      have m2 := Many.byIdx (n := 7) [4, 0, 1, 2, 3, 5, 6] m1 (Ent.some []) rfl (by decide)
      have m3 := Many.files2 m2
      have m4 := Many.byIdx (n := 9) [8, 7, 1, 2, 4, 5, 6, 0, 3] m3 (Ent.some []) rfl (by decide)
      obtain ⟨gs, hgs⟩ : ∃ gs : List LF, gs = [⟨nA, p1, c1, X ++ [112], 0⟩, ⟨nA, p2, c2, X ++ [112], 0⟩, f, f', g, g'] := ⟨_, rfl⟩
      have m5 : Many W w13 (gs.map LF.ent ++ [Ent.disk d D3 F8, Ent.heads (.slice (some ⟨bl, 0, none⟩) 2 cl) [f, f'], Ent.heads (.slice (some ⟨bm, 0, none⟩) 2 cm) [g, g']]) := by rw [hgs]; exact m4
      have hgv : gs.map LF.sv = [.slice p1 (X.length + 1) c1, .slice p2 (X.length + 1) c2, .slice f.p f.bytes.length f.cap, .slice f'.p f'.bytes.length f'.cap, .slice g.p g.bytes.length g.cap, .slice g'.p g'.bytes.length g'.cap] := by rw [hgs]; simp [LF.sv]
      have hgl : gs.length = 6 := by rw [hgs]; rfl
      have hgb : ∀ x ∈ gs, x.bytes.length ≤ 1099511627776 := fun x hx => by
        have h1 := congrArg (fun y : Fl => y.bytes.length) HF2.out.1
        have h2 := congrArg (fun y : Fl => y.bytes.length) HF2.out.2
        have h3 := congrArg (fun y : Fl => y.bytes.length) HG2.out.1
        have h4 := congrArg (fun y : Fl => y.bytes.length) HG2.out.2
        simp [LF.fl] at h1 h2 h3 h4
        have h5 := HLX.out
        rw [hgs] at hx
        simp at hx
        rcases hx with rfl | rfl | rfl | rfl | rfl | rfl <;> simp <;> omega
      have m6 := m5.addRows (v := .slice (some ⟨w13.heap.size, 0, none⟩) 6 6) (cs := gs.map LF.sv) (by rw [hgv]; exact OC_new w13 1 22 #[_, _, _, _, _, _] 6 6 (by decide) (by unfold maxLen; decide) rfl) ((Chg.refl _ w13).alloc _) (fun b hb => by
        have : w13.heap.size = b := by simpa [sblk] using hb
        omega)
      have m7 := m6.quiet ((Chg.refl (fun _ => False) _).drew)
      have hfl := filled_any (by omega) hgb (show Many W _ (Ent.rows (.slice (some ⟨w13.heap.size, 0, none⟩) gs.length 6) (gs.map LF.sv) :: (gs.map LF.ent ++ _)) by rw [hgl]; exact m7)
      rw [hgl] at hfl
      refine hfl.mono ?_
      rintro e w15 ⟨p', c', ds, rfl, hdl, hFu, hM⟩
      have HM := Lib.hid hM
      have HFU := Lib.hid hFu
      have hgv6 : (gs.map LF.sv).length = 6 := by rw [List.length_map, hgl]
      have HGV := Lib.hid (And.intro hgl (And.intro hdl hgv6))
      have HGB := Lib.hid hgb
      clear hM hFu hgv hgl hgb hgs m1 m2 m3 m4 m5 m6 m7 hfl e1 hdl hgv6 hj hjl hj0 M12 M13 HMI
      go_wp2
      go_loopw [17] (fun i wr => w15 = wr ∧ ∃ k : Nat, i = .int .i64 (k : Int) ∧ k ≤ 6) (fun i _ => 6 - (Lib.intOf i).toNat)
      case atStart => exact ⟨rfl, 0, rfl, by omega⟩
      case round =>
        obtain ⟨rfl, k, rfl, hk⟩ := hrel
        by_cases hkl : (k : Int) < 6
        · have hk0 : (0 : Int) ≤ (k : Int) := by omega
          obtain ⟨D, hD⟩ : ∃ D, ds[k]? = some D := ⟨_, List.getElem?_eq_getElem (by have := HGV.out.2.1; omega)⟩
          have hmk := HFU.out.mark k D hD
          have hgk : (gs.map LF.sv)[k]? = some D.g.sv ∧ D.g.bytes.length ≤ 1099511627776 := by
            have h1 := HFU.out.is
            rw [HGV.out.2.1, ← HGV.out.1, List.take_length] at h1
            refine ⟨by rw [← h1, List.map_map, List.getElem?_map, hD]; rfl, HGB.out _ ?_⟩
            rw [← h1]; exact List.mem_map.2 ⟨D, List.mem_of_getElem? hD, rfl⟩
          obtain ⟨hgk, hgk2⟩ := hgk
          have hvk : (ds.map DF.v)[k]? = some D.v := by rw [List.getElem?_map, hD]; rfl
          have hfull := HM.out.get (x := D.ent) (by simp only [List.mem_cons, List.mem_append]; exact .inr (.inr (.inl (List.mem_map.2 ⟨D, List.mem_of_getElem? hD, rfl⟩))))
          have hlg : OC w15 1 22 (.slice p' 6 c') (ds.map DF.v).length (ds.map DF.v) := HM.out.first
          have hgt : OC w15 1 22 (.slice (some ⟨w13.heap.size, 0, none⟩) 6 6) (gs.map LF.sv).length (gs.map LF.sv) := HM.out.get (x := Ent.rows (.slice (some ⟨w13.heap.size, 0, none⟩) 6 6) (gs.map LF.sv)) (by simp)
          obtain ⟨lb, rfl⟩ := OC.blk1 hlg (by rw [List.length_map, HGV.out.2.1]; omega)
          have hc6 : 6 ≤ c' := by obtain ⟨_, _, e, h1, -⟩ := hlg; simp only [Value.slice.injEq] at e; rw [List.length_map, HGV.out.2.1] at h1; omega
          have ic6 : (6 : Int) ≤ (c' : Int) := by omega
          have hl1 := (OC.atk hlg hvk).1
          have hg1 := (OC.atk hgt hgk).1
          obtain ⟨⟨nm, gp, gc, gb, gs0⟩, vp, vc, m⟩ := D
          change w15.cell? ⟨lb, k, none⟩ = some (.slice vp (gb.length + 1) vc) at hl1
          change w15.cell? ⟨w13.heap.size, k, none⟩ = some (.slice gp gb.length gc) at hg1
          obtain ⟨hf1, hf2⟩ := hfull
          change RB w15 (.slice gp gb.length gc) (List.replicate gb.length m) at hf1
          change OB w15 5 (.slice vp (gb.length + 1) vc) (List.replicate (gb.length + 1) m) at hf2
          change m = UInt8.ofNat (200 + k) at hmk
          have hmi : ((m.toNat : Nat) : Int) = 200 + (k : Int) := by rw [hmk]; exact mark_int (by omega)
          obtain ⟨n, hn⟩ : ∃ n, n = gb.length := ⟨_, rfl⟩
          rw [← hn] at hl1 hg1 hf1 hf2
          obtain ⟨vb, rfl⟩ := OB.blk hf2 (by simp)
          have hvc : (n : Int) + 1 ≤ (vc : Int) := by have := (OB.lenEq hf2).2; simp at this; omega
          have HF1 := Lib.hid hf1
          have HF2' := Lib.hid hf2
          have HMI2 := Lib.hid hmi
          have ign : (n : Int) ≤ 1099511627776 := by rw [hn]; exact Int.ofNat_le.2 hgk2
          clear hf1 hf2 hmi hmk hn hD hgk hgk2 hvk hlg hgt HNEW HOW HCP HCP2 HAP HAP2
          go_wp2
          go_loopw [18] (fun i wr => w15 = wr ∧ ∃ j : Nat, i = .int .i64 (j : Int) ∧ j ≤ n + 1) (fun i _ => n + 1 - (Lib.intOf i).toNat)
          case atStart => exact ⟨rfl, 0, rfl, by omega⟩
          case round =>
            obtain ⟨rfl, j, rfl, hj⟩ := hrel
            by_cases hjl : (j : Int) < (n : Int) + 1
            · have hj0 : (0 : Int) ≤ (j : Int) := by omega
              have hv : w15.cell? ⟨vb, j, none⟩ = some (.int .u8 (200 + (k : Int))) := by
                have h1 := (OB.at_ HF2'.out (j := j) (by simp; omega)).1
                rw [h1, List.getElem_replicate, HMI2.out]
              by_cases hjn : (j : Int) < (n : Int)
              · obtain ⟨gb0, go0, rfl, hc0, hgc⟩ : ∃ b o, gp = some ⟨b, o, none⟩ ∧ w15.cell? ⟨b, o + j, none⟩ = some (.int .u8 (200 + (k : Int))) ∧ (n : Int) ≤ (gc : Int) := by
                  obtain ⟨p0, c0, e0, h1, h2, h3⟩ := HF1.out
                  simp only [Value.slice.injEq] at e0
                  obtain ⟨rfl, -, rfl⟩ := e0
                  simp only [List.length_replicate] at h1
                  obtain ⟨b, o, arr, t, fz, rfl, hh, hx⟩ := h3 (by omega)
                  refine ⟨b, o, rfl, ?_, by omega⟩
                  rw [hcell_of hh]
                  refine hx j _ ?_
                  rw [List.getElem?_map, List.getElem?_replicate, if_pos (by omega)]
                  show some (Value.int .u8 (m.toNat : Int)) = _
                  rw [HMI2.out]
                have dj1 : decide ((j : Int) < (n : Int)) = true := decide_eq_true hjn
                go_wp2
                go_roundw
                case rel => exact ⟨by trivial, j + 1, by go_num, by omega⟩
                case measure => simp [Lib.intOf]; omega
              · have dj1 : decide ((j : Int) < (n : Int)) = false := decide_eq_false hjn
                go_wp2
                go_roundw
                case rel => exact ⟨by trivial, j + 1, by go_num, by omega⟩
                case measure => simp [Lib.intOf]; omega
            · go_wp2
              go_roundw
              case rel => exact ⟨by trivial, k + 1, by go_num, by omega⟩
              case measure => simp [Lib.intOf]; omega
        · have hhd : OC w15 3 41 (.slice (some ⟨bl, 0, none⟩) 2 cl) [f, f'].length ([f, f'].flatMap LF.enc) := HM.out.get (x := Ent.heads (.slice (some ⟨bl, 0, none⟩) 2 cl) [f, f']) (by simp)
          obtain ⟨z1, z2⟩ := OC.atk hhd (j := 0) (u := .string f.name) (by simp [LF.enc])
          clear hhd
          go_wp2_with (first | (go_at_call 24; refine stop ?_))
          refine go ?_
          have hsub : Many W w15 [Ent.disk d D3 F8, Ent.heads (.slice (some ⟨bl, 0, none⟩) 2 cl) [f, f'], Ent.heads (.slice (some ⟨bm, 0, none⟩) 2 cm) [g, g']] :=
            HM.out.sub (((List.sublist_append_right _ _).cons _).cons _)
          have hlt : bl < w15.heap.size := by
            rcases Nat.lt_or_ge bl w15.heap.size with h | h
            · exact h
            · simp [World.cell?, Array.getElem?_eq_none h] at z1
          have hcl0 : cl ≠ 0 := by omega
          have hc3 : Chg (fun k => k = bl) w15 (w15.setCell ⟨bl, 0, none⟩ (.string ⟨#[122]⟩)) := (Chg.refl (fun k => k = bl) w15).setCell (p := ⟨bl, 0, none⟩) (.inl rfl) _
          have m18 := hsub.swap12.turn (y := Ent.some [bl]) (fun k hk => by
            obtain rfl : k = bl := by simpa using hk
            have h2 := hc3.size
            omega) (good_some _) ⟨hc3.mono fun k hk => .inl (by simp [Ent.heads, hk, sblk_some hcl0]), fun k hk => .inl (by
              obtain rfl : k = bl := by simpa [Ent.some] using hk
              simp [Ent.heads, sblk_some hcl0])⟩
          have M18 := Lib.hid m18.swap12
          clear hsub m18 hc3 z1 z2 hlt
          refine (files_any HFN.out M18.out.first).mono ?_
          rintro e w16 ⟨v, l, rfl, f1, f2, f3, f4⟩
          rw [HD3.out] at f2
          obtain ⟨h, h', rfl, hf2⟩ := two_of f2
          obtain ⟨pn, cn, rfl, hlc, -⟩ := id f1.sl
          have ilc3 : (2 : Int) ≤ (cn : Int) := by simp at hlc; omega
          obtain ⟨bn, x, rfl, hx, hox, -, y0, y1, -⟩ := f1.file (k := 0) (by simp)
          obtain rfl : h = x := by simpa using hx
          obtain ⟨bn', x', he, hx', hox', -, u0, u1, -⟩ := f1.file (k := 1) (by simp)
          obtain rfl : bn = bn' := by simpa using he
          obtain rfl : h' = x' := by simpa using hx'
          obtain ⟨e1, e2⟩ : h.name = ⟨#[97]⟩ ∧ h.bytes = X ++ [112] := by have := hf2.1; simp [LF.fl, nA] at this; exact ⟨this.1, this.2.1⟩
          obtain ⟨g1, g2⟩ : h'.name = ⟨#[98]⟩ ∧ h'.bytes = Y ++ [101] := by have := hf2.2; simp [LF.fl, nB] at this; exact ⟨this.1, this.2.1⟩
          have esv : h.sv = .slice h.p (X.length + 1) h.cap := by unfold LF.sv; rw [e2]; simp
          have gsv : h'.sv = .slice h'.p (Y.length + 1) h'.cap := by unfold LF.sv; rw [g2]; simp
          rw [esv] at y1 hox
          rw [gsv] at u1 hox'
          rw [e1] at y0
          rw [g1] at u0
          rw [e2] at hox
          rw [g2] at hox'
          simp only [Nat.zero_mul, Nat.zero_add, Nat.one_mul] at y0 y1 u0 u1
          have hcv1 : (convert 22 9 (.slice h.p (X.length + 1) h.cap)).run Try.prog w16.drew = .ok (.string ⟨(X ++ [112]).toArray⟩) w16.drew := run_toString (P := Try.prog) w16.drew 22 9 5 Try.underlying22 Try.underlying5 Try.underlying9 (RC.chg (OB.rb hox) ((Chg.refl (fun _ => False) w16).drew) fun _ _ h => h)
          have hcv2 : (convert 22 9 (.slice h'.p (Y.length + 1) h'.cap)).run Try.prog w16.drew = .ok (.string ⟨(Y ++ [101]).toArray⟩) w16.drew := run_toString (P := Try.prog) w16.drew 22 9 5 Try.underlying22 Try.underlying5 Try.underlying9 (RC.chg (OB.rb hox') ((Chg.refl (fun _ => False) w16).drew) fun _ _ h => h)
          have hch : Chg (fun _ => False) W w16 := M18.out.chg.trans f4 fun _ h => h.elim
          have hcv3 : (convert 22 9 (.slice py Y.length cy)).run Try.prog w16.drew = .ok (.string ⟨Y.toArray⟩) w16.drew := run_toString (P := Try.prog) w16.drew 22 9 5 Try.underlying22 Try.underlying5 Try.underlying9 (RC.chg HY.out hch.drew fun _ _ h => h)
          have hbq : ((⟨Y.toArray⟩ : ByteArray) ++ ⟨#[101]⟩) = ⟨(Y ++ [101]).toArray⟩ := by apply bytes_ext; simp [ByteArray.data_append]
          have hbx := (hch.block _ (hlt_of HB0.out) (fun h => h)).trans HB0.out
          have q1 := hcell_of hbx 1
          simp only [List.getElem?_toArray, List.getElem?_cons_zero, List.getElem?_cons_succ] at q1
          have HCH := Lib.hid hch
          clear f1 f2 f3 f4 hx hx' he hox hox' e1 e2 g1 g2 esv gsv hf2 hlc hch hbx hkl hk
          go_wp2
          refine Rx.ws_region (fun _ => True) [(0, .r), (1, .r), (2, .r), (3, .r), (4, .r), (5, .r), (6, .r), (7, .r), (8, .r), (9, .r), (10, .r), (11, .r), (12, .r), (13, .r), (14, .r), (15, .r), (16, .r), (17, .r), (18, .r), (19, .r), (20, .r), (21, .r), (22, .r), (23, .r), (24, .r), (25, .r), (26, .r), (27, .r), (28, .r), (29, .r), (30, .r), (31, .r), (32, .r), (33, .r), (34, .r), (35, .r), (36, .r), (37, .r), (38, .r)] (by kernel_rfl) (by kernel_rfl) trivial (fun _ _ x _ _ h => (by cases x <;> exact h)) ?_
          iterate 39 (refine Rx.ws_q rfl rfl ?_; go_wp2; refine Rx.atS_mk ?_)
          refine Rx.ws_nil ?_
          go_wp2
          go_ret
          refine ⟨?_, HWC.out.trans HCH.out.drew fun _ h => h.elim⟩
          first
            | rfl
            | (rw [hbq]; rfl)
            | (simp [hbq]; done)
end
end Go.Proofs
