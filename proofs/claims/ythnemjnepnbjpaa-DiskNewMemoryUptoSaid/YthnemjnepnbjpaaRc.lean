/- The document's disk: Size, Append. Conditions: the disk lies as RRep says; at most 2^40 files. -/
import Derived.Test.YthnemjnepnbjpaaRb
namespace Go.Proofs
open Go.RowKit Go.Hp Go.Dm Go.Dr
set_option linter.unusedVariables false
set_option maxRecDepth 10000

section
variable {w w' : World} {r : Nat} {D D' : Dk} {K K' L : Int} {v : Value} {l : List RF} {G : List Nat} {nm : ByteArray}

set_option maxHeartbeats 1000000 in
theorem rsize_any (hs : nm.size ≤ maxLen) (hN : D.files.length ≤ 1099511627776) (h : RRep w r D G) :
    Calls Try.prog 68 #[.pointer (some ⟨r, 0, none⟩), .string nm] w fun e w' => e = .returned (.tuple #[.int .i64 ((D.size nm).1 : Int), .int .i64 ((D.size nm).2.1 : Int), .int .i64 ((D.size nm).2.2 : Int)]) ∧ Chg (fun _ => False) w w' := by
  unfold Dk.size
  by_cases hl : D.look nm = 0
  · rw [if_pos hl]
    obtain ⟨fb, fs, hg⟩ := rlook_zero hl
    have hlen : lenOf D.files nm = fb.length := by unfold lenOf; rw [hg]
    have hsure : sureOf D.files nm = fs := by unfold sureOf; rw [hg]
    have HCODE := Lib.hid ((lookC_true D nm).trans hl)
    have HLK := Lib.hid (rlook_any true hs hN h)
    have HG := Lib.hid hg
    rw [hlen, hsure]
    clear hl hg hs hN h hlen hsure
    go_enter Try.func68, Try.ntmps68
    go_wp2_with (first | (go_at_call 92; refine stop ?_))
    refine go ?_
    refine HLK.out.mono ?_
    rintro e w2 ⟨a, b, p, n, c, s, rfl, hfi, hc⟩
    rw [HCODE.out]
    unfold fileV
    obtain ⟨rfl, rfl, hnc, hrb⟩ := looked_file HG.out (hfi HCODE.out rfl)
    have HC := Lib.hid hc
    clear hfi hc hnc hrb
    go_wp2
    refine Rx.wp_region_sched (fun _ => True) [(0, .r), (1, .r), (2, .r), (3, .r), (4, .r), (5, .r), (6, .r), (7, .r)] (by kernel_rfl) (by kernel_rfl) trivial (fun _ _ x _ _ h => (by cases x <;> exact h)) ?_
    iterate 8 (refine Rx.wpSched_q rfl rfl ?_; go_wp2; refine ⟨rfl, ?_⟩)
    refine Rx.wpSched_nil ?_
    go_wp2
    go_ret3
    exact ⟨rfl, (HC.out.alloc _).drew⟩
  · rw [if_neg hl]
    have hcd : ((lookC D nm true : Nat) : Int) ≠ 0 := by rw [lookC_true]; omega
    have HLK := Lib.hid (rlook_any true hs hN h)
    have HH := Lib.hid h
    rw [← lookC_true] at *
    generalize hcdg : lookC D nm true = cd at *
    have g0 : ((cd : Int) != 0) = true := by simpa using hcd
    have HCD := Lib.hid hcdg
    clear hcd hl hs hN h hcdg
    go_enter Try.func68, Try.ntmps68
    go_wp2_with (first | (go_at_call 92; refine stop ?_))
    refine go ?_
    refine HLK.out.mono ?_
    rintro e w2 ⟨a, b, p, n, c, s, rfl, -, hc⟩
    rw [HCD.out]
    have HC := Lib.hid hc
    clear hc
    unfold fileV
    go_wp2
    go_ret3
    exact ⟨rfl, HC.out.alloc _⟩

/-- the slice's first n bytes -/
theorem rb_first {p : Option Addr} {c : Nat} {bs : List UInt8} (h : RB w (.slice p bs.length c) bs) (n : Nat) (hn : n ≤ bs.length) : RB w (.slice p n c) (bs.take n) := RB.takeP h n hn

set_option maxHeartbeats 4000000 in
theorem rappend_any {bv : Value} {bs : List UInt8} (hbl : bs.length ≤ 140737488355328) (hs : nm.size ≤ maxLen) (hN : D.files.length + 1 ≤ 1099511627776) (h : RRep w r D G) (hb : RB w bv bs) (hap : ∀ k, sblk bv = some k → k ∉ G) :
    Calls Try.prog 63 #[.pointer (some ⟨r, 0, none⟩), .string nm, bv] w fun e w' =>
      e = .returned (.tuple #[.int .i64 ((D.append nm bs).1.1 : Int), .int .i64 ((D.append nm bs).1.2 : Int)]) ∧ RLeft w r G (D.append nm bs).2 w' := by
  obtain ⟨pb, cb, rfl, hlb, -⟩ := id hb
  have HLK := Lib.hid (rlook_any false hs (by omega) h)
  by_cases hl : D.look nm = 0 ∨ D.look nm = 112
  · have hcode : lookC D nm false = 0 := by
      rw [lookC_false]
      rcases hl with hl | hl
      · rw [hl]; rfl
      · rw [hl]; rfl
    rw [append_eq hl rfl]
    have HCODE := Lib.hid hcode
    have HUS := Lib.hid fun W (hW : RRep W r D G) => rused_any (by omega) hW
    have HH := Lib.hid h
    have HB := Lib.hid hb
    have hu := h.ok.used
    have hlim := h.ok.limit
    obtain ⟨nn, hnn⟩ : ∃ nn, min bs.length (D.limit - D.used) = nn := ⟨_, rfl⟩
    have hnl : nn ≤ bs.length := by omega
    have hmin : min (bs.length : Int) ((D.limit : Int) - (D.used : Int)) = (nn : Int) := by omega
    have hub : (D.used : Int) ≤ (D.limit : Int) := by omega
    have hlb2 : (D.limit : Int) ≤ 1099511627776 := by omega
    have hnci : (bs.length : Int) ≤ cb := by omega
    have hnni : (nn : Int) ≤ (bs.length : Int) := by omega
    rw [hnn]
    have HNN := Lib.hid hnn
    have HNL := Lib.hid hnl
    have HN := Lib.hid hN
    have HBL := Lib.hid hbl
    have HAP := Lib.hid hap
    generalize hb4 : bs.take nn = b4
    have HB4 := Lib.hid hb4
    generalize hR : (if D.fires = true then ((0, 110), Dk.lose _ _) else _ : (Nat × Nat) × Dk) = R
    have HR := Lib.hid hR
    clear hR hb4 hap hl hcode hs hN h hb hu hlim hnn hnl hlb
    go_enter Try.func63, Try.ntmps63
    go_wp2_with (first | (go_at_call 92; refine stop ?_))
    refine go ?_
    refine HLK.out.mono ?_
    rintro e w2 ⟨a, b, p, n, c, s, rfl, -, hc⟩
    rw [HCODE.out]
    unfold fileV
    have h2 := rrep_alloc (HH.out.chg hc fun _ _ h => h) (.cells #[.string a, .bool b, .slice p n c, .int .i64 (s : Int)] 130)
    have HUS2 := Lib.hid (HUS.out _ h2)
    obtain ⟨K, vv, l, hr2, hG⟩ := id h2
    obtain ⟨c0, c1, c2, c3, c4, fz⟩ := hr2.cells
    have HFI := Lib.hid (rfires_any h2)
    have HC := Lib.hid (hc.alloc (.cells #[.string a, .bool b, .slice p n c, .int .i64 (s : Int)] 130))
    clear c1 c2 c3 c4 fz hr2 hG h2 hc
    go_wp2_with (first | (go_at_call 70; refine HUS2.out.mono ?_; rintro e w' ⟨rfl, rfl⟩) | (go_at_call 93; refine stop ?_))
    refine go ?_
    refine HFI.out.mono ?_
    rintro e w3 ⟨rfl, h3, v3⟩
    have hrb3 : RB w3 (.slice pb nn cb) b4 := by
      have h1 := RC.chg (RC.chg HB.out HC.out fun _ _ h => h) v3.chg fun k hk hG => HAP.out k hk hG
      have h2 := RB.takeP h1 nn HNL.out
      rw [HB4.out] at h2
      exact h2
    have hbl4 : b4.length = nn := by have h1 := HNL.out; rw [← HB4.out, List.length_take]; omega
    have hcp := rcopied_any (w := w3) (by have := HBL.out; have := HNL.out; omega) hrb3
    have HCP := Lib.hid hcp
    have H3 := Lib.hid h3
    have V3 := Lib.hid v3
    have HBL4 := Lib.hid hbl4
    clear h3 v3 hrb3 hbl4 hcp c0
    go_wp2_with (first | (go_at_call 91; refine stop ?_))
    refine go ?_
    refine HCP.out.mono ?_
    rintro e w4 ⟨v4, rfl, o4, g4, n4⟩
    obtain ⟨p4, c4, rfl, -⟩ := id o4
    have hd := rdid_put (w := w4) (nm := nm) (q := 0) (m := 0) b4 o4.rb (by
      show b4.length ≤ D.limit - D.used
      have := HBL4.out; have := HNN.out; omega) (show D.tick.files.length ≤ _ by have h1 := HN.out; show D.files.length ≤ _; omega) (H3.out.chg g4 fun _ _ h => h)
    unfold deedV at hd
    have HD := Lib.hid hd
    have G4 := Lib.hid g4
    clear o4 g4 n4 hd
    go_wp2_with (first | (go_at_call 94; refine stop ?_))
    refine go ?_
    refine HD.out.mono ?_
    rintro e w5 ⟨rfl, G5, h5, v5⟩
    have HE5 : Hid (Ev G G5 w w5) := Lib.hid (((((⟨HC.out.mono fun k hk => hk.elim, fun k hk => .inl hk⟩ : Ev G G w _).trans V3.out).quiet G4.out).trans v5))
    by_cases hf : D.fires = true
    · rw [hf]
      have HF := Lib.hid hf
      have hst1 : D.steps = 1 := fires_eq hf
      obtain ⟨kk, hkk⟩ : ∃ kk : Nat, D.keep = (kk : Int) := Int.eq_ofNat_of_zero_le (HH.out.ok.armed (by rw [hst1]; simp))
      obtain ⟨K5, vv5, l5, hr5, hG5⟩ := id h5
      obtain ⟨d0, d1, d2, d3, d4, dz⟩ := hr5.cells
      have hK5 : K5 = D.keep := hr5.keep
      rw [hK5, hkk] at d4
      have hfa := rfalls_any kk (by have := HH.out.ok.keepHi; omega) (show (putB nm b4 D.files).length ≤ _ from Nat.le_trans (len_putB nm b4 D.files) HN.out) h5
      have HFA := Lib.hid hfa
      have HKK := Lib.hid hkk
      clear d0 d1 d2 d3 dz hr5 hG5 hK5 hkk hst1 hfa h5 v5 hf
      go_wp2_with (first | (go_at_call 95; refine HFA.out.mono ?_; rintro e w6 ⟨rfl, hl6⟩))
      go_ret2
      obtain ⟨G6, h6, v6⟩ := hl6
      have hr := HR.out
      rw [if_pos HF.out, show D.keep.toNat = kk by rw [HKK.out]; rfl] at hr
      subst hr
      exact ⟨rfl, G6, h6, HE5.out.trans v6⟩
    · have hf' : D.fires = false := by simpa using hf
      rw [hf']
      have HF := Lib.hid hf
      have H5 := Lib.hid h5
      clear hf hf' h5 v5
      by_cases hlt : (nn : Int) < bs.length
      · have hlt2 : nn < bs.length := by omega
        go_wp2
        go_ret2
        have hr := HR.out
        rw [if_neg HF.out] at hr
        subst hr
        refine ⟨?_, G5, H5.out, HE5.out⟩
        simp [hlt2]
      · have hlt2 : ¬ nn < bs.length := by omega
        go_wp2
        go_ret2
        have hr := HR.out
        rw [if_neg HF.out] at hr
        subst hr
        refine ⟨?_, G5, H5.out, HE5.out⟩
        simp [hlt2]
  · have e : D.append nm bs = ((0, D.look nm), D) := by unfold Dk.append; rw [if_neg hl]
    have hcode : lookC D nm false = D.look nm := by
      rw [lookC_false, if_neg (by omega)]
    rw [e]
    have HCD := Lib.hid hcode
    have g0 : ((D.look nm : Int) != 0) = true := by simp; omega
    have HH := Lib.hid h
    clear hl hcode hs hN h hb e hbl hap hlb
    generalize D.look nm = cd at *
    go_enter Try.func63, Try.ntmps63
    go_wp2_with (first | (go_at_call 92; refine stop ?_))
    refine go ?_
    refine HLK.out.mono ?_
    rintro e w2 ⟨a, b, p, n, c, s, rfl, -, hc⟩
    rw [HCD.out]
    have HC := Lib.hid hc
    clear hc
    unfold fileV
    go_wp2
    go_ret2
    exact ⟨rfl, RLeft.same HH.out (HC.out.alloc _)⟩
end
end Go.Proofs
