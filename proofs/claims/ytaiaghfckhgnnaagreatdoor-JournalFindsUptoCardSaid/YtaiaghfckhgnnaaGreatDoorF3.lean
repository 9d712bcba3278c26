/- fits, where the record that the crash has met is found too; whole. Conditions: the house lies as the pieces say; numbers are small. -/
import Derived.Test.YtaiaghfckhgnnaaGreatDoorF1
namespace Go.Proofs
open Go.RowKit Go.Hp Go.Dm Go.Dr Go.Jn
set_option linter.unusedVariables false
set_option maxRecDepth 10000
section
variable {w : World} {hb d j su : Nat} {hp p lp : Option Addr} {hc c lc : Nat} {kp : Int} {hs ls : List LF} {x : LF} {lv : Value}
set_option maxHeartbeats 16000000 in
/-- fits: all, and the last one -/
theorem fits_last (hbx : w.heap[hb]? = some (houseO d j (.slice hp hs.length hc) su (.slice lp 1 lc) kp)) (hh : RRows w (.slice hp hs.length hc) hs) (hq : RRows w (.slice lp 1 lc) [x]) (hl : RRows w (.slice p ls.length c) ls) (hn : hs.length ≤ 1048576) (hsu : su ≤ ls.length)
    (hle : ls.length = hs.length + 1) (he : ls.map LF.bytes = hs.map LF.bytes ++ [x.bytes]) :
    Calls Tryz.prog 61 #[.pointer (some ⟨hb, 0, none⟩), .slice p ls.length c] w fun e w' => e = .returned (.bool true) ∧ Chg (fun _ => False) w w' := by
  unfold houseO at hbx
  have q2 := hcell_of hbx 2
  have q3 := hcell_of hbx 3
  have q4 := hcell_of hbx 4
  simp only [List.getElem?_toArray, List.getElem?_cons_zero, List.getElem?_cons_succ] at q2 q3 q4
  have hka : (ls.take hs.length).length = hs.length := by rw [List.length_take]; omega
  have hrr : RRows w (.slice p (ls.take hs.length).length c) (ls.take hs.length) := by rw [hka]; exact hl.pre (by omega)
  have hdr := (Chg.refl (fun _ => False) w).drew
  have heq := eqAll_same (w := w.drew) (hrr.chg hdr) (hh.chg hdr) (by rw [List.map_take, he, List.take_append_of_le_length (by rw [List.length_map]; omega), List.take_of_length_le (by rw [List.length_map]; omega)]) (by omega)
  rw [hka] at heq
  have HEQ := Lib.hid heq
  obtain ⟨y, hy⟩ : ∃ y, ls[hs.length]? = some y := ⟨_, List.getElem?_eq_getElem (by omega)⟩
  have hyx : y.bytes = x.bytes := by
    have h1 : (ls.map LF.bytes)[hs.length]? = some y.bytes := by rw [List.getElem?_map, hy]; rfl
    rw [he, List.getElem?_append_right (by rw [List.length_map]; omega)] at h1
    simpa [List.length_map] using h1.symm
  obtain ⟨b1, o1, rfl, -, hc1, r1, rb1⟩ := hl.at_ hy
  obtain ⟨b2, o2, rfl, -, hc2, r2, rb2⟩ := hq.at_ (k := 0) (x := x) rfl
  have heq2 := fun w' (hC : Chg (fun _ => False) w w') => leq_any (w := w') (RC.chg rb1 hC fun _ _ h => h) (RC.chg rb2 hC fun _ _ h => h) hyx
  have HEQ2 := Lib.hid heq2
  obtain ⟨_, _, e0, hcr, -⟩ := hh.rc
  simp only [Value.slice.injEq] at e0
  obtain ⟨-, -, rfl⟩ := e0
  rw [hle] at hc1 ⊢
  obtain ⟨n, hn2⟩ : ∃ n, n = hs.length := ⟨_, rfl⟩
  rw [← hn2] at q2 HEQ r1 hc1 ⊢
  have i2 : (n : Int) + 1 ≤ (c : Int) := by omega
  have i2b : (n : Int) ≤ (c : Int) := by omega
  have i3 : (su : Int) ≤ (n : Int) + 1 := by omega
  have i5 : (1 : Int) ≤ (lc : Int) := by omega
  have d1 : decide ((n : Int) + 1 < (su : Int)) = false := decide_eq_false (by omega)
  have d1n : decide (n + 1 < su) = false := decide_eq_false (by omega)
  have d2 : decide ((n : Int) + 1 ≤ (n : Int)) = false := decide_eq_false (by omega)
  have d2n : decide (n + 1 ≤ n) = false := decide_eq_false (by omega)
  have i4 : (n : Int) ≤ 1048576 := by omega
  have in0 : (0 : Int) ≤ (n : Int) := by omega
  obtain ⟨yl, hyl⟩ : ∃ yl, yl = y.bytes.length := ⟨_, rfl⟩
  obtain ⟨xl, hxl⟩ : ∃ xl, xl = x.bytes.length := ⟨_, rfl⟩
  rw [← hyl] at r1 HEQ2
  rw [← hxl] at r2 HEQ2
  simp only [Nat.add_zero] at r2
  have HQ := Lib.hid (And.intro q2 (And.intro q4 (And.intro r1 r2)))
  clear hbx hh hl hq hn hsu hle he hka hrr heq heq2 hcr hn2 hy hyx rb1 rb2 hdr hc1 hc2 hyl hxl r1 r2
  go_enter Tryz.func61, Tryz.ntmps61
  go_wp2
  refine Rx.ws_region (fun _ => True) [(0, .r), (1, .r), (2, .r), (3, .r), (4, .r), (5, .r), (6, .r), (7, .r), (8, .r), (9, .r), (10, .r), (11, .r), (12, .r), (13, .r), (14, .r), (15, .r), (16, .r), (17, .r), (18, .r), (19, .r), (20, .r), (21, .e), (22, .r), (23, .r), (24, .r), (25, .r), (26, .r), (27, .r), (28, .r), (29, .r), (30, .r), (31, .r), (32, .r), (33, .r), (34, .e), (35, .r), (36, .r)] (by kernel_rfl) (by kernel_rfl) trivial (fun _ _ x _ _ h => (by cases x <;> exact h)) ?_
  iterate 21 (refine Rx.ws_q rfl rfl ?_; go_wp2; refine Rx.atS_mk ?_)
  refine Rx.ws_e rfl ?_
  go_wp2_with (first | (go_at_call 12; refine stop ?_))
  refine go ?_
  refine HEQ.out.mono ?_
  rintro e w1 ⟨rfl, c1⟩
  have C1 := Lib.hid (((Chg.refl (fun _ => False) w).drew).trans c1 fun _ h => h.elim)
  have k2 := Chg.cellSome C1.out HQ.out.1
  have k4 := Chg.cellSome C1.out HQ.out.2.1
  have e1 := Chg.cellSome C1.out HQ.out.2.2.1
  have e2 := Chg.cellSome C1.out HQ.out.2.2.2
  clear c1 q2 q3 q4
  go_wp2
  refine ⟨trivial, ?_⟩
  iterate 12 (refine Rx.ws_q rfl rfl ?_; go_wp2; refine Rx.atS_mk ?_)
  refine Rx.ws_e rfl ?_
  go_wp2_with (first | (go_at_call 41; refine stop ?_))
  refine go ?_
  refine (HEQ2.out _ C1.out).mono ?_
  rintro e w' ⟨rfl, rfl⟩
  go_wp2
  refine ⟨trivial, ?_⟩
  iterate 2 (refine Rx.ws_q rfl rfl ?_; go_wp2; refine Rx.atS_mk ?_)
  refine Rx.ws_nil ?_
  go_wp2
  go_ret
  exact ⟨rfl, C1.out⟩
/-- what the crash's Append has met, as it lies in a House -/
def LastAt (w : World) (lv : Value) (last : List (List UInt8)) : Prop := lv = .slice none 0 0 ∧ last = [] ∨ ∃ lp lc x, lv = .slice lp 1 lc ∧ RRows w lv [x] ∧ last = [x.bytes]
set_option maxHeartbeats 16000000 in
theorem hwhole_any {last : List (List UInt8)} {loose : Nat} (hbx : w.heap[hb]? = some (houseO d j (.slice hp hs.length hc) su lv kp)) (hh : RRows w (.slice hp hs.length hc) hs) (hla : LastAt w lv last) (hsu : su ≤ hs.length) (hn : hs.length ≤ 1000)
    (hr : ∀ r ∈ hs.map LF.bytes ++ last, r.length ≤ 200) (hlo : loose ≤ 1000000) :
    Calls Tryz.prog 47 #[.pointer (some ⟨hb, 0, none⟩), .int .i64 (loose : Int)] w fun e w' => e = .returned (.int .i64 (wholeN (hs.map LF.bytes ++ last) su loose : Int)) ∧ w = w' := by
  unfold houseO at hbx
  have q2 := hcell_of hbx 2
  have q3 := hcell_of hbx 3
  have q4 := hcell_of hbx 4
  simp only [List.getElem?_toArray, List.getElem?_cons_zero, List.getElem?_cons_succ] at q2 q3 q4
  have HH := Lib.hid (And.intro hh (And.intro hla hr))
  obtain ⟨N, hN⟩ : ∃ N, N = hs.length := ⟨_, rfl⟩
  rw [← hN] at q2
  have HN := Lib.hid hN
  have iN : (N : Int) ≤ 1000 := by omega
  have isu : (su : Int) ≤ (N : Int) := by omega
  have ilo : (loose : Int) ≤ 1000000 := by omega
  obtain ⟨_, _, e0, hcr, -⟩ := hh.rc
  simp only [Value.slice.injEq] at e0
  obtain ⟨-, -, rfl⟩ := e0
  have ihc : (N : Int) ≤ (hc : Int) := by omega
  clear hbx hh hla hsu hn hr hlo hN hcr
  go_enter Tryz.func47, Tryz.ntmps47
  go_wp2
  go_loopw [1, 5] (fun t1 t5 wr => w = wr ∧ ∃ n k : Nat, t1 = .int .i64 (k : Int) ∧ t5 = .int .i64 (n : Int) ∧ n ≤ N ∧ k ≤ loose ∧ wholeN (hs.map LF.bytes ++ last) su loose = wholeN (hs.map LF.bytes ++ last) n k) (fun _ t5 _ => N - (Lib.intOf t5).toNat)
  case atStart => exact ⟨rfl, su, loose, rfl, rfl, by omega, Nat.le_refl _, rfl⟩
  case round =>
    obtain ⟨rfl, n, k, rfl, rfl, hnN, hkl, hW⟩ := hrel
    have HW := Lib.hid hW
    have in0 : (0 : Int) ≤ (n : Int) := by omega
    have ik0 : (0 : Int) ≤ (k : Int) := by omega
    have ikl : (k : Int) ≤ (loose : Int) := by omega
    clear hW
    by_cases hlt : (n : Int) < (N : Int)
    · have d1 : decide ((n : Int) < (N : Int)) = true := decide_eq_true hlt
      have d1n : decide (n < N) = true := decide_eq_true (by omega)
      have ne1 : ((n : Int) == (N : Int)) = false := by rw [beq_eq_false_iff_ne]; omega
      have ne2 : (n == N) = false := by rw [beq_eq_false_iff_ne]; omega
      obtain ⟨x, hx⟩ : ∃ x, hs[n]? = some x := ⟨_, List.getElem?_eq_getElem (by have := HN.out; omega)⟩
      have hfx : (hs.map LF.bytes ++ last)[n]? = some x.bytes := by
        rw [List.getElem?_append_left (by rw [List.length_map]; have := HN.out; omega), List.getElem?_map, hx]; rfl
      have hx2 := HH.out.2.2 x.bytes (List.mem_of_getElem? hfx)
      obtain ⟨b1, o1, rfl, -, hc1, r1, -⟩ := HH.out.1.at_ hx
      obtain ⟨xl, hxl⟩ : ∃ xl, xl = x.bytes.length := ⟨_, rfl⟩
      rw [← hxl] at r1 hx2
      have ixl : (xl : Int) ≤ 200 := by omega
      have ixl0 : (0 : Int) ≤ (xl : Int) := by omega
      have HX := Lib.hid (And.intro hfx hxl)
      clear hx hfx hx2 hxl hc1
      by_cases hk : (16 : Int) + (xl : Int) ≤ (k : Int)
      · have d2 : decide ((16 : Int) + (xl : Int) ≤ (k : Int)) = true := decide_eq_true hk
        obtain ⟨k2, hk2⟩ : ∃ k2, k = k2 + xl + 16 := ⟨k - 16 - xl, by omega⟩
        have hst := whole_step HX.out.1 (k := k) (by rw [← HX.out.2]; omega)
        rw [← HX.out.2, show k - 16 - xl = k2 by omega] at hst
        have HST := Lib.hid hst
        have ek : (k : Int) - 16 - (xl : Int) = (k2 : Int) := by omega
        have HK2 := Lib.hid hk2
        clear hst hk2
        go_wp2
        go_roundw
        case rel => exact ⟨by trivial, n + 1, k2, by simp, by go_num, by omega, by have := HK2.out; omega, by rw [HW.out, HST.out]⟩
        case measure => simp [Lib.intOf]; omega
      · have d2 : decide ((16 : Int) + (xl : Int) ≤ (k : Int)) = false := decide_eq_false hk
        have hst := whole_stop HX.out.1 (k := k) (by rw [← HX.out.2]; omega)
        have HST := Lib.hid (HW.out.trans hst)
        clear hst
        go_wp2
        go_ret
        rw [HST.out]
        exact ⟨rfl, rfl⟩
    · have d1 : decide ((n : Int) < (N : Int)) = false := decide_eq_false hlt
      have d1n : decide (n < N) = false := decide_eq_false (by omega)
      obtain rfl : n = N := by omega
      rcases HH.out.2.1 with ⟨hlv, hla⟩ | ⟨lp, lc, x, hlv, hq, hla⟩
      · rw [hlv] at q4
        have hst : wholeN (hs.map LF.bytes ++ last) n k = n := by
          have e : n = (hs.map LF.bytes ++ last).length := by rw [hla, List.append_nil, List.length_map]; exact HN.out
          rw [e]; exact wholeN_end _
        have HST := Lib.hid (HW.out.trans hst)
        clear hst hlv hla
        go_wp2
        go_ret
        rw [HST.out]
        exact ⟨rfl, rfl⟩
      · rw [hlv] at q4 hq
        have hfx : (hs.map LF.bytes ++ last)[n]? = some x.bytes := by
          rw [hla, List.getElem?_append_right (by rw [List.length_map]; have := HN.out; omega), List.length_map, HN.out, Nat.sub_self]; rfl
        have hx2 := HH.out.2.2 x.bytes (List.mem_of_getElem? hfx)
        obtain ⟨b2, o2, rfl, -, hc2, r2, -⟩ := hq.at_ (k := 0) (x := x) rfl
        simp only [Nat.add_zero] at r2
        have hfull : (hs.map LF.bytes ++ last).length = n + 1 := by rw [hla, List.length_append, List.length_map, ← HN.out]; rfl
        obtain ⟨xl, hxl⟩ : ∃ xl, xl = x.bytes.length := ⟨_, rfl⟩
        rw [← hxl] at r2 hx2
        have ixl : (xl : Int) ≤ 200 := by omega
        have ixl0 : (0 : Int) ≤ (xl : Int) := by omega
        have i5 : (1 : Int) ≤ (lc : Int) := by omega
        have HX := Lib.hid (And.intro hfx (And.intro hxl hfull))
        clear hfx hx2 hxl hc2 hlv hla hq hfull
        by_cases hk : (16 : Int) + (xl : Int) ≤ (k : Int)
        · have d2 : decide ((16 : Int) + (xl : Int) ≤ (k : Int)) = true := decide_eq_true hk
          have hst := whole_step HX.out.1 (k := k) (by rw [← HX.out.2.1]; omega)
          rw [← HX.out.2.2, wholeN_end] at hst
          have HST := Lib.hid (HW.out.trans (hst.trans HX.out.2.2))
          clear hst
          go_wp2
          go_ret
          rw [HST.out]
          exact ⟨by simp, rfl⟩
        · have d2 : decide ((16 : Int) + (xl : Int) ≤ (k : Int)) = false := decide_eq_false hk
          have hst := whole_stop HX.out.1 (k := k) (by rw [← HX.out.2.1]; omega)
          have HST := Lib.hid (HW.out.trans hst)
          clear hst
          go_wp2
          go_ret
          rw [HST.out]
          exact ⟨rfl, rfl⟩
end
end Go.Proofs
