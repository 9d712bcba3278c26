/- frame.First and journal.record. Conditions: the bytes are read, at most 2^40; the table lies as it was laid. -/
import Derived.Test.YtaiaghfckhgnnaaGreatDoorJh
namespace Go.Proofs
open Go.RowKit Go.Hp Go.Dm Go.Dr Go.Jn
set_option linter.unusedVariables false
set_option maxRecDepth 10000
section
variable {w : World} {bs : List UInt8} {p : Option Addr} {c : Nat}
theorem whole_end {b : List UInt8} (h : (jwhole b).2 = 0) : 12 ≤ (jwhole b).1 ∧ (jwhole b).1 ≤ b.length := by
  revert h
  unfold jwhole
  split
  · simp
  · split
    · simp
    · split
      · simp
      · rename_i hm0 m1 r2
        split
        · simp
        · split
          · simp
          · split
            · simp
            · simp only
              split
              · simp
              · split
                · simp
                · split
                  · simp
                  · rename_i hl _
                    intro _
                    simp only
                    omega
set_option maxHeartbeats 4000000 in
theorem first_any (hg : Gl w) (hb : RB w (.slice p bs.length c) bs) (hl : bs.length ≤ 1099511627776) :
    Calls Tryz.prog 39 #[.slice p bs.length c] w fun e w' => ∃ v, e = .returned (.tuple #[v, .int .i64 ((jfirst bs).2.1 : Nat), .int .i64 ((jfirst bs).2.2 : Nat)]) ∧ OB w' 5 v (jfirst bs).1 ∧ Chg (fun _ => False) w w' ∧ ∀ b, sblk v = some b → w.heap.size ≤ b := by
  have HW := Lib.hid (whole_any hg hb hl)
  have HB := Lib.hid hb
  have HL := Lib.hid hl
  obtain ⟨E, hE⟩ : ∃ E, E = (jwhole bs).2 := ⟨_, rfl⟩
  obtain ⟨N, hN⟩ : ∃ N, N = (jwhole bs).1 := ⟨_, rfl⟩
  rw [← hE, ← hN] at HW
  have hend : E = 0 → 12 ≤ N ∧ N ≤ bs.length := fun h => by rw [hN]; exact whole_end (by rw [← hE]; exact h)
  have hfst : jfirst bs = if E = 0 then ((bs.drop 12).take (N - 12), N, 0) else ([], 0, E) := by unfold jfirst; rw [← hE, ← hN]
  have HF := Lib.hid hfst
  have ibl : (bs.length : Int) ≤ 1099511627776 := by omega
  clear hg hb hl hE hN hfst
  go_enter Tryz.func39, Tryz.ntmps39
  go_wp2_with (first | (go_at_call 79; refine stop ?_))
  refine go ?_
  refine HW.out.mono ?_
  rintro e w1 ⟨rfl, c1⟩
  have HC1 := Lib.hid c1
  clear c1
  by_cases hE0 : E = 0
  · subst hE0
    obtain ⟨h12, hNl⟩ := hend rfl
    have i12 : (12 : Int) ≤ (N : Int) := by omega
    have iNl : (N : Int) ≤ (bs.length : Int) := by omega
    have hbc : bs.length ≤ c := by obtain ⟨_, _, e, h1, -⟩ := HB.out; simp only [Value.slice.injEq] at e; omega
    have iNc : (N : Int) ≤ (c : Int) := by omega
    have i12c : (12 : Int) ≤ (c : Int) := by omega
    clear hend
    have hlp : 12 ≤ bs.length := by omega
    obtain ⟨x, hx⟩ : ∃ x, bs[0]? = some x := ⟨_, List.getElem?_eq_getElem (by omega)⟩
    obtain ⟨b0, o0, rfl, -, -, -⟩ := RB.at_ HB.out hx
    by_cases hc12 : c = 12
    · have hN12 : N = 12 := by omega
      subst hN12
      subst hc12
      have hrb : RB w (.slice (some ⟨b0, o0, none⟩) 0 0) ((bs.drop 12).take 0) := RB.empty rfl
      have HRB := Lib.hid hrb
      clear hrb hx hlp hNl h12 hbc
      go_wp2_with (first | (at_builtin; refine stop ?_))
      refine go ?_
      refine wpList_append_bytes rfl _ _ rfl (v := .slice none 0 0) (l := []) rfl rfl (OB_nil _ _) (RC.chg HRB.out HC1.out fun _ _ h => h) (by have := HL.out; simp only [List.length_nil, List.length_take, List.length_drop]; omega) ?_
      intro pv lv cv w2 a1 a2 a3 a4
      have H1 := Lib.hid (And.intro a1 (And.intro (HC1.out.trans a2 fun k hk => by cases hk) (show ∀ b, sblk (.slice pv lv cv) = some b → w.heap.size ≤ b from fun b hb => (a3 b hb).elim (fun h => by cases h) fun h => Nat.le_trans HC1.out.size h)))
      clear a1 a2 a3 a4
      go_wp2
      go_ret3
      refine ⟨.slice pv lv cv, ?_, ?_, H1.out.2.1, H1.out.2.2⟩
      · rw [HF.out]; rfl
      · have := H1.out.1
        rw [HF.out]
        simpa using this
    · have hrb := RB.sub (bs := bs) HB.out (i := 12) (j := N) h12 hNl
      have HRB := Lib.hid hrb
      clear hrb hx hlp hNl h12 hbc
      go_wp2_with (first | (at_builtin; refine stop ?_))
      refine go ?_
      refine wpList_append_bytes rfl _ _ rfl (v := .slice none 0 0) (l := []) rfl rfl (OB_nil _ _) (RC.chg HRB.out HC1.out fun _ _ h => h) (by have := HL.out; simp only [List.length_nil, List.length_take, List.length_drop]; omega) ?_
      intro pv lv cv w2 a1 a2 a3 a4
      have H1 := Lib.hid (And.intro a1 (And.intro (HC1.out.trans a2 fun k hk => by cases hk) (show ∀ b, sblk (.slice pv lv cv) = some b → w.heap.size ≤ b from fun b hb => (a3 b hb).elim (fun h => by cases h) fun h => Nat.le_trans HC1.out.size h)))
      clear a1 a2 a3 a4
      go_wp2
      go_ret3
      refine ⟨.slice pv lv cv, ?_, ?_, H1.out.2.1, H1.out.2.2⟩
      · rw [HF.out]; rfl
      · have := H1.out.1
        rw [HF.out]
        simpa using this
  · have hE1 : ((E : Int) == 0) = false := by rw [beq_eq_false_iff_ne]; omega
    clear hend
    have HE0 := Lib.hid hE0
    clear hE0
    go_wp2
    go_ret3
    refine ⟨.slice none 0 0, ?_, ?_, HC1.out, fun b hb => by cases hb⟩
    · rw [HF.out, if_neg HE0.out]; rfl
    · rw [HF.out, if_neg HE0.out]; exact OB_nil _ _
theorem be4_beq {k : Nat} {x0 x1 x2 x3 : UInt8} {ps : List UInt8} (h : ps.take 4 = [x0, x1, x2, x3]) {s0 s1 s2 s3 : UInt8} (hs : be4 k = [s0, s1, s2, s3]) :
    ((x0.toNat : Int) == (s0.toNat : Int) && (x1.toNat : Int) == (s1.toNat : Int) && (x2.toNat : Int) == (s2.toNat : Int) && (x3.toNat : Int) == (s3.toNat : Int)) = decide (ps.take 4 = be4 k) := by
  rw [h, hs]; exact sum_beq
set_option maxHeartbeats 8000000 in
theorem record_any {k : Nat} (hk : k ≤ 2147483647) (hb : RB w (.slice p bs.length c) bs) (hl : bs.length ≤ 1099511627776) :
    Calls Tryz.prog 40 #[.int .i64 (k : Int), .slice p bs.length c] w fun e w' => ∃ v, e = .returned (.tuple #[v, .int .i64 ((jrecord k bs).2 : Nat)]) ∧ OB w' 5 v (jrecord k bs).1 ∧ Chg (fun _ => False) w w' ∧ ∀ b, sblk v = some b → w.heap.size ≤ b := by
  have HB := Lib.hid hb
  have HL := Lib.hid hl
  have HK := Lib.hid hk
  obtain ⟨n, hn⟩ : ∃ n, n = bs.length := ⟨_, rfl⟩
  rw [← hn]
  have HN := Lib.hid hn
  have inl : (n : Int) ≤ 1099511627776 := by omega
  have ik : (k : Int) ≤ 2147483647 := by omega
  have ik0 : (0 : Int) ≤ (k : Int) := by omega
  clear hb hl hk hn
  go_enter Tryz.func40, Tryz.ntmps40
  by_cases hn4 : (n : Int) < 4
  · have hd : decide ((n : Int) < 4) = true := decide_eq_true hn4
    have HN4 := Lib.hid hn4
    clear hn4
    go_wp2
    go_ret2
    have e : jrecord k bs = ([], 102) := by unfold jrecord; rw [if_pos (by have := HN.out; have := HN4.out; omega)]
    rw [e]
    exact ⟨.slice none 0 0, rfl, OB_nil _ _, Chg.refl _ _, fun b hb => by cases hb⟩
  · have hd : decide ((n : Int) < 4) = false := decide_eq_false hn4
    obtain ⟨x0, hx0⟩ : ∃ x, bs[0]? = some x := ⟨_, List.getElem?_eq_getElem (by have := HN.out; omega)⟩
    obtain ⟨x1, hx1⟩ : ∃ x, bs[1]? = some x := ⟨_, List.getElem?_eq_getElem (by have := HN.out; omega)⟩
    obtain ⟨x2, hx2⟩ : ∃ x, bs[2]? = some x := ⟨_, List.getElem?_eq_getElem (by have := HN.out; omega)⟩
    obtain ⟨x3, hx3⟩ : ∃ x, bs[3]? = some x := ⟨_, List.getElem?_eq_getElem (by have := HN.out; omega)⟩
    have hx : bs.take 4 = [x0, x1, x2, x3] := by
      apply List.ext_getElem?
      intro i
      rw [List.getElem?_take]
      match i with
      | 0 => simpa using hx0
      | 1 => simpa using hx1
      | 2 => simpa using hx2
      | 3 => simpa using hx3
      | i + 4 => rw [if_neg (by omega)]; simp
    obtain ⟨b0, o0, rfl, k0, hnc, -⟩ := RB.at_ HB.out hx0
    have hcc : ∀ i x, bs[i]? = some x → w.cell? ⟨b0, o0 + i, none⟩ = some (.int .u8 (x.toNat : Int)) := fun i x hx => by
      obtain ⟨b, o, e, h, -⟩ := RB.at_ HB.out hx
      obtain ⟨rfl, rfl⟩ : b0 = b ∧ o0 = o := by simpa using e
      exact h
    simp only [Nat.add_zero] at k0
    have k1 := hcc 1 x1 hx1
    have k2 := hcc 2 x2 hx2
    have k3 := hcc 3 x3 hx3
    have inc : (n : Int) ≤ (c : Int) := by have := HN.out; omega
    have inc4 : (4 : Int) ≤ (c : Int) := by omega
    have hs4 := s2a4 (some ⟨b0, o0, none⟩) c
    obtain ⟨s0, s1, s2, s3, hs⟩ : ∃ s0 s1 s2 s3, be4 k = [s0, s1, s2, s3] := ⟨_, _, _, _, rfl⟩
    obtain ⟨E, hE⟩ : ∃ E : Bool, E = decide (bs.take 4 = be4 k) := ⟨_, rfl⟩
    have heq : ∀ w : World, (Op.equalIn 10000 102 (.agg #[.int .u8 (x0.toNat : Int), .int .u8 (x1.toNat : Int), .int .u8 (x2.toNat : Int), .int .u8 (x3.toNat : Int)]) (.agg #[.int .u8 (s0.toNat : Int), .int .u8 (s1.toNat : Int), .int .u8 (s2.toNat : Int), .int .u8 (s3.toNat : Int)])).run Tryz.prog w = .ok E w := fun w => by rw [hE, ← be4_beq hx hs]; exact eq4 _ _ _ _ _ _ _ _ w
    have HX := Lib.hid hx
    have HS := Lib.hid hs
    have HE := Lib.hid hE
    clear hcc hx0 hx1 hx2 hx3 hnc hx hs hE
    go_wp2
    refine Rx.ws_region (fun W => W.cell? ⟨b0, o0, none⟩ = some (.int .u8 (x0.toNat : Int)) ∧ W.cell? ⟨b0, o0 + 1, none⟩ = some (.int .u8 (x1.toNat : Int)) ∧ W.cell? ⟨b0, o0 + 2, none⟩ = some (.int .u8 (x2.toNat : Int)) ∧ W.cell? ⟨b0, o0 + 3, none⟩ = some (.int .u8 (x3.toNat : Int)))
      [(4, .r), (0, .h), (1, .h), (2, .h), (3, .h), (5, .e), (6, .r), (7, .r), (8, .r)] (by kernel_rfl) (by kernel_rfl) ⟨k0, k1, k2, k3⟩ (fun _ _ x _ _ h => (by cases x <;> exact h)) ?_
    (refine Rx.ws_q rfl rfl ?_; go_wp2; refine Rx.atS_mk ?_)
    (refine Rx.ws_h (v := ?_) rfl rfl ?_ ?_; rotate_left; (intro w' hS'; go_simp; try with_reducible rfl))
    (refine Rx.ws_h (v := ?_) rfl rfl ?_ ?_; rotate_left; (intro w' hS'; go_simp; try with_reducible rfl))
    refine Rx.ws_h (v := .pointer (some ⟨b0, o0, none⟩)) rfl rfl (fun w' hS' => by go_simp) ?_
    refine Rx.ws_h (v := .agg #[.int .u8 (x0.toNat : Int), .int .u8 (x1.toNat : Int), .int .u8 (x2.toNat : Int), .int .u8 (x3.toNat : Int)]) rfl rfl (fun w' hS' => by
      obtain ⟨j0, j1, j2, j3⟩ := hS'
      go_simp) ?_
    refine Rx.ws_e rfl ?_
    go_wp2_with (first | (go_at_call 57; refine stop ?_))
    refine go ?_
    refine (payload_any HK.out (bs := []) (OB.rb (OB_nil _ 5)) (by simp)).mono ?_
    rintro e w2 ⟨v, rfl, o2, c2, -⟩
    have ho : OB w2 5 v [s0, s1, s2, s3] := by have := o2; rw [show jpay k [] = be4 k by simp [jpay], HS.out] at this; exact this
    obtain ⟨pv, cv, rfl, -⟩ := id ho
    obtain ⟨pb, rfl⟩ := OB.blk ho (by simp)
    have hcv := (OB.lenEq ho).2
    have q0 := (OB.at_ ho (j := 0) (by simp)).1
    have q1 := (OB.at_ ho (j := 1) (by simp)).1
    have q2 := (OB.at_ ho (j := 2) (by simp)).1
    have q3 := (OB.at_ ho (j := 3) (by simp)).1
    simp only [List.getElem_cons_zero, List.getElem_cons_succ] at q0 q1 q2 q3
    have hs5 := s2a4 (some ⟨pb, 0, none⟩) cv
    have HC2 := Lib.hid (((Chg.refl (fun _ => False) w).drew).trans c2 fun _ h => h.elim)
    clear o2 ho c2 hcv
    go_wp2
    refine ⟨⟨Chg.cellSome HC2.out k0, Chg.cellSome HC2.out k1, Chg.cellSome HC2.out k2, Chg.cellSome HC2.out k3⟩, ?_⟩
    iterate 3 (refine Rx.ws_q rfl rfl ?_; go_wp2; refine Rx.atS_mk ?_)
    refine Rx.ws_nil ?_
    clear heq k0 k1 k2 k3 hs4 hs5 q0 q1 q2 q3
    cases E with
    | false =>
      go_wp2
      go_ret2
      have e : jrecord k bs = ([], 121) := by
        unfold jrecord
        rw [if_neg (by have := HN.out; omega), if_pos (of_decide_eq_false HE.out.symm)]
      rw [e]
      exact ⟨.slice none 0 0, rfl, OB_nil _ _, HC2.out, fun b hb => by cases hb⟩
    | true =>
      have e : jrecord k bs = (bs.drop 4, 0) := by
        unfold jrecord
        rw [if_neg (by have := HN.out; omega), if_neg (fun h => h (of_decide_eq_true HE.out.symm))]
      have HR := Lib.hid e
      clear e
      by_cases hc4 : c = 4
      · have hn4 : n = 4 := by omega
        subst hc4
        subst hn4
        have hrb : RB w (.slice (some ⟨b0, o0, none⟩) 0 0) (bs.drop 4) := by
          rw [List.drop_eq_nil_of_le (by have := HN.out; omega)]
          exact RB.empty rfl
        have HRB := Lib.hid hrb
        clear hrb
        go_wp2_with (first | (at_builtin; refine stop ?_))
        refine go ?_
        refine wpList_append_bytes rfl _ _ rfl (v := .slice none 0 0) (l := []) (m := bs.drop 4) rfl rfl (OB_nil _ _) (RC.chg HRB.out HC2.out fun _ _ h => h) (by have := HL.out; simp only [List.length_nil, List.length_drop]; omega) ?_
        intro pv6 lv6 cv6 w6 a1 a2 a3 a4
        have H1 := Lib.hid (And.intro a1 (And.intro (HC2.out.trans a2 fun k hk => by cases hk) (show ∀ b, sblk (.slice pv6 lv6 cv6) = some b → w.heap.size ≤ b from fun b hb => (a3 b hb).elim (fun h => by cases h) fun h => Nat.le_trans HC2.out.size h)))
        clear a1 a2 a3 a4
        go_wp2
        go_ret2
        refine ⟨.slice pv6 lv6 cv6, ?_, ?_, H1.out.2.1, H1.out.2.2⟩
        · rw [HR.out]; rfl
        · have := H1.out.1
          rw [HR.out]
          simpa using this
      · have hrb := RB.sub (bs := bs) (by have := HB.out; rw [← HN.out] at this; exact this) (i := 4) (j := n) (by omega) (by have := HN.out; omega)
        rw [List.take_of_length_le (by rw [List.length_drop]; have := HN.out; omega)] at hrb
        have HRB := Lib.hid hrb
        clear hrb
        go_wp2_with (first | (at_builtin; refine stop ?_))
        refine go ?_
        refine wpList_append_bytes rfl _ _ rfl (v := .slice none 0 0) (l := []) (m := bs.drop 4) rfl rfl (OB_nil _ _) (RC.chg HRB.out HC2.out fun _ _ h => h) (by have := HL.out; simp only [List.length_nil, List.length_drop]; omega) ?_
        intro pv6 lv6 cv6 w6 a1 a2 a3 a4
        have H1 := Lib.hid (And.intro a1 (And.intro (HC2.out.trans a2 fun k hk => by cases hk) (show ∀ b, sblk (.slice pv6 lv6 cv6) = some b → w.heap.size ≤ b from fun b hb => (a3 b hb).elim (fun h => by cases h) fun h => Nat.le_trans HC2.out.size h)))
        clear a1 a2 a3 a4
        go_wp2
        go_ret2
        refine ⟨.slice pv6 lv6 cv6, ?_, ?_, H1.out.2.1, H1.out.2.2⟩
        · rw [HR.out]; rfl
        · have := H1.out.1
          rw [HR.out]
          simpa using this
end
end Go.Proofs
