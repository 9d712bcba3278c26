/- frame.First and journal.record. Conditions: the bytes are read, at most 2^40; the table lies as it was laid. journal.Parse. Conditions: the bytes are read, fewer than 2^31; the table lies as it was laid. -/
import Derived.Test.YtaiaghfckhgnnaaDoorJh
namespace Go.Proofs
open Go.RowKit Go.Hp Go.Dm Go.Dr Go.Jn
set_option linter.unusedVariables false
set_option maxRecDepth 10000
section
variable {w : World} {bs : List UInt8} {p : Option Addr} {c : Nat}
theorem whole_end {b : List UInt8} (h : (jwhole b).2 = 0) : 12 ≤ (jwhole b).1 ∧ (jwhole b).1 ≤ b.length := by
  revert h
  unfold jwhole
  split
  · simp
  · split
    · simp
    · split
      · simp
      · rename_i hm0 m1 r2
        split
        · simp
        · split
          · simp
          · split
            · simp
            · simp only
              split
              · simp
              · split
                · simp
                · split
                  · simp
                  · rename_i hl _
                    intro _
                    simp only
                    omega
set_option maxHeartbeats 4000000 in
theorem first_any (hg : Gl w) (hb : RB w (.slice p bs.length c) bs) (hl : bs.length ≤ 1099511627776) :
    Calls Tryd.prog 48 #[.slice p bs.length c] w fun e w' => ∃ v, e = .returned (.tuple #[v, .int .i64 ((jfirst bs).2.1 : Nat), .int .i64 ((jfirst bs).2.2 : Nat)]) ∧ OB w' 5 v (jfirst bs).1 ∧ Chg (fun _ => False) w w' ∧ ∀ b, sblk v = some b → w.heap.size ≤ b := by
  have HW := Lib.hid (whole_any hg hb hl)
  have HB := Lib.hid hb
  have HL := Lib.hid hl
  obtain ⟨E, hE⟩ : ∃ E, E = (jwhole bs).2 := ⟨_, rfl⟩
  obtain ⟨N, hN⟩ : ∃ N, N = (jwhole bs).1 := ⟨_, rfl⟩
  rw [← hE, ← hN] at HW
  have hend : E = 0 → 12 ≤ N ∧ N ≤ bs.length := fun h => by rw [hN]; exact whole_end (by rw [← hE]; exact h)
  have hfst : jfirst bs = if E = 0 then ((bs.drop 12).take (N - 12), N, 0) else ([], 0, E) := by unfold jfirst; rw [← hE, ← hN]
  have HF := Lib.hid hfst
  have ibl : (bs.length : Int) ≤ 1099511627776 := by omega
  clear hg hb hl hE hN hfst
  go_enter Tryd.func48, Tryd.ntmps48
  go_wp2_with (first | (go_at_call 57; refine stop ?_))
  refine go ?_
  refine HW.out.mono ?_
  rintro e w1 ⟨rfl, c1⟩
  have HC1 := Lib.hid c1
  clear c1
  by_cases hE0 : E = 0
  · subst hE0
    obtain ⟨h12, hNl⟩ := hend rfl
    have i12 : (12 : Int) ≤ (N : Int) := by omega
    have iNl : (N : Int) ≤ (bs.length : Int) := by omega
    have hbc : bs.length ≤ c := by obtain ⟨_, _, e, h1, -⟩ := HB.out; simp only [Value.slice.injEq] at e; omega
    have iNc : (N : Int) ≤ (c : Int) := by omega
    have i12c : (12 : Int) ≤ (c : Int) := by omega
    clear hend
    have hlp : 12 ≤ bs.length := by omega
    obtain ⟨x, hx⟩ : ∃ x, bs[0]? = some x := ⟨_, List.getElem?_eq_getElem (by omega)⟩
    obtain ⟨b0, o0, rfl, -, -, -⟩ := RB.at_ HB.out hx
    by_cases hc12 : c = 12
    · have hN12 : N = 12 := by omega
      subst hN12
      subst hc12
      have hrb : RB w (.slice (some ⟨b0, o0, none⟩) 0 0) ((bs.drop 12).take 0) := RB.empty rfl
      have HRB := Lib.hid hrb
      clear hrb hx hlp hNl h12 hbc
      go_wp2_with (first | (at_builtin; refine stop ?_))
      refine go ?_
      refine wpList_append_bytes rfl _ _ rfl (v := .slice none 0 0) (l := []) rfl rfl (OB_nil _ _) (RC.chg HRB.out HC1.out fun _ _ h => h) (by have := HL.out; simp only [List.length_nil, List.length_take, List.length_drop]; omega) ?_
      intro pv lv cv w2 a1 a2 a3 a4
      have H1 := Lib.hid (And.intro a1 (And.intro (HC1.out.trans a2 fun k hk => by cases hk) (show ∀ b, sblk (.slice pv lv cv) = some b → w.heap.size ≤ b from fun b hb => (a3 b hb).elim (fun h => by cases h) fun h => Nat.le_trans HC1.out.size h)))
      clear a1 a2 a3 a4
      go_wp2
      go_ret3
      refine ⟨.slice pv lv cv, ?_, ?_, H1.out.2.1, H1.out.2.2⟩
      · rw [HF.out]; rfl
      · have := H1.out.1
        rw [HF.out]
        simpa using this
    · have hrb := RB.sub (bs := bs) HB.out (i := 12) (j := N) h12 hNl
      have HRB := Lib.hid hrb
      clear hrb hx hlp hNl h12 hbc
      go_wp2_with (first | (at_builtin; refine stop ?_))
      refine go ?_
      refine wpList_append_bytes rfl _ _ rfl (v := .slice none 0 0) (l := []) rfl rfl (OB_nil _ _) (RC.chg HRB.out HC1.out fun _ _ h => h) (by have := HL.out; simp only [List.length_nil, List.length_take, List.length_drop]; omega) ?_
      intro pv lv cv w2 a1 a2 a3 a4
      have H1 := Lib.hid (And.intro a1 (And.intro (HC1.out.trans a2 fun k hk => by cases hk) (show ∀ b, sblk (.slice pv lv cv) = some b → w.heap.size ≤ b from fun b hb => (a3 b hb).elim (fun h => by cases h) fun h => Nat.le_trans HC1.out.size h)))
      clear a1 a2 a3 a4
      go_wp2
      go_ret3
      refine ⟨.slice pv lv cv, ?_, ?_, H1.out.2.1, H1.out.2.2⟩
      · rw [HF.out]; rfl
      · have := H1.out.1
        rw [HF.out]
        simpa using this
  · have hE1 : ((E : Int) == 0) = false := by rw [beq_eq_false_iff_ne]; omega
    clear hend
    have HE0 := Lib.hid hE0
    clear hE0
    go_wp2
    go_ret3
    refine ⟨.slice none 0 0, ?_, ?_, HC1.out, fun b hb => by cases hb⟩
    · rw [HF.out, if_neg HE0.out]; rfl
    · rw [HF.out, if_neg HE0.out]; exact OB_nil _ _
theorem be4_beq {k : Nat} {x0 x1 x2 x3 : UInt8} {ps : List UInt8} (h : ps.take 4 = [x0, x1, x2, x3]) {s0 s1 s2 s3 : UInt8} (hs : be4 k = [s0, s1, s2, s3]) :
    ((x0.toNat : Int) == (s0.toNat : Int) && (x1.toNat : Int) == (s1.toNat : Int) && (x2.toNat : Int) == (s2.toNat : Int) && (x3.toNat : Int) == (s3.toNat : Int)) = decide (ps.take 4 = be4 k) := by
  rw [h, hs]; exact sum_beq
set_option maxHeartbeats 8000000 in
theorem record_any {k : Nat} (hk : k ≤ 2147483647) (hb : RB w (.slice p bs.length c) bs) (hl : bs.length ≤ 1099511627776) :
    Calls Tryd.prog 46 #[.int .i64 (k : Int), .slice p bs.length c] w fun e w' => ∃ v, e = .returned (.tuple #[v, .int .i64 ((jrecord k bs).2 : Nat)]) ∧ OB w' 5 v (jrecord k bs).1 ∧ Chg (fun _ => False) w w' ∧ ∀ b, sblk v = some b → w.heap.size ≤ b := by
  have HB := Lib.hid hb
  have HL := Lib.hid hl
  have HK := Lib.hid hk
  obtain ⟨n, hn⟩ : ∃ n, n = bs.length := ⟨_, rfl⟩
  rw [← hn]
  have HN := Lib.hid hn
  have inl : (n : Int) ≤ 1099511627776 := by omega
  have ik : (k : Int) ≤ 2147483647 := by omega
  have ik0 : (0 : Int) ≤ (k : Int) := by omega
  clear hb hl hk hn
  go_enter Tryd.func46, Tryd.ntmps46
  by_cases hn4 : (n : Int) < 4
  · have hd : decide ((n : Int) < 4) = true := decide_eq_true hn4
    have HN4 := Lib.hid hn4
    clear hn4
    go_wp2
    go_ret2
    have e : jrecord k bs = ([], 102) := by unfold jrecord; rw [if_pos (by have := HN.out; have := HN4.out; omega)]
    rw [e]
    exact ⟨.slice none 0 0, rfl, OB_nil _ _, Chg.refl _ _, fun b hb => by cases hb⟩
  · have hd : decide ((n : Int) < 4) = false := decide_eq_false hn4
    obtain ⟨x0, hx0⟩ : ∃ x, bs[0]? = some x := ⟨_, List.getElem?_eq_getElem (by have := HN.out; omega)⟩
    obtain ⟨x1, hx1⟩ : ∃ x, bs[1]? = some x := ⟨_, List.getElem?_eq_getElem (by have := HN.out; omega)⟩
    obtain ⟨x2, hx2⟩ : ∃ x, bs[2]? = some x := ⟨_, List.getElem?_eq_getElem (by have := HN.out; omega)⟩
    obtain ⟨x3, hx3⟩ : ∃ x, bs[3]? = some x := ⟨_, List.getElem?_eq_getElem (by have := HN.out; omega)⟩
    have hx : bs.take 4 = [x0, x1, x2, x3] := by
      apply List.ext_getElem?
      intro i
      rw [List.getElem?_take]
      match i with
      | 0 => simpa using hx0
      | 1 => simpa using hx1
      | 2 => simpa using hx2
      | 3 => simpa using hx3
      | i + 4 => rw [if_neg (by omega)]; simp
    obtain ⟨b0, o0, rfl, k0, hnc, -⟩ := RB.at_ HB.out hx0
    have hcc : ∀ i x, bs[i]? = some x → w.cell? ⟨b0, o0 + i, none⟩ = some (.int .u8 (x.toNat : Int)) := fun i x hx => by
      obtain ⟨b, o, e, h, -⟩ := RB.at_ HB.out hx
      obtain ⟨rfl, rfl⟩ : b0 = b ∧ o0 = o := by simpa using e
      exact h
    simp only [Nat.add_zero] at k0
    have k1 := hcc 1 x1 hx1
    have k2 := hcc 2 x2 hx2
    have k3 := hcc 3 x3 hx3
    have inc : (n : Int) ≤ (c : Int) := by have := HN.out; omega
    have inc4 : (4 : Int) ≤ (c : Int) := by omega
    have hs4 := s2a4 (some ⟨b0, o0, none⟩) c
    obtain ⟨s0, s1, s2, s3, hs⟩ : ∃ s0 s1 s2 s3, be4 k = [s0, s1, s2, s3] := ⟨_, _, _, _, rfl⟩
    obtain ⟨E, hE⟩ : ∃ E : Bool, E = decide (bs.take 4 = be4 k) := ⟨_, rfl⟩
    have heq : ∀ w : World, (Op.equalIn 10000 78 (.agg #[.int .u8 (x0.toNat : Int), .int .u8 (x1.toNat : Int), .int .u8 (x2.toNat : Int), .int .u8 (x3.toNat : Int)]) (.agg #[.int .u8 (s0.toNat : Int), .int .u8 (s1.toNat : Int), .int .u8 (s2.toNat : Int), .int .u8 (s3.toNat : Int)])).run Tryd.prog w = .ok E w := fun w => by rw [hE, ← be4_beq hx hs]; exact eq4 _ _ _ _ _ _ _ _ w
    have HX := Lib.hid hx
    have HS := Lib.hid hs
    have HE := Lib.hid hE
    clear hcc hx0 hx1 hx2 hx3 hnc hx hs hE
    go_wp2
    refine Rx.ws_region (fun W => W.cell? ⟨b0, o0, none⟩ = some (.int .u8 (x0.toNat : Int)) ∧ W.cell? ⟨b0, o0 + 1, none⟩ = some (.int .u8 (x1.toNat : Int)) ∧ W.cell? ⟨b0, o0 + 2, none⟩ = some (.int .u8 (x2.toNat : Int)) ∧ W.cell? ⟨b0, o0 + 3, none⟩ = some (.int .u8 (x3.toNat : Int)))
      [(4, .r), (0, .h), (1, .h), (2, .h), (3, .h), (5, .e), (6, .r), (7, .r), (8, .r)] (by kernel_rfl) (by kernel_rfl) ⟨k0, k1, k2, k3⟩ (fun _ _ x _ _ h => (by cases x <;> exact h)) ?_
    (refine Rx.ws_q rfl rfl ?_; go_wp2; refine Rx.atS_mk ?_)
    (refine Rx.ws_h (v := ?_) rfl rfl ?_ ?_; rotate_left; (intro w' hS'; go_simp; try with_reducible rfl))
    (refine Rx.ws_h (v := ?_) rfl rfl ?_ ?_; rotate_left; (intro w' hS'; go_simp; try with_reducible rfl))
    refine Rx.ws_h (v := .pointer (some ⟨b0, o0, none⟩)) rfl rfl (fun w' hS' => by go_simp) ?_
    refine Rx.ws_h (v := .agg #[.int .u8 (x0.toNat : Int), .int .u8 (x1.toNat : Int), .int .u8 (x2.toNat : Int), .int .u8 (x3.toNat : Int)]) rfl rfl (fun w' hS' => by
      obtain ⟨j0, j1, j2, j3⟩ := hS'
      go_simp) ?_
    refine Rx.ws_e rfl ?_
    go_wp2_with (first | (go_at_call 35; refine stop ?_))
    refine go ?_
    refine (payload_any HK.out (bs := []) (OB.rb (OB_nil _ 5)) (by simp)).mono ?_
    rintro e w2 ⟨v, rfl, o2, c2, -⟩
    have ho : OB w2 5 v [s0, s1, s2, s3] := by have := o2; rw [show jpay k [] = be4 k by simp [jpay], HS.out] at this; exact this
    obtain ⟨pv, cv, rfl, -⟩ := id ho
    obtain ⟨pb, rfl⟩ := OB.blk ho (by simp)
    have hcv := (OB.lenEq ho).2
    have q0 := (OB.at_ ho (j := 0) (by simp)).1
    have q1 := (OB.at_ ho (j := 1) (by simp)).1
    have q2 := (OB.at_ ho (j := 2) (by simp)).1
    have q3 := (OB.at_ ho (j := 3) (by simp)).1
    simp only [List.getElem_cons_zero, List.getElem_cons_succ] at q0 q1 q2 q3
    have hs5 := s2a4 (some ⟨pb, 0, none⟩) cv
    have HC2 := Lib.hid (((Chg.refl (fun _ => False) w).drew).trans c2 fun _ h => h.elim)
    clear o2 ho c2 hcv
    go_wp2
    refine ⟨⟨Chg.cellSome HC2.out k0, Chg.cellSome HC2.out k1, Chg.cellSome HC2.out k2, Chg.cellSome HC2.out k3⟩, ?_⟩
    iterate 3 (refine Rx.ws_q rfl rfl ?_; go_wp2; refine Rx.atS_mk ?_)
    refine Rx.ws_nil ?_
    clear heq k0 k1 k2 k3 hs4 hs5 q0 q1 q2 q3
    cases E with
    | false =>
      go_wp2
      go_ret2
      have e : jrecord k bs = ([], 121) := by
        unfold jrecord
        rw [if_neg (by have := HN.out; omega), if_pos (of_decide_eq_false HE.out.symm)]
      rw [e]
      exact ⟨.slice none 0 0, rfl, OB_nil _ _, HC2.out, fun b hb => by cases hb⟩
    | true =>
      have e : jrecord k bs = (bs.drop 4, 0) := by
        unfold jrecord
        rw [if_neg (by have := HN.out; omega), if_neg (fun h => h (of_decide_eq_true HE.out.symm))]
      have HR := Lib.hid e
      clear e
      by_cases hc4 : c = 4
      · have hn4 : n = 4 := by omega
        subst hc4
        subst hn4
        have hrb : RB w (.slice (some ⟨b0, o0, none⟩) 0 0) (bs.drop 4) := by
          rw [List.drop_eq_nil_of_le (by have := HN.out; omega)]
          exact RB.empty rfl
        have HRB := Lib.hid hrb
        clear hrb
        go_wp2_with (first | (at_builtin; refine stop ?_))
        refine go ?_
        refine wpList_append_bytes rfl _ _ rfl (v := .slice none 0 0) (l := []) (m := bs.drop 4) rfl rfl (OB_nil _ _) (RC.chg HRB.out HC2.out fun _ _ h => h) (by have := HL.out; simp only [List.length_nil, List.length_drop]; omega) ?_
        intro pv6 lv6 cv6 w6 a1 a2 a3 a4
        have H1 := Lib.hid (And.intro a1 (And.intro (HC2.out.trans a2 fun k hk => by cases hk) (show ∀ b, sblk (.slice pv6 lv6 cv6) = some b → w.heap.size ≤ b from fun b hb => (a3 b hb).elim (fun h => by cases h) fun h => Nat.le_trans HC2.out.size h)))
        clear a1 a2 a3 a4
        go_wp2
        go_ret2
        refine ⟨.slice pv6 lv6 cv6, ?_, ?_, H1.out.2.1, H1.out.2.2⟩
        · rw [HR.out]; rfl
        · have := H1.out.1
          rw [HR.out]
          simpa using this
      · have hrb := RB.sub (bs := bs) (by have := HB.out; rw [← HN.out] at this; exact this) (i := 4) (j := n) (by omega) (by have := HN.out; omega)
        rw [List.take_of_length_le (by rw [List.length_drop]; have := HN.out; omega)] at hrb
        have HRB := Lib.hid hrb
        clear hrb
        go_wp2_with (first | (at_builtin; refine stop ?_))
        refine go ?_
        refine wpList_append_bytes rfl _ _ rfl (v := .slice none 0 0) (l := []) (m := bs.drop 4) rfl rfl (OB_nil _ _) (RC.chg HRB.out HC2.out fun _ _ h => h) (by have := HL.out; simp only [List.length_nil, List.length_drop]; omega) ?_
        intro pv6 lv6 cv6 w6 a1 a2 a3 a4
        have H1 := Lib.hid (And.intro a1 (And.intro (HC2.out.trans a2 fun k hk => by cases hk) (show ∀ b, sblk (.slice pv6 lv6 cv6) = some b → w.heap.size ≤ b from fun b hb => (a3 b hb).elim (fun h => by cases h) fun h => Nat.le_trans HC2.out.size h)))
        clear a1 a2 a3 a4
        go_wp2
        go_ret2
        refine ⟨.slice pv6 lv6 cv6, ?_, ?_, H1.out.2.1, H1.out.2.2⟩
        · rw [HR.out]; rfl
        · have := H1.out.1
          rw [HR.out]
          simpa using this
end
end Go.Proofs
namespace Go.Proofs
open Go.RowKit Go.Hp Go.Dm Go.Dr Go.Jn
set_option linter.unusedVariables false
set_option maxRecDepth 10000

/-- records as they lie: a slice of slices of its own, each of bytes of its own -/
structure Recs (w : World) (v : Value) (ls : List LF) : Prop where
  oc : OC w 1 33 v ls.length (ls.map LF.sv)
  each : ∀ x ∈ ls, OB w 5 x.sv x.bytes
  off : ∀ x ∈ ls, ∀ k, sblk x.sv = some k → sblk v ≠ some k
def rblks (v : Value) (ls : List LF) : List Nat := (sblk v).toList ++ ls.flatMap LF.blk
theorem Recs.keep {w w' : World} {v : Value} {ls : List LF} (h : Recs w v ls) (hk : ∀ k ∈ rblks v ls, w'.heap[k]? = w.heap[k]?) : Recs w' v ls :=
  ⟨OC.keep h.oc fun b hb => hk b (by simp [rblks, hb]), fun x hx => OC.keep (h.each x hx) fun b hb => hk b (List.mem_append.2 (.inr (List.mem_flatMap.2 ⟨x, hx, by simp [LF.blk, hb]⟩))), h.off⟩
theorem Recs.lt {w : World} {v : Value} {ls : List LF} (h : Recs w v ls) : ∀ k ∈ rblks v ls, k < w.heap.size := fun k hk => by
  rcases List.mem_append.1 hk with hk | hk
  · exact OC.lt h.oc (by simpa using hk)
  · obtain ⟨x, hx, hk⟩ := List.mem_flatMap.1 hk
    exact OC.lt (h.each x hx) (by simpa [LF.blk] using hk)
theorem Recs.chg {w w' : World} {v : Value} {ls : List LF} (h : Recs w v ls) (hc : Chg (fun _ => False) w w') : Recs w' v ls := h.keep fun k hk => hc.block k (h.lt k hk) (fun h => h)
theorem Recs.nil (w : World) : Recs w (.slice none 0 0) [] := ⟨OC_nil _ _ _, by simp, by simp⟩
/-- a record is put behind the others -/
theorem Recs.push {w w1 w2 : World} {v v' : Value} {ls : List LF} {x : LF} (h : Recs w v ls) (hc : Chg (fun _ => False) w w1) (hx : OB w1 5 x.sv x.bytes) (hn : ∀ k, sblk x.sv = some k → w.heap.size ≤ k)
    (ho : OC w2 1 33 v' (ls.map LF.sv ++ [x.sv]).length (ls.map LF.sv ++ [x.sv])) (h2 : Chg (fun b => sblk v = some b) w1 w2) (hb : ∀ b, sblk v' = some b → sblk v = some b ∨ w1.heap.size ≤ b) : Recs w2 v' (ls ++ [x]) := by
  have hlv : ∀ k, sblk v = some k → k < w.heap.size := fun k hk => OC.lt h.oc hk
  have hold : ∀ y ∈ ls ++ [x], ∀ k, sblk y.sv = some k → k < w1.heap.size ∧ sblk v ≠ some k := fun y hy k hk => by
    rcases List.mem_append.1 hy with hy | hy
    · have := OC.lt (h.each y hy) hk
      exact ⟨Nat.lt_of_lt_of_le this hc.size, h.off y hy k hk⟩
    · obtain rfl : y = x := by simpa using hy
      refine ⟨OC.lt hx hk, fun e => ?_⟩
      have h1 := hlv k e
      have h2 := hn k hk
      omega
  refine ⟨?_, fun y hy => ?_, fun y hy k hk e => ?_⟩
  · rw [List.length_append, List.map_append]
    rw [List.length_append, List.length_map] at ho
    exact ho
  · have h0 : OB w1 5 y.sv y.bytes := by
      rcases List.mem_append.1 hy with hy | hy
      · exact OC.chg (h.each y hy) hc fun _ _ h => h
      · obtain rfl : y = x := by simpa using hy
        exact hx
    exact OC.chg h0 h2 fun k hk e => (hold y hy k hk).2 e
  · obtain ⟨h3, h4⟩ := hold y hy k hk
    rcases hb k e with h5 | h5
    · exact h4 h5
    · omega

/-- what the loop has come to -/
structure Parsed (bs : List UInt8) (l : List (List UInt8)) (good f : Nat) : Prop where
  le : good ≤ bs.length
  fuel : bs.length - good ≤ f
  cnt : l.length * 12 ≤ good
  res : jparse bs = (l ++ (jparseN f l.length (bs.drop good)).1, good + (jparseN f l.length (bs.drop good)).2.1, (jparseN f l.length (bs.drop good)).2.2)
theorem Parsed.start (bs : List UInt8) : Parsed bs [] 0 bs.length := ⟨Nat.zero_le _, by omega, by simp, by simp [jparse]⟩
theorem Parsed.over {bs : List UInt8} {l : List (List UInt8)} {good f : Nat} (h : Parsed bs l good f) (hg : good = bs.length) : jparse bs = (l, good, 0) := by
  rw [h.res, List.drop_eq_nil_of_le (by omega)]
  cases f <;> simp [jparseN]
theorem Parsed.stop {bs : List UInt8} {l : List (List UInt8)} {good f : Nat} (h : Parsed bs l good f) (hg : good < bs.length) (he : (jnext l.length (bs.drop good)).2.2 ≠ 0) : jparse bs = (l, good, (jnext l.length (bs.drop good)).2.2) := by
  rw [h.res]
  cases f with
  | zero => have := h.fuel; omega
  | succ f =>
    have hne : ¬ bs.drop good = [] := fun e => by have := congrArg List.length e; simp at this; omega
    simp only [jparseN, if_neg hne, if_pos he]
    simp
theorem next_len {k : Nat} {b : List UInt8} (h : (jnext k b).2.2 = 0) : 12 ≤ (jnext k b).2.1 ∧ (jnext k b).2.1 ≤ b.length := by
  unfold jnext at h ⊢
  by_cases hf : (jfirst b).2.2 = 0
  · rw [if_pos hf] at h ⊢
    unfold jfirst at hf ⊢
    by_cases hw : (jwhole b).2 = 0
    · rw [if_pos hw]; exact whole_end hw
    · rw [if_neg hw] at hf; exact absurd hf hw
  · rw [if_neg hf] at h; exact absurd h hf
theorem Parsed.go {bs : List UInt8} {l : List (List UInt8)} {good f : Nat} (h : Parsed bs l good f) (hg : good < bs.length) (he : (jnext l.length (bs.drop good)).2.2 = 0) :
    Parsed bs (l ++ [(jnext l.length (bs.drop good)).1]) (good + (jnext l.length (bs.drop good)).2.1) (f - 1) := by
  obtain ⟨h1, h2⟩ := next_len he
  rw [List.length_drop] at h2
  cases f with
  | zero => have := h.fuel; omega
  | succ f =>
    have hfu := h.fuel
    refine ⟨by omega, by simp only [Nat.add_sub_cancel]; omega, by have := h.cnt; rw [List.length_append, List.length_singleton]; omega, ?_⟩
    rw [h.res]
    have hne : ¬ bs.drop good = [] := fun e => by have := congrArg List.length e; simp at this; omega
    rw [jparseN, if_neg hne, if_neg (by simpa using he)]
    simp only [Nat.add_sub_cancel, List.length_append, List.length_singleton, List.drop_drop, List.append_assoc, List.singleton_append, Nat.add_assoc]
theorem first_len (b : List UInt8) : (jfirst b).1.length ≤ b.length := by
  unfold jfirst
  split
  · simp only [List.length_take, List.length_drop]; omega
  · simp
section
variable {w : World} {bs : List UInt8} {p : Option Addr} {c : Nat}
set_option maxHeartbeats 8000000 in
theorem parse_any (hg : Gl w) (hb : RB w (.slice p bs.length c) bs) (hl : bs.length ≤ 2147483647) :
    Calls Tryd.prog 29 #[.slice p bs.length c] w fun e w' => ∃ v ls, e = .returned (.tuple #[v, .int .i64 ((jparse bs).2.1 : Nat), .int .i64 ((jparse bs).2.2 : Nat)]) ∧ ls.map LF.bytes = (jparse bs).1 ∧ Recs w' v ls ∧ Chg (fun _ => False) w w' ∧ ∀ b ∈ rblks v ls, w.heap.size ≤ b := by
  have HG := Lib.hid hg
  have HB := Lib.hid hb
  have HL := Lib.hid hl
  obtain ⟨n, hn⟩ : ∃ n, n = bs.length := ⟨_, rfl⟩
  rw [← hn]
  have HN := Lib.hid hn
  have inl : (n : Int) ≤ 2147483647 := by omega
  clear hg hb hl hn
  go_enter Tryd.func29, Tryd.ntmps29
  go_wp2
  go_step3
  go_wp2
  go_step3
  go_wp2
  go_loopw [2, 3, 4] (fun t2 t3 t4 wr => t4 = .int .i64 0 ∧ ∃ (p' : Option Addr) (c' : Nat) (ls : List LF) (good f : Nat), t2 = .slice p' ls.length c' ∧ t3 = .int .i64 (good : Int) ∧ Parsed bs (ls.map LF.bytes) good f ∧ Recs wr (.slice p' ls.length c') ls ∧ Chg (fun _ => False) w wr ∧ ∀ b ∈ rblks (.slice p' ls.length c') ls, w.heap.size ≤ b) (fun _ t3 _ _ => n - (Lib.intOf t3).toNat)
  case atStart => exact ⟨rfl, none, 0, [], 0, _, rfl, rfl, Parsed.start bs, Recs.nil w, Chg.refl _ _, by simp [rblks, sblk]⟩
  case round =>
    obtain ⟨rfl, p', c', ls, good, f, rfl, rfl, hP, hR, hC, hF⟩ := hrel
    have HP := Lib.hid hP
    have HR := Lib.hid hR
    have HC := Lib.hid hC
    have HF := Lib.hid hF
    have ig0 : (0 : Int) ≤ (good : Int) := by omega
    clear hP hR hC hF
    by_cases hgl : (good : Int) < (n : Int)
    · have hgn : good < bs.length := by have := HN.out; omega
      obtain ⟨x, hx⟩ : ∃ x, bs[0]? = some x := ⟨_, List.getElem?_eq_getElem (by omega)⟩
      obtain ⟨b0, o0, rfl, -, hnc, -⟩ := RB.at_ HB.out hx
      have inc : (n : Int) ≤ (c : Int) := by have := HN.out; omega
      have igc : (good : Int) ≤ (c : Int) := by omega
      have hcg : ¬ c = good := by omega
      have hrb := RB.sub (bs := bs) (by have := HB.out; rw [← HN.out] at this; exact this) (i := good) (j := n) (by omega) (by have := HN.out; omega)
      have hdl : (bs.drop good).length = n - good := by rw [List.length_drop]; have := HN.out; omega
      rw [List.take_of_length_le (by omega)] at hrb
      have hfa := first_any (HG.out.chg HC.out) (bs := bs.drop good) (by rw [hdl]; exact RC.chg hrb HC.out fun _ _ h => h) (by have := HL.out; rw [hdl]; omega)
      rw [hdl] at hfa
      have HFA := Lib.hid hfa
      have HGN := Lib.hid hgn
      clear hx hnc hrb hdl hfa hgn
      go_wp2_with (first | (go_at_call 48; refine stop ?_))
      refine go ?_
      refine HFA.out.mono ?_
      rintro e w1 ⟨v, rfl, o1, c1, n1⟩
      obtain ⟨pv, cv, rfl, -⟩ := id o1
      have hnx : jnext ls.length (bs.drop good) = (if (jfirst (bs.drop good)).2.2 = 0 then ((jrecord ls.length (jfirst (bs.drop good)).1).1, (jfirst (bs.drop good)).2.1, (jrecord ls.length (jfirst (bs.drop good)).1).2) else ([], 0, (jfirst (bs.drop good)).2.2)) := rfl
      have HNX := Lib.hid hnx
      have hcnt := HP.out.cnt
      have hle := HP.out.le
      rw [List.length_map] at hcnt
      obtain ⟨F, hF⟩ : ∃ F, F = jfirst (bs.drop good) := ⟨_, rfl⟩
      rw [← hF] at o1 HNX ⊢
      obtain ⟨fp, fn, fe⟩ := F
      have hfpl : fp.length ≤ 2147483647 := by
        have h1 := first_len (bs.drop good)
        rw [← hF, List.length_drop] at h1
        have := HL.out
        simp only at h1
        omega
      have HO1 := Lib.hid (And.intro o1 (And.intro c1 n1))
      have hk31 : ls.length ≤ 2147483647 := by have := HL.out; omega
      have HK31 := Lib.hid (And.intro hk31 hfpl)
      clear hnx o1 c1 n1 hcnt hle hF hfpl hk31
      by_cases hfe : fe = 0
      · subst hfe
        have hra := record_any (w := w1) HK31.out.1 (OB.rb HO1.out.1) (by show fp.length ≤ _; have := HK31.out.2; omega)
        have HRA := Lib.hid hra
        clear hra
        go_wp2_with (first | (go_at_call 46; refine stop ?_))
        refine go ?_
        refine HRA.out.mono ?_
        rintro e w2 ⟨v2, rfl, o2, c2, n2⟩
        obtain ⟨pv2, cv2, rfl, -⟩ := id o2
        obtain ⟨R, hR⟩ : ∃ R, R = jrecord ls.length fp := ⟨_, rfl⟩
        have hnx : jnext ls.length (bs.drop good) = (R.1, fn, R.2) := by rw [HNX.out, hR]; rfl
        rw [← hR] at o2 n2 ⊢
        obtain ⟨rb, re⟩ := R
        have HO2 := Lib.hid (And.intro o2 (And.intro c2 n2))
        have HNX2 := Lib.hid hnx
        clear o2 c2 n2 hR hnx
        by_cases hre : re = 0
        · subst hre
          have hnl := next_len (k := ls.length) (b := bs.drop good) (by rw [HNX2.out])
          rw [HNX2.out] at hnl
          have hfn1 : 12 ≤ fn ∧ good + fn ≤ n := by
            rw [List.length_drop] at hnl
            simp only at hnl
            have := HN.out
            have := HGN.out
            exact ⟨hnl.1, by omega⟩
          have ifn : (good : Int) + (fn : Int) ≤ (n : Int) := by omega
          have HFN := Lib.hid hfn1
          clear hnl hfn1
          go_wp2_with (first | (at_builtin; refine stop ?_))
          refine go ?_
          have HR2 := Lib.hid ((HR.out.chg HO1.out.2.1).chg (HO2.out.2.1.alloc (.cells #[.slice pv2 rb.length cv2] 33)))
          refine wpList_append_rows rfl _ _ rfl (v := .slice p' ls.length c') (l := ls.map LF.sv) (m := [.slice pv2 rb.length cv2]) rfl rfl (by rw [List.length_map]; exact HR2.out.oc) (OC_new w2 1 33 #[.slice pv2 rb.length cv2] 1 1 (by decide) (by unfold maxLen; decide) rfl).rc (by simp [Value.oneCell']) (by have := HK31.out.1; simp; omega) ?_
          intro pv3 lv3 cv3 w3 a1 a2 a3 a4
          have hx1 : Recs w3 (.slice pv3 lv3 cv3) (ls ++ [(⟨⟨#[]⟩, pv2, cv2, rb, 0⟩ : LF)]) := by
            refine (HR.out.chg HO1.out.2.1).push (w1 := w2.alloc (.cells #[.slice pv2 rb.length cv2] 33)) (x := ⟨⟨#[]⟩, pv2, cv2, rb, 0⟩) (HO2.out.2.1.alloc _) (OC.chg HO2.out.1 ((Chg.refl (fun _ => False) w2).alloc _) fun _ _ h => h) HO2.out.2.2 a1 a3 a4
          have hchg : Chg (fun _ => False) w w3 := (((HC.out.trans HO1.out.2.1 fun _ h => h.elim).trans HO2.out.2.1 fun _ h => h.elim).alloc (.cells #[.slice pv2 rb.length cv2] 33)).trans a3 fun k hk => .inr (HF.out k (by simp [rblks, hk]))
          have hsz : w.heap.size ≤ w1.heap.size := (HC.out.trans HO1.out.2.1 fun _ h => h.elim).size
          have hfr : ∀ b ∈ rblks (.slice pv3 lv3 cv3) (ls ++ [(⟨⟨#[]⟩, pv2, cv2, rb, 0⟩ : LF)]), w.heap.size ≤ b := fun b hb => by
            rcases List.mem_append.1 hb with hb | hb
            · rcases a4 b (by simpa using hb) with h | h
              · exact HF.out b (by simp [rblks, h])
              · have h2 := HO2.out.2.1.size
                rw [halloc_size] at h; omega
            · rw [List.flatMap_append] at hb
              rcases List.mem_append.1 hb with hb | hb
              · exact HF.out b (List.mem_append.2 (.inr hb))
              · have h3 := HO2.out.2.2 b (by simpa [LF.blk, LF.sv] using hb)
                omega
          have hlv : lv3 = (ls ++ [(⟨⟨#[]⟩, pv2, cv2, rb, 0⟩ : LF)]).length := by rw [a2]; simp
          have hgo := HP.out.go HGN.out (by rw [List.length_map, HNX2.out])
          rw [List.length_map, HNX2.out] at hgo
          have HEND := Lib.hid (And.intro hx1 (And.intro hchg (And.intro hfr (And.intro hlv hgo))))
          clear a1 a2 a3 a4 hx1 hchg hsz hfr hlv hgo
          go_wp2
          go_roundw
          case rel =>
            refine ⟨by trivial, pv3, cv3, ls ++ [(⟨⟨#[]⟩, pv2, cv2, rb, 0⟩ : LF)], good + fn, f - 1, by rw [HEND.out.2.2.2.1], by go_num, ?_, ?_, HEND.out.2.1, ?_⟩
            · have := HEND.out.2.2.2.2
              rw [List.map_append]
              exact this
            · have := HEND.out.1
              rw [HEND.out.2.2.2.1] at this
              exact this
            · have := HEND.out.2.2.1
              rw [HEND.out.2.2.2.1] at this
              exact this
          case measure =>
            have := HFN.out.1
            simp [Lib.intOf]; omega
        · have hf1 : ((re : Int) == 0) = false := by rw [beq_eq_false_iff_ne]; omega
          have HRE := Lib.hid hre
          clear hre
          go_wp2
          rw [Exit.noGoto_ret]
          go_ret3
          have hst := HP.out.stop HGN.out (by rw [List.length_map, HNX2.out]; exact HRE.out)
          rw [List.length_map, HNX2.out] at hst
          rw [hst]
          have hc2 := HO1.out.2.1.trans HO2.out.2.1 fun _ h => h.elim
          exact ⟨.slice p' ls.length c', ls, rfl, rfl, HR.out.chg hc2, HC.out.trans hc2 fun _ h => h.elim, HF.out⟩
      · have hf1 : ((fe : Int) == 0) = false := by rw [beq_eq_false_iff_ne]; omega
        have HFE := Lib.hid hfe
        clear hfe
        go_wp2
        rw [Exit.noGoto_ret]
        go_ret3
        have hst := HP.out.stop HGN.out (by rw [List.length_map, HNX.out, if_neg HFE.out]; exact HFE.out)
        rw [List.length_map, HNX.out, if_neg HFE.out] at hst
        rw [hst]
        exact ⟨.slice p' ls.length c', ls, rfl, rfl, HR.out.chg HO1.out.2.1, HC.out.trans HO1.out.2.1 fun _ h => h.elim, HF.out⟩
    · have hov := HP.out.over (by have := HP.out.le; have := HN.out; omega)
      have HOV := Lib.hid hov
      clear hov
      go_wp2
      go_ret3
      rw [HOV.out]
      exact ⟨.slice p' ls.length c', ls, rfl, rfl, HR.out, HC.out, HF.out⟩
end
end Go.Proofs
