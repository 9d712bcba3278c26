/- A book as it lies: left. Conditions: the book lies as BkRep says, the files as FilesAt says, and they are what a crash leaves of the book; at most 2^40 pages. -/
import Derived.Test.YthnemjnepnbjpaaHo
namespace Go.Proofs
open Go.RowKit Go.Hp Go.Dm Go.Dr
set_option linter.unusedVariables false
set_option maxRecDepth 10000

/-! ### plainly -/
section
variable {S : List Fl} {l lf : List LF} {k : Nat}
theorem left_facts (hs : ∀ g ∈ S, g.sure ≤ g.bytes.length) (hP : (l.map LF.fl).Perm S) (hL : lf.map LF.fl = loseL k S) {j : Nat} {f : LF} (hf : lf[j]? = some f) :
    ∃ (i : Nat) (x : LF), l[i]? = some x ∧ x.name = f.name ∧ x.bytes.take f.bytes.length = f.bytes ∧ f.bytes.length ≠ 0 ∧ x.sure ≤ f.bytes.length ∧ f.bytes.length ≤ x.bytes.length ∧ f.sure = f.bytes.length ∧
      min (k : Int) ((x.bytes.length : Int) - (x.sure : Int)) = (f.bytes.length : Int) - (x.sure : Int) := by
  have h1 : f.fl ∈ loseL k S := hL ▸ List.mem_map_of_mem (List.mem_of_getElem? hf)
  obtain ⟨g, hg, hgs⟩ := List.mem_filterMap.1 h1
  obtain ⟨x, hx, hxg⟩ := List.mem_map.1 (hP.symm.subset hg)
  obtain ⟨i, hi⟩ := List.getElem?_of_mem hx
  have h2 := hs g hg
  unfold surv at hgs
  simp only at hgs
  split at hgs
  · cases hgs
  · rename_i hne
    have h3 := Option.some.inj hgs
    have e1 : x.name = g.name := congrArg Fl.name hxg
    have e2 : x.bytes = g.bytes := congrArg Fl.bytes hxg
    have e3 : x.sure = g.sure := congrArg Fl.sure hxg
    have f1 : g.name = f.name := congrArg Fl.name h3
    have f2 : g.bytes.take (g.sure + k) = f.bytes := congrArg Fl.bytes h3
    have f3 : (g.bytes.take (g.sure + k)).length = f.sure := congrArg Fl.sure h3
    have hlen : f.bytes.length = min (g.sure + k) g.bytes.length := by rw [← f2, List.length_take]
    have hl0 : f.bytes.length ≠ 0 := fun e => hne (by rw [f2]; exact List.length_eq_zero_iff.1 e)
    refine ⟨i, x, hi, e1.trans f1, ?_, hl0, by omega, by rw [e2]; omega, by rw [← f3, f2], by rw [e2, e3]; omega⟩
    rw [e2, hlen, ← f2]
    by_cases hm : g.sure + k ≤ g.bytes.length
    · rw [Nat.min_eq_left hm]
    · rw [Nat.min_eq_right (by omega), List.take_of_length_le (Nat.le_refl _), List.take_of_length_le (by omega)]
def thereB (nm : ByteArray) (l : List LF) : Bool := l.any fun f => f.name == nm
theorem there_snoc (nm : ByteArray) (l : List LF) (f : LF) : thereB nm (l ++ [f]) = (thereB nm l || (f.name == nm)) := by simp [thereB]
theorem there_kept (hS : Sorted S) (hs : ∀ g ∈ S, g.sure ≤ g.bytes.length) (hP : (l.map LF.fl).Perm S) (hL : lf.map LF.fl = loseL k S) {x : LF} (hx : x ∈ l) :
    thereB x.name lf = (decide (0 < x.sure) || (decide (0 < k) && decide (0 < x.bytes.length))) := by
  have hxS : x.fl ∈ S := hP.subset (List.mem_map_of_mem hx)
  have h2 : x.sure ≤ x.bytes.length := hs x.fl hxS
  rw [Bool.eq_iff_iff]
  simp only [thereB, List.any_eq_true, Bool.or_eq_true, Bool.and_eq_true, decide_eq_true_eq]
  constructor
  · rintro ⟨f, hf, hn⟩
    have hn : f.name = x.name := (MapKept.bytes_beq _ _).1 hn
    have h1 : f.fl ∈ loseL k S := hL ▸ List.mem_map_of_mem hf
    obtain ⟨g, hg, hgs⟩ := List.mem_filterMap.1 h1
    have hgn : g.name = x.name := (surv_name hgs).symm.trans hn
    have hgx : g = x.fl := by
      have e1 := get_of_mem hS.nodup hg
      have e2 := get_of_mem hS.nodup hxS
      rw [show x.fl.name = g.name from hgn.symm, e1] at e2
      exact Option.some.inj e2
    subst hgx
    unfold surv at hgs
    simp only at hgs
    split at hgs
    · cases hgs
    · rename_i hne
      have h3 : 0 < (x.bytes.take (x.sure + k)).length := List.length_pos_iff.2 hne
      rw [List.length_take] at h3
      omega
  · intro h
    have hpos : 0 < (x.bytes.take (x.sure + k)).length := by rw [List.length_take]; omega
    have hsv : surv k x.fl = some ⟨x.name, x.bytes.take (x.sure + k), (x.bytes.take (x.sure + k)).length⟩ := by
      unfold surv
      simp only
      exact if_neg (show ¬ x.bytes.take (x.sure + k) = [] from List.length_pos_iff.1 hpos)
    have h1 : (⟨x.name, x.bytes.take (x.sure + k), (x.bytes.take (x.sure + k)).length⟩ : Fl) ∈ lf.map LF.fl := by
      rw [hL]; exact List.mem_filterMap.2 ⟨x.fl, hxS, hsv⟩
    obtain ⟨f, hf, hff⟩ := List.mem_map.1 h1
    exact ⟨f, hf, (MapKept.bytes_beq _ _).2 (congrArg Fl.name hff)⟩
end

theorem RB.takeQ2 {w : World} {p : Option Addr} {c : Nat} {bs : List UInt8} (h : RB w (.slice p bs.length c) bs) (m : Nat) (hm : m ≤ bs.length) : RB w (.slice p m c) (bs.take m) := by
  obtain ⟨p', c', he, hnc, hlen, hblk⟩ := h
  obtain ⟨rfl, -, rfl⟩ : p = p' ∧ bs.length = bs.length ∧ c = c' := by simpa only [Value.slice.injEq] using he
  have e : (bs.take m).length = m := by simp; omega
  refine ⟨p, c, by rw [e], by rw [e]; omega, by simp, fun hc => ?_⟩
  obtain ⟨b, off, arr, t, fz, rfl, hh, hx⟩ := hblk hc
  refine ⟨b, off, arr, t, fz, rfl, hh, fun i u hu => hx i u ?_⟩
  rw [List.map_take, List.getElem?_take] at hu
  split at hu
  · exact hu
  · cases hu
section
variable {w w' wr W w4 : World} {b : Nat} {v v' fv : Value} {l lf ys : List LF} {B : List Fl} {F : List Nat}
/-- the new pages so far -/
structure LSt (w wr : World) (v : Value) (ys : List LF) : Prop where
  g : GSt w wr v ys
  each : ∀ y ∈ ys, OB wr 5 y.sv y.bytes
  low2 : ∀ k ∈ ys.flatMap LF.blk, w.heap.size ≤ k
  nodup : (lblks v ys).Nodup
theorem LSt.quiet (h : LSt w W v ys) (hc : Chg (fun _ => False) W w') : LSt w w' v ys := ⟨h.g.quiet hc, fun y hy => OC.chg (h.each y hy) hc fun _ _ h => h, h.low2, h.nodup⟩
theorem LSt.push {x : LF} (h : LSt w wr v ys) (hc : Chg (fun _ => False) wr W) (hx : OB W 5 x.sv x.bytes) (hxn : ∀ k, sblk x.sv = some k → wr.heap.size ≤ k)
    (ho : OC w4 3 92 v' (ys.length + 1) (ys.flatMap LF.enc ++ x.enc)) (hc4 : Chg (fun b => sblk v = some b) W w4) (hb : ∀ k, sblk v' = some k → sblk v = some k ∨ W.heap.size ≤ k) : LSt w w4 v' (ys ++ [x]) := by
  have hs := hc.size
  have hs0 := h.g.chg.size
  have hvlt : ∀ k, sblk v = some k → k < wr.heap.size := fun k hk => OC.lt h.g.oc hk
  have hylt : ∀ k ∈ ys.flatMap LF.blk, k < wr.heap.size := fun k hk => by
    obtain ⟨y, hy, hk⟩ := List.mem_flatMap.1 hk
    exact OC.lt (h.each y hy) (by simpa [LF.blk] using hk)
  have hnd := List.nodup_append.1 h.nodup
  have hvy : ∀ k, sblk v = some k → k ∉ ys.flatMap LF.blk := fun k hk hin => hnd.2.2 k (by simp [hk]) k hin rfl
  have hxlt : ∀ k, sblk x.sv = some k → k < W.heap.size := fun k hk => OC.lt hx hk
  have hxb : ∀ k ∈ x.blk, sblk x.sv = some k := fun k hk => by simpa [LF.blk] using hk
  refine ⟨(h.g.quiet hc).push ho hc4 hb, fun y hy => ?_, fun k hk => ?_, ?_⟩
  · rcases List.mem_append.1 hy with hy | hy
    · refine OC.keep (h.each y hy) fun k hk => ?_
      have hin : k ∈ ys.flatMap LF.blk := List.mem_flatMap.2 ⟨y, hy, by simp [LF.blk, hk]⟩
      rw [hc4.block k (by have := hylt k hin; omega) (fun e => hvy k e hin), hc.block k (hylt k hin) (fun h => h)]
    · obtain rfl : y = x := by simpa using hy
      exact OC.keep hx fun k hk => hc4.block k (hxlt k hk) fun e => by have := hvlt k e; have := hxn k hk; omega
  · rw [List.flatMap_append] at hk
    rcases List.mem_append.1 hk with hk | hk
    · exact h.low2 k hk
    · have := hxn k (hxb k (by simpa using hk)); omega
  · unfold lblks
    rw [List.flatMap_append]
    have e : [x].flatMap LF.blk = x.blk := by simp
    rw [e]
    refine List.nodup_append.2 ⟨by cases sblk v' <;> simp, List.nodup_append.2 ⟨hnd.2.1, by unfold LF.blk; cases sblk x.sv <;> simp, fun a ha a' ha' e => ?_⟩, fun a ha a' ha' e => ?_⟩
    · have := hylt a ha; have := hxn a' (hxb a' ha'); omega
    · subst e
      have ha : sblk v' = some a := by simpa using ha
      rcases List.mem_append.1 ha' with hy | hy
      · rcases hb a ha with h1 | h1
        · exact hvy a h1 hy
        · have := hylt a hy; omega
      · have h2 := hxb a hy
        rcases hb a ha with h1 | h1
        · have := hvlt a h1; have := hxn a h2; omega
        · have := hxlt a h2; omega

set_option maxHeartbeats 16000000 in
theorem left_walk {S : List Fl} {q : Nat} (hq : (q : Int) ≤ 9223372036854775807) (hN : l.length ≤ 1099511627776) (hT : total S ≤ 1099511627776) (h : BkRaw w b v l) (hn : (l.map (·.name)).Nodup) (hf : FilesAt w fv lf) (hS : Sorted S) (hs : ∀ g ∈ S, g.sure ≤ g.bytes.length)
    (hP : (l.map LF.fl).Perm S) (hL : lf.map LF.fl = loseL q S) :
    Calls Try.prog 32 #[.pointer (some ⟨b, 0, none⟩), fv, .int .i64 (q : Int)] w fun e w' => e = .returned (.bool true) ∧ BkLeft w b (b :: lblks v l) (lf.map LF.fl) w' := by
  obtain ⟨p, c, rfl, hnc, -, -⟩ := id h.sl
  obtain ⟨pf, cf, rfl, hfc, -, -⟩ := id hf.sl
  have hll : lf.length ≤ l.length := by
    have h1 := congrArg List.length hL
    have h2 := len_lose q S
    have h3 := hP.length_eq
    simp only [List.length_map] at h1 h3
    omega
  have hlli : (l.length : Int) ≤ 1099511627776 := by omega
  have hlfi : (lf.length : Int) ≤ 1099511627776 := by omega
  have hnci : (l.length : Int) ≤ c := by omega
  have hfci : (lf.length : Int) ≤ cf := by omega
  have hq0 : (0 : Int) ≤ (q : Int) := by omega
  have hsl : Sorted (lf.map LF.fl) := by rw [hL]; exact lose_sorted hS
  have H := Lib.hid h
  have HF := Lib.hid hf
  have HN := Lib.hid hn
  have HNL := Lib.hid hN
  have HS := Lib.hid hsl
  have HSS := Lib.hid hS
  have HSU := Lib.hid hs
  have HP := Lib.hid hP
  have HL := Lib.hid hL
  have HT := Lib.hid hT
  clear h hf hn hsl hP hL hN hnc hfc hS hs hll hT
  go_enter Try.func32, Try.ntmps32
  go_wp2
  go_loopw [7, 8] (fun t7 t8 wr => ∃ pv nv cv, t7 = .slice pv nv cv ∧ ∃ (j : Nat) (ys : List LF), t8 = .int .i64 (j : Int) ∧ j ≤ lf.length ∧ LSt w wr (.slice pv nv cv) ys ∧ ys.map LF.fl = (lf.take j).map LF.fl) (fun _ t8 _ => lf.length - (Lib.intOf t8).toNat)
  case atStart => exact ⟨none, 0, 0, rfl, 0, [], rfl, Nat.zero_le _, ⟨⟨Chg.refl _ _, OC_nil _ _ _, fun k hk => (by cases hk)⟩, fun y hy => (by cases hy), fun k hk => (by cases hk), by simp [lblks]⟩, rfl⟩
  case round =>
    obtain ⟨pv, nv, cv, rfl, j, ys, rfl, hj, hLS, hys⟩ := hrel
    have HLS := Lib.hid hLS
    have HYS := Lib.hid hys
    have hc := hLS.g.chg
    clear hLS hys
    by_cases hjl : (j : Int) < lf.length
    · have hf1 := HF.out.chg (G := fun _ => False) hc fun _ _ h => h
      have h1 := H.out.quiet hc
      obtain ⟨fb, f, rfl, hfx, hfo, hfcap, y0, y1, y2⟩ := hf1.file (k := j) (by omega)
      have hj0 : (0 : Int) ≤ (j : Int) := by omega
      have e2 : f.sv = .slice f.p f.bytes.length f.cap := rfl
      rw [e2] at y1
      obtain ⟨i, x, hx, ex1, ex2, ex3, ex4, ex5, ex6, hmin⟩ := left_facts HSU.out HP.out HL.out hfx
      rw [ex6] at y2
      have HPG := Lib.hid (page_some (nm := f.name) HNL.out h1 HN.out hx ex1)
      obtain ⟨pb, x0, rfl, -, hnc1, hx0, hxc, hob, z0, z1, z2, -, -, -⟩ := h1.pg (k := i) (List.getElem?_eq_some_iff.1 hx).1
      obtain rfl : x0 = x := Option.some.inj (hx0.symm.trans hx)
      have e3 : x0.sv = .slice x0.p x0.bytes.length x0.cap := rfl
      rw [e3] at z1
      rw [ex1] at z0
      have hxl : x0.bytes.length ≤ 1099511627776 := Nat.le_trans (get_le (get_of_mem HSS.out.nodup (HP.out.subset (List.mem_map_of_mem (List.mem_of_getElem? hx))))) HT.out
      have hi0 : (0 : Int) ≤ (i : Int) := by omega
      have hil : (i : Int) < (l.length : Int) := by have := (List.getElem?_eq_some_iff.1 hx).1; omega
      have hi1 : decide ((i : Int) < 0) = false := by simp
      have c0 := hcell_of h1.head 0
      simp only [List.getElem?_toArray, List.getElem?_cons_zero] at c0
      have HF1 := Lib.hid hf1
      have HFO := Lib.hid hfo
      have HOB := Lib.hid hob
      have HEX := Lib.hid (And.intro ex2 (And.intro ex4 (And.intro ex5 (And.intro hxl (And.intro hxc ex6)))))
      have HFX := Lib.hid hfx
      have HE1 := Lib.hid ex1
      have d1 : ((f.bytes.length : Int) == 0) = false := beq_eq_false_iff_ne.2 (by omega)
      have d2 : decide ((f.bytes.length : Int) < (x0.sure : Int)) = false := by simp; omega
      have d2n : decide (f.bytes.length < x0.sure) = false := by simp; omega
      have d3 : decide ((x0.bytes.length : Int) < (f.bytes.length : Int)) = false := by simp; omega
      have d3n : decide (x0.bytes.length < f.bytes.length) = false := by simp; omega
      have d4 : (f.bytes.length : Int) ≤ x0.cap := by omega
      have d5 : (x0.bytes.length : Int) ≤ 1099511627776 := by omega
      have d6 : (x0.sure : Int) ≤ (f.bytes.length : Int) := by omega
      have d7 : (f.bytes.length : Int) ≤ (x0.bytes.length : Int) := by omega
      by_cases hz : (0 : Int) < (j : Int)
      · obtain ⟨k, hk⟩ : ∃ k : Nat, (j : Int) - 1 = (k : Int) := ⟨j - 1, by omega⟩
        obtain ⟨fb', f', he', hfx', -, -, y3, y4, y5⟩ := hf1.file (k := k) (by omega)
        obtain rfl : fb = fb' := by simpa using he'
        have hlt : nlt f'.name f.name := by
          have hs := HS.out
          unfold Sorted at hs
          rw [List.pairwise_map] at hs
          obtain ⟨h1, rfl⟩ := List.getElem?_eq_some_iff.1 hfx'
          obtain ⟨h2, rfl⟩ := List.getElem?_eq_some_iff.1 hfx
          exact List.pairwise_iff_getElem.1 hs k j h1 h2 (by omega)
        have hls := less_of2 hlt
        have hzn : decide (0 < j) = true := by simp; omega
        have hzd : decide ((0 : Int) < (j : Int)) = true := by simp; omega
        have hk0 : (0 : Int) ≤ (k : Int) := by omega
        have hkl : (k : Int) < lf.length := by omega
        clear hz hc hf1 h1 hfo hob hx0 hx e2 e3 hfx hnc1 ex1 ex2 ex3 ex4 ex5 ex6 hxl hxc hfcap hfx' he' hlt y4 y5
        go_wp2_with (first | (go_at_call 52; refine stop ?_))
        refine go ?_
        refine HPG.out.mono ?_
        rintro e w' ⟨rfl, rfl⟩
        go_wp2
        refine Rx.ws_region (fun _ => True) [(0, .r), (1, .r), (2, .r), (3, .r), (4, .r), (5, .r), (6, .r), (7, .r), (8, .r), (9, .r), (10, .r), (11, .r), (12, .r), (13, .r), (14, .r), (15, .r), (16, .r), (17, .r), (18, .r), (19, .r)] (by kernel_rfl) (by kernel_rfl) trivial (fun _ _ x _ _ h => (by cases x <;> exact h)) ?_
        iterate 20 (refine Rx.ws_q rfl rfl ?_; go_wp2; refine Rx.atS_mk ?_)
        refine Rx.ws_nil ?_
        have hC2 : Chg (fun _ => False) wr (wr.alloc (.cells #[.string f.name, .slice x0.p x0.bytes.length x0.cap, .int .i64 (x0.sure : Int)] 92)) := (Chg.refl (fun _ => False) wr).alloc _
        have HB2 := Lib.hid (halloc_at wr (.cells #[.string f.name, .slice x0.p x0.bytes.length x0.cap, .int .i64 (x0.sure : Int)] 92))
        have HF2 := Lib.hid (HF1.out.chg (G := fun _ => False) hC2 fun _ _ h => h)
        obtain ⟨fb2, f2, he2, hfx2, -, -, yy0, yy1, yy2⟩ := HF2.out.file (k := j) (by omega)
        obtain rfl : fb = fb2 := by simpa using he2
        obtain rfl : f = f2 := Option.some.inj (HFX.out.symm.trans hfx2)
        rw [show f.sv = .slice f.p f.bytes.length f.cap from rfl] at yy1
        rw [HEX.out.2.2.2.2.2] at yy2
        have HC2 := Lib.hid hC2
        clear hC2 he2 hfx2
        go_wp2
        generalize wr.alloc (.cells #[.string f.name, .slice x0.p x0.bytes.length x0.cap, .int .i64 (x0.sure : Int)] 92) = w2 at HB2 HF2 HC2 yy0 yy1 yy2 ⊢
        clear y0 y1 y2 z0 z1 z2 c0
        have b0 := hcell_of HB2.out 0
        have b1 := hcell_of HB2.out 1
        have b2 := hcell_of HB2.out 2
        simp only [List.getElem?_toArray, List.getElem?_cons_zero, List.getElem?_cons_succ] at b0 b1 b2
        have HSM := Lib.hid fun U (hU : Chg (fun _ => False) w2 U) => same_true (w := U) (v := .slice f.p f.bytes.length f.cap) (v' := .slice x0.p f.bytes.length x0.cap) (l := f.bytes) (OB.rb (OC.chg HFO.out (HC2.out.trans hU fun _ h => h.elim) fun _ _ h => h)) (by
          have h1 := RB.takeQ2 (OB.rb (OC.chg HOB.out (HC2.out.trans hU fun _ h => h.elim) fun _ _ h => h)) f.bytes.length HEX.out.2.2.1
          rw [HEX.out.1] at h1
          exact h1)
        refine Rx.ws_region (fun _ => True) [(0, .r), (1, .r), (2, .r), (3, .r), (4, .r), (5, .r), (6, .r), (7, .r), (8, .r), (9, .r), (10, .r), (11, .r), (12, .r), (13, .r), (14, .r), (15, .r), (16, .r), (17, .r), (18, .r), (19, .r), (20, .r), (21, .r), (22, .r), (23, .r), (24, .r), (25, .e), (26, .r), (27, .r), (28, .r), (29, .r), (30, .r), (31, .r), (32, .r), (33, .r), (34, .r), (35, .r), (36, .r)] (by kernel_rfl) (by kernel_rfl) trivial (fun _ _ x _ _ h => (by cases x <;> exact h)) ?_
        iterate 25 (refine Rx.ws_q rfl rfl ?_; go_wp2; refine Rx.atS_mk ?_)
        refine Rx.ws_e rfl ?_
        go_wp2_with (first | (go_at_call 53; refine stop ?_))
        refine go ?_
        refine (HSM.out _ (by first | exact (Chg.refl (fun _ => False) _).drew | exact (Chg.refl (fun _ => False) _).drewN _ | exact ((Chg.refl (fun _ => False) _).drew).drew | exact Chg.refl _ _)).mono ?_
        rintro e w' ⟨rfl, rfl⟩
        go_wp2
        refine ⟨trivial, ?_⟩
        iterate 11 (refine Rx.ws_q rfl rfl ?_; go_wp2; refine Rx.atS_mk ?_)
        refine Rx.ws_nil ?_
        go_wp2
        have HCP := Lib.hid fun U (hU : Chg (fun _ => False) w2 U) => copied_any (w := U) (v := .slice f.p f.bytes.length f.cap) (l := f.bytes) (by have h1 := HEX.out; omega) (OB.rb (OC.chg HFO.out (HC2.out.trans hU fun _ h => h.elim) fun _ _ h => h))
        refine Rx.ws_region (fun w' => w'.cell? ⟨wr.heap.size, 0, none⟩ = some (.string f.name)) [(3, .r), (4, .r), (5, .r), (6, .r), (7, .r), (0, .h), (1, .h), (9, .h), (2, .h), (8, .e), (10, .r), (11, .e), (12, .e), (13, .r)] (by kernel_rfl) (by kernel_rfl) (b0) (fun _ _ x _ _ h => (by cases x <;> exact h)) ?_
        iterate 5 (refine Rx.ws_q rfl rfl ?_; go_wp2; refine Rx.atS_mk ?_)
        iterate 4 (refine Rx.ws_h (v := ?_) rfl rfl ?_ ?_; rotate_left; (intro w' hS'; go_simp; try with_reducible rfl))
        refine Rx.ws_e rfl ?_
        go_wp2_with (first | (go_at_call 20; refine stop ?_))
        refine go ?_
        refine (HCP.out _ (by first | exact (((Chg.refl (fun _ => False) _).drew).drew).drew | exact ((Chg.refl (fun _ => False) _).drew).drew | exact (Chg.refl (fun _ => False) _).drewN _)).mono ?_
        rintro e w5 ⟨v5, rfl, o5, c5, n5⟩
        obtain ⟨p5, l5, cc5, rfl⟩ : ∃ p l c, v5 = .slice p l c := (by obtain ⟨p3, cc3, e, -⟩ := id o5; exact ⟨_, _, _, e⟩)
        obtain rfl : f.bytes.length = l5 := (OB_len2 o5).symm
        have c5 : Chg (fun _ => False) w2 w5 := (by first | exact ((((Chg.refl (fun _ => False) _).drew).drew).drew).trans c5 (fun k hk => hk.elim) | exact (((Chg.refl (fun _ => False) _).drew).drew).trans c5 (fun k hk => hk.elim))
        have hb5 := (c5.block _ (hlt_of HB2.out) (fun h => h)).trans HB2.out
        have k5 := (hcell_of hb5 0).trans rfl
        have hb6 := (halloc_lt (o := (.cells #[.string f.name, .slice p5 f.bytes.length cc5, .int .i64 (f.bytes.length : Int)] 92)) (hlt_of hb5)).trans hb5
        have K5 := Lib.hid k5
        have K6 := Lib.hid ((hcell_of hb6 0).trans rfl)
        have HB6 := Lib.hid hb6
        have O5 := Lib.hid o5
        have C5 := Lib.hid (HC2.out.trans c5 fun _ h => h.elim)
        have N5 : Hid (∀ k, sblk (.slice p5 f.bytes.length cc5) = some k → wr.heap.size ≤ k) := Lib.hid (fun k hk => Nat.le_trans HC2.out.size (n5 k hk))
        have HSL := Lib.hid (OC.chg HLS.out.g.oc (C5.out.alloc (.cells #[.string f.name, .slice p5 f.bytes.length cc5, .int .i64 (f.bytes.length : Int)] 92)) fun _ _ h => h)
        have HRC := Lib.hid (OC_new w5 3 92 #[.string f.name, .slice p5 f.bytes.length cc5, .int .i64 (f.bytes.length : Int)] 1 1 (by decide) (by unfold maxLen; decide) rfl).rc
        clear o5 c5 n5 hb5 k5 hb6
        go_wp2
        refine ⟨(by exact K5.out), ?_⟩
        (refine Rx.ws_q rfl rfl ?_; go_wp2; refine Rx.atS_mk ?_)
        refine Rx.ws_e rfl ?_
        go_wp2
        refine ⟨(by exact K6.out), ?_⟩
        refine Rx.ws_e rfl ?_
        (obtain ⟨i0, hi, hz0, hz1, hz2⟩ := info_parts info_page)
        refine wpList_append_oc rfl _ _ 52 rfl 92 i0 _ 3 48 Try.underlying52 hi hz0 hz1 hz2 rfl (by decide) rfl rfl HSL.out HRC.out (by intro u hu; simp at hu; rcases hu with rfl | rfl | rfl <;> rfl) (by decide) (by have h1 := congrArg List.length HYS.out; simp only [List.length_map, List.length_take] at h1; omega) ?_
        intro v' w8 d1' d2' d3' d4'
        obtain ⟨pv', cv', rfl, -⟩ := id d1'
        have S8 := Lib.hid (HLS.out.push (x := ⟨f.name, p5, cc5, f.bytes, f.bytes.length⟩) (C5.out.alloc (.cells #[.string f.name, .slice p5 f.bytes.length cc5, .int .i64 (f.bytes.length : Int)] 92)) (OC.chg O5.out ((Chg.refl (fun _ => False) w5).alloc _) fun _ _ h => h) N5.out d1' d2' d3')
        have K8 := Lib.hid ((hcell_of ((d2'.block wr.heap.size (hlt_of HB6.out) (fun e => by have := OC.lt HLS.out.g.oc e; omega)).trans HB6.out) 0).trans rfl)
        clear d1' d2' d3' d4' hi hz0 hz1 hz2
        go_wp2
        refine ⟨(by exact K8.out), ?_⟩
        (refine Rx.ws_q rfl rfl ?_; go_wp2; refine Rx.atS_mk ?_)
        refine Rx.ws_nil ?_
        have hys2 : (ys ++ [(⟨f.name, p5, cc5, f.bytes, f.bytes.length⟩ : LF)]).map LF.fl = (lf.take (j + 1)).map LF.fl := by
          rw [List.take_add_one, HFX.out, List.map_append, List.map_append, HYS.out]
          simp [LF.fl, HEX.out.2.2.2.2.2]
        have HYS2 := Lib.hid hys2
        clear hys2
        go_wp2
        go_roundw
        case rel => exact ⟨_, _, _, rfl, j + 1, _, by go_num, by omega, S8.out, HYS2.out⟩
        case measure => simp [Lib.intOf]; omega
      · have hzn : decide (0 < j) = false := by simp; omega
        have hzd : decide ((0 : Int) < (j : Int)) = false := by simp; omega
        clear hz hc hf1 h1 hfo hob hx0 hx e2 e3 hfx hnc1 ex1 ex2 ex3 ex4 ex5 ex6 hxl hxc hfcap
        go_wp2_with (first | (go_at_call 52; refine stop ?_))
        refine go ?_
        refine HPG.out.mono ?_
        rintro e w' ⟨rfl, rfl⟩
        go_wp2
        refine Rx.ws_region (fun _ => True) [(0, .r), (1, .r), (2, .r), (3, .r), (4, .r), (5, .r), (6, .r), (7, .r), (8, .r), (9, .r), (10, .r), (11, .r), (12, .r), (13, .r), (14, .r), (15, .r), (16, .r), (17, .r), (18, .r), (19, .r)] (by kernel_rfl) (by kernel_rfl) trivial (fun _ _ x _ _ h => (by cases x <;> exact h)) ?_
        iterate 20 (refine Rx.ws_q rfl rfl ?_; go_wp2; refine Rx.atS_mk ?_)
        refine Rx.ws_nil ?_
        have hC2 : Chg (fun _ => False) wr (wr.alloc (.cells #[.string f.name, .slice x0.p x0.bytes.length x0.cap, .int .i64 (x0.sure : Int)] 92)) := (Chg.refl (fun _ => False) wr).alloc _
        have HB2 := Lib.hid (halloc_at wr (.cells #[.string f.name, .slice x0.p x0.bytes.length x0.cap, .int .i64 (x0.sure : Int)] 92))
        have HF2 := Lib.hid (HF1.out.chg (G := fun _ => False) hC2 fun _ _ h => h)
        obtain ⟨fb2, f2, he2, hfx2, -, -, yy0, yy1, yy2⟩ := HF2.out.file (k := j) (by omega)
        obtain rfl : fb = fb2 := by simpa using he2
        obtain rfl : f = f2 := Option.some.inj (HFX.out.symm.trans hfx2)
        rw [show f.sv = .slice f.p f.bytes.length f.cap from rfl] at yy1
        rw [HEX.out.2.2.2.2.2] at yy2
        have HC2 := Lib.hid hC2
        clear hC2 he2 hfx2
        go_wp2
        generalize wr.alloc (.cells #[.string f.name, .slice x0.p x0.bytes.length x0.cap, .int .i64 (x0.sure : Int)] 92) = w2 at HB2 HF2 HC2 yy0 yy1 yy2 ⊢
        clear y0 y1 y2 z0 z1 z2 c0
        have b0 := hcell_of HB2.out 0
        have b1 := hcell_of HB2.out 1
        have b2 := hcell_of HB2.out 2
        simp only [List.getElem?_toArray, List.getElem?_cons_zero, List.getElem?_cons_succ] at b0 b1 b2
        have HSM := Lib.hid fun U (hU : Chg (fun _ => False) w2 U) => same_true (w := U) (v := .slice f.p f.bytes.length f.cap) (v' := .slice x0.p f.bytes.length x0.cap) (l := f.bytes) (OB.rb (OC.chg HFO.out (HC2.out.trans hU fun _ h => h.elim) fun _ _ h => h)) (by
          have h1 := RB.takeQ2 (OB.rb (OC.chg HOB.out (HC2.out.trans hU fun _ h => h.elim) fun _ _ h => h)) f.bytes.length HEX.out.2.2.1
          rw [HEX.out.1] at h1
          exact h1)
        refine Rx.ws_region (fun _ => True) [(0, .r), (1, .r), (2, .r), (3, .r), (4, .r), (5, .r), (6, .r), (7, .r), (8, .r), (9, .r), (10, .r), (11, .r), (12, .r), (13, .r), (14, .r), (15, .r), (16, .r), (17, .r), (18, .r), (19, .r), (20, .r), (21, .r), (22, .r), (23, .r), (24, .r), (25, .e), (26, .r), (27, .r), (28, .r), (29, .r), (30, .r), (31, .r), (32, .r), (33, .r), (34, .r), (35, .r), (36, .r)] (by kernel_rfl) (by kernel_rfl) trivial (fun _ _ x _ _ h => (by cases x <;> exact h)) ?_
        iterate 25 (refine Rx.ws_q rfl rfl ?_; go_wp2; refine Rx.atS_mk ?_)
        refine Rx.ws_e rfl ?_
        go_wp2_with (first | (go_at_call 53; refine stop ?_))
        refine go ?_
        refine (HSM.out _ (by first | exact (Chg.refl (fun _ => False) _).drew | exact (Chg.refl (fun _ => False) _).drewN _ | exact ((Chg.refl (fun _ => False) _).drew).drew | exact Chg.refl _ _)).mono ?_
        rintro e w' ⟨rfl, rfl⟩
        go_wp2
        refine ⟨trivial, ?_⟩
        iterate 11 (refine Rx.ws_q rfl rfl ?_; go_wp2; refine Rx.atS_mk ?_)
        refine Rx.ws_nil ?_
        go_wp2
        have HCP := Lib.hid fun U (hU : Chg (fun _ => False) w2 U) => copied_any (w := U) (v := .slice f.p f.bytes.length f.cap) (l := f.bytes) (by have h1 := HEX.out; omega) (OB.rb (OC.chg HFO.out (HC2.out.trans hU fun _ h => h.elim) fun _ _ h => h))
        refine Rx.ws_region (fun w' => w'.cell? ⟨wr.heap.size, 0, none⟩ = some (.string f.name)) [(3, .r), (4, .r), (5, .r), (6, .r), (7, .r), (0, .h), (1, .h), (9, .h), (2, .h), (8, .e), (10, .r), (11, .e), (12, .e), (13, .r)] (by kernel_rfl) (by kernel_rfl) (b0) (fun _ _ x _ _ h => (by cases x <;> exact h)) ?_
        iterate 5 (refine Rx.ws_q rfl rfl ?_; go_wp2; refine Rx.atS_mk ?_)
        iterate 4 (refine Rx.ws_h (v := ?_) rfl rfl ?_ ?_; rotate_left; (intro w' hS'; go_simp; try with_reducible rfl))
        refine Rx.ws_e rfl ?_
        go_wp2_with (first | (go_at_call 20; refine stop ?_))
        refine go ?_
        refine (HCP.out _ (by first | exact (((Chg.refl (fun _ => False) _).drew).drew).drew | exact ((Chg.refl (fun _ => False) _).drew).drew | exact (Chg.refl (fun _ => False) _).drewN _)).mono ?_
        rintro e w5 ⟨v5, rfl, o5, c5, n5⟩
        obtain ⟨p5, l5, cc5, rfl⟩ : ∃ p l c, v5 = .slice p l c := (by obtain ⟨p3, cc3, e, -⟩ := id o5; exact ⟨_, _, _, e⟩)
        obtain rfl : f.bytes.length = l5 := (OB_len2 o5).symm
        have c5 : Chg (fun _ => False) w2 w5 := (by first | exact ((((Chg.refl (fun _ => False) _).drew).drew).drew).trans c5 (fun k hk => hk.elim) | exact (((Chg.refl (fun _ => False) _).drew).drew).trans c5 (fun k hk => hk.elim))
        have hb5 := (c5.block _ (hlt_of HB2.out) (fun h => h)).trans HB2.out
        have k5 := (hcell_of hb5 0).trans rfl
        have hb6 := (halloc_lt (o := (.cells #[.string f.name, .slice p5 f.bytes.length cc5, .int .i64 (f.bytes.length : Int)] 92)) (hlt_of hb5)).trans hb5
        have K5 := Lib.hid k5
        have K6 := Lib.hid ((hcell_of hb6 0).trans rfl)
        have HB6 := Lib.hid hb6
        have O5 := Lib.hid o5
        have C5 := Lib.hid (HC2.out.trans c5 fun _ h => h.elim)
        have N5 : Hid (∀ k, sblk (.slice p5 f.bytes.length cc5) = some k → wr.heap.size ≤ k) := Lib.hid (fun k hk => Nat.le_trans HC2.out.size (n5 k hk))
        have HSL := Lib.hid (OC.chg HLS.out.g.oc (C5.out.alloc (.cells #[.string f.name, .slice p5 f.bytes.length cc5, .int .i64 (f.bytes.length : Int)] 92)) fun _ _ h => h)
        have HRC := Lib.hid (OC_new w5 3 92 #[.string f.name, .slice p5 f.bytes.length cc5, .int .i64 (f.bytes.length : Int)] 1 1 (by decide) (by unfold maxLen; decide) rfl).rc
        clear o5 c5 n5 hb5 k5 hb6
        go_wp2
        refine ⟨(by exact K5.out), ?_⟩
        (refine Rx.ws_q rfl rfl ?_; go_wp2; refine Rx.atS_mk ?_)
        refine Rx.ws_e rfl ?_
        go_wp2
        refine ⟨(by exact K6.out), ?_⟩
        refine Rx.ws_e rfl ?_
        (obtain ⟨i0, hi, hz0, hz1, hz2⟩ := info_parts info_page)
        refine wpList_append_oc rfl _ _ 52 rfl 92 i0 _ 3 48 Try.underlying52 hi hz0 hz1 hz2 rfl (by decide) rfl rfl HSL.out HRC.out (by intro u hu; simp at hu; rcases hu with rfl | rfl | rfl <;> rfl) (by decide) (by have h1 := congrArg List.length HYS.out; simp only [List.length_map, List.length_take] at h1; omega) ?_
        intro v' w8 d1' d2' d3' d4'
        obtain ⟨pv', cv', rfl, -⟩ := id d1'
        have S8 := Lib.hid (HLS.out.push (x := ⟨f.name, p5, cc5, f.bytes, f.bytes.length⟩) (C5.out.alloc (.cells #[.string f.name, .slice p5 f.bytes.length cc5, .int .i64 (f.bytes.length : Int)] 92)) (OC.chg O5.out ((Chg.refl (fun _ => False) w5).alloc _) fun _ _ h => h) N5.out d1' d2' d3')
        have K8 := Lib.hid ((hcell_of ((d2'.block wr.heap.size (hlt_of HB6.out) (fun e => by have := OC.lt HLS.out.g.oc e; omega)).trans HB6.out) 0).trans rfl)
        clear d1' d2' d3' d4' hi hz0 hz1 hz2
        go_wp2
        refine ⟨(by exact K8.out), ?_⟩
        (refine Rx.ws_q rfl rfl ?_; go_wp2; refine Rx.atS_mk ?_)
        refine Rx.ws_nil ?_
        have hys2 : (ys ++ [(⟨f.name, p5, cc5, f.bytes, f.bytes.length⟩ : LF)]).map LF.fl = (lf.take (j + 1)).map LF.fl := by
          rw [List.take_add_one, HFX.out, List.map_append, List.map_append, HYS.out]
          simp [LF.fl, HEX.out.2.2.2.2.2]
        have HYS2 := Lib.hid hys2
        clear hys2
        go_wp2
        go_roundw
        case rel => exact ⟨_, _, _, rfl, j + 1, _, by go_num, by omega, S8.out, HYS2.out⟩
        case measure => simp [Lib.intOf]; omega
    · have hje : lf.take j = lf := List.take_of_length_le (by omega)
      have hys := HYS.out
      rw [hje] at hys
      have HYS2 := Lib.hid hys
      have h1 := H.out.quiet hc
      have c0 := hcell_of h1.head 0
      simp only [List.getElem?_toArray, List.getElem?_cons_zero] at c0
      obtain ⟨wo, rfl⟩ : ∃ wo : World, wo = wr := ⟨_, rfl⟩
      clear hys hje h1
      go_wp2
      clear hjl c0
      go_loopw [12] (fun t12 wr => ∃ j : Nat, t12 = .int .i64 (j : Int) ∧ j ≤ l.length ∧ Chg (fun _ => False) wo wr) (fun t12 _ => l.length - (Lib.intOf t12).toNat)
      case atStart => exact ⟨0, rfl, Nat.zero_le _, Chg.refl _ _⟩
      case round =>
        obtain ⟨j2, rfl, hj2, hc2⟩ := hrel
        have HC := Lib.hid hc2
        have h1 := H.out.quiet (hc.trans hc2 fun _ h => h.elim)
        have c0 := hcell_of h1.head 0
        have cf0 := hfree_of h1.head 0
        simp only [List.getElem?_toArray, List.getElem?_cons_zero] at c0
        by_cases hjl2 : (j2 : Int) < l.length
        · obtain ⟨pb, x, rfl, -, -, hx, hxc, -, z0, z1, z2, -, -, -⟩ := h1.pg (k := j2) (by omega)
          have hj0 : (0 : Int) ≤ (j2 : Int) := by omega
          have e3 : x.sv = .slice x.p x.bytes.length x.cap := rfl
          rw [e3] at z1
          have hkt := there_kept HSS.out HSU.out HP.out HL.out (List.mem_of_getElem? hx)
          have HB2 := Lib.hid (halloc_at wr (.cells #[.string x.name, .slice x.p x.bytes.length x.cap, .int .i64 (x.sure : Int)] 92))
          have HF2 := Lib.hid (HF.out.chg (G := fun _ => False) ((hc.trans hc2 fun _ h => h.elim).alloc (.cells #[.string x.name, .slice x.p x.bytes.length x.cap, .int .i64 (x.sure : Int)] 92)) fun _ _ h => h)
          clear hx hxc h1 e3 cf0
          by_cases s0 : 0 < x.sure
          · have s1 : decide (0 < x.sure) = true := by simpa using s0
            have s2 : decide ((0 : Int) < (x.sure : Int)) = true := by simp; omega
            rw [s1] at hkt
            have HKT : Hid (thereB x.name lf = true) := Lib.hid (by rw [hkt]; rfl)
            clear hkt s0 hc2
            go_wp2
            go_loopw [15, 16] (fun t15 t16 wi => ∃ k : Nat, t16 = .int .i64 (k : Int) ∧ k ≤ lf.length ∧ t15 = .bool (thereB x.name (lf.take k)) ∧ Chg (fun _ => False) (wr.alloc (.cells #[.string x.name, .slice x.p x.bytes.length x.cap, .int .i64 (x.sure : Int)] 92)) wi) (fun _ t16 _ => lf.length - (Lib.intOf t16).toNat)
            case atStart => exact ⟨0, rfl, Nat.zero_le _, rfl, Chg.refl _ _⟩
            case round =>
              obtain ⟨k, rfl, hk, rfl, hc3⟩ := hrel
              have HC3 := Lib.hid hc3
              by_cases hkl : (k : Int) < lf.length
              · have hf3 := HF2.out.chg (G := fun _ => False) hc3 fun _ _ h => h
                obtain ⟨fb, f, rfl, hfx, -, -, y0, y1, y2⟩ := hf3.file (k := k) (by omega)
                have b0 := hcell_of ((hc3.block _ (hlt_of HB2.out) (fun h => h)).trans HB2.out) 0
                simp only [List.getElem?_toArray, List.getElem?_cons_zero] at b0
                have hk0 : (0 : Int) ≤ (k : Int) := by omega
                have hst : thereB x.name (lf.take (k + 1)) = (thereB x.name (lf.take k) || (f.name == x.name)) := by
                  rw [List.take_add_one, hfx]; exact there_snoc _ _ _
                have HST := Lib.hid hst
                clear hc3 hf3 hfx hst z0 z1 z2 c0
                cases hb : thereB x.name (lf.take k) with
                | true =>
                  have HST2 : Hid (thereB x.name (lf.take (k + 1)) = true) := Lib.hid (by rw [HST.out, hb]; rfl)
                  clear hb
                  go_wp2
                  refine Rx.ws_region (fun _ => True) [(0, .r), (1, .r), (2, .r), (3, .r), (4, .r), (5, .r), (6, .r), (7, .r), (8, .r), (9, .r), (10, .r), (11, .r)] (by kernel_rfl) (by kernel_rfl) trivial (fun _ _ x _ _ h => (by cases x <;> exact h)) ?_
                  iterate 12 (refine Rx.ws_q rfl rfl ?_; go_wp2; refine Rx.atS_mk ?_)
                  refine Rx.ws_nil ?_
                  go_wp2
                  go_roundw
                  case rel => exact ⟨k + 1, by go_num, by omega, by rw [HST2.out], by first | exact HC3.out.drew | exact HC3.out⟩
                  case measure => simp [Lib.intOf]; omega
                | false =>
                  by_cases hn : f.name = x.name
                  · have HST2 : Hid (thereB x.name (lf.take (k + 1)) = true) := Lib.hid (by rw [HST.out, hb, hn]; simp)
                    rw [hn] at y0
                    clear hb hn
                    go_wp2
                    refine Rx.ws_region (fun _ => True) [(0, .r), (1, .r), (2, .r), (3, .r), (4, .r), (5, .r), (6, .r), (7, .r), (8, .r), (9, .r), (10, .r), (11, .r)] (by kernel_rfl) (by kernel_rfl) trivial (fun _ _ x _ _ h => (by cases x <;> exact h)) ?_
                    iterate 12 (refine Rx.ws_q rfl rfl ?_; go_wp2; refine Rx.atS_mk ?_)
                    refine Rx.ws_nil ?_
                    go_wp2
                    go_roundw
                    case rel => exact ⟨k + 1, by go_num, by omega, by rw [HST2.out] <;> try simp, by first | exact HC3.out.drew | exact HC3.out⟩
                    case measure => simp [Lib.intOf]; omega
                  · have g0 := toList_ne hn
                    have HST2 : Hid (thereB x.name (lf.take (k + 1)) = false) := Lib.hid (by rw [HST.out, hb]; simpa using hn)
                    clear hb hn
                    go_wp2
                    refine Rx.ws_region (fun _ => True) [(0, .r), (1, .r), (2, .r), (3, .r), (4, .r), (5, .r), (6, .r), (7, .r), (8, .r), (9, .r), (10, .r), (11, .r)] (by kernel_rfl) (by kernel_rfl) trivial (fun _ _ x _ _ h => (by cases x <;> exact h)) ?_
                    iterate 12 (refine Rx.ws_q rfl rfl ?_; go_wp2; refine Rx.atS_mk ?_)
                    refine Rx.ws_nil ?_
                    go_wp2
                    go_roundw
                    case rel => exact ⟨k + 1, by go_num, by omega, by rw [HST2.out] <;> try simp [g0], by first | exact HC3.out.drew | exact HC3.out⟩
                    case measure => simp [Lib.intOf]; omega
              · have hke : lf.take k = lf := List.take_of_length_le (by omega)
                rw [hke, HKT.out]
                have HC4 := Lib.hid ((HC.out.alloc (.cells #[.string x.name, .slice x.p x.bytes.length x.cap, .int .i64 (x.sure : Int)] 92)).trans hc3 fun _ h => h.elim)
                clear hke z0 z1 z2 c0 hc3
                go_wp2
                go_roundw
                case rel => exact ⟨j2 + 1, by go_num, by omega, HC4.out⟩
                case measure => simp [Lib.intOf]; omega
          · have s1 : decide (0 < x.sure) = false := by simp; omega
            have s2 : decide ((0 : Int) < (x.sure : Int)) = false := by simp; omega
            by_cases q0 : 0 < q
            · have q1 : decide (0 < q) = true := by simpa using q0
              have q2 : decide ((0 : Int) < (q : Int)) = true := by simp; omega
              by_cases l0 : 0 < x.bytes.length
              · have l1 : decide (0 < x.bytes.length) = true := by simpa using l0
                have l2 : decide ((0 : Int) < (x.bytes.length : Int)) = true := by simp; omega
                have HKT : Hid (thereB x.name lf = true) := Lib.hid (by rw [hkt, s1, q1, l1]; rfl)
                clear hkt s0 q0 l0 hc2
                go_wp2
                go_loopw [15, 16] (fun t15 t16 wi => ∃ k : Nat, t16 = .int .i64 (k : Int) ∧ k ≤ lf.length ∧ t15 = .bool (thereB x.name (lf.take k)) ∧ Chg (fun _ => False) (wr.alloc (.cells #[.string x.name, .slice x.p x.bytes.length x.cap, .int .i64 (x.sure : Int)] 92)) wi) (fun _ t16 _ => lf.length - (Lib.intOf t16).toNat)
                case atStart => exact ⟨0, rfl, Nat.zero_le _, rfl, Chg.refl _ _⟩
                case round =>
                  obtain ⟨k, rfl, hk, rfl, hc3⟩ := hrel
                  have HC3 := Lib.hid hc3
                  by_cases hkl : (k : Int) < lf.length
                  · have hf3 := HF2.out.chg (G := fun _ => False) hc3 fun _ _ h => h
                    obtain ⟨fb, f, rfl, hfx, -, -, y0, y1, y2⟩ := hf3.file (k := k) (by omega)
                    have b0 := hcell_of ((hc3.block _ (hlt_of HB2.out) (fun h => h)).trans HB2.out) 0
                    simp only [List.getElem?_toArray, List.getElem?_cons_zero] at b0
                    have hk0 : (0 : Int) ≤ (k : Int) := by omega
                    have hst : thereB x.name (lf.take (k + 1)) = (thereB x.name (lf.take k) || (f.name == x.name)) := by
                      rw [List.take_add_one, hfx]; exact there_snoc _ _ _
                    have HST := Lib.hid hst
                    clear hc3 hf3 hfx hst z0 z1 z2 c0
                    cases hb : thereB x.name (lf.take k) with
                    | true =>
                      have HST2 : Hid (thereB x.name (lf.take (k + 1)) = true) := Lib.hid (by rw [HST.out, hb]; rfl)
                      clear hb
                      go_wp2
                      refine Rx.ws_region (fun _ => True) [(0, .r), (1, .r), (2, .r), (3, .r), (4, .r), (5, .r), (6, .r), (7, .r), (8, .r), (9, .r), (10, .r), (11, .r)] (by kernel_rfl) (by kernel_rfl) trivial (fun _ _ x _ _ h => (by cases x <;> exact h)) ?_
                      iterate 12 (refine Rx.ws_q rfl rfl ?_; go_wp2; refine Rx.atS_mk ?_)
                      refine Rx.ws_nil ?_
                      go_wp2
                      go_roundw
                      case rel => exact ⟨k + 1, by go_num, by omega, by rw [HST2.out], by first | exact HC3.out.drew | exact HC3.out⟩
                      case measure => simp [Lib.intOf]; omega
                    | false =>
                      by_cases hn : f.name = x.name
                      · have HST2 : Hid (thereB x.name (lf.take (k + 1)) = true) := Lib.hid (by rw [HST.out, hb, hn]; simp)
                        rw [hn] at y0
                        clear hb hn
                        go_wp2
                        refine Rx.ws_region (fun _ => True) [(0, .r), (1, .r), (2, .r), (3, .r), (4, .r), (5, .r), (6, .r), (7, .r), (8, .r), (9, .r), (10, .r), (11, .r)] (by kernel_rfl) (by kernel_rfl) trivial (fun _ _ x _ _ h => (by cases x <;> exact h)) ?_
                        iterate 12 (refine Rx.ws_q rfl rfl ?_; go_wp2; refine Rx.atS_mk ?_)
                        refine Rx.ws_nil ?_
                        go_wp2
                        go_roundw
                        case rel => exact ⟨k + 1, by go_num, by omega, by rw [HST2.out] <;> try simp, by first | exact HC3.out.drew | exact HC3.out⟩
                        case measure => simp [Lib.intOf]; omega
                      · have g0 := toList_ne hn
                        have HST2 : Hid (thereB x.name (lf.take (k + 1)) = false) := Lib.hid (by rw [HST.out, hb]; simpa using hn)
                        clear hb hn
                        go_wp2
                        refine Rx.ws_region (fun _ => True) [(0, .r), (1, .r), (2, .r), (3, .r), (4, .r), (5, .r), (6, .r), (7, .r), (8, .r), (9, .r), (10, .r), (11, .r)] (by kernel_rfl) (by kernel_rfl) trivial (fun _ _ x _ _ h => (by cases x <;> exact h)) ?_
                        iterate 12 (refine Rx.ws_q rfl rfl ?_; go_wp2; refine Rx.atS_mk ?_)
                        refine Rx.ws_nil ?_
                        go_wp2
                        go_roundw
                        case rel => exact ⟨k + 1, by go_num, by omega, by rw [HST2.out] <;> try simp [g0], by first | exact HC3.out.drew | exact HC3.out⟩
                        case measure => simp [Lib.intOf]; omega
                  · have hke : lf.take k = lf := List.take_of_length_le (by omega)
                    rw [hke, HKT.out]
                    have HC4 := Lib.hid ((HC.out.alloc (.cells #[.string x.name, .slice x.p x.bytes.length x.cap, .int .i64 (x.sure : Int)] 92)).trans hc3 fun _ h => h.elim)
                    clear hke z0 z1 z2 c0 hc3
                    go_wp2
                    go_roundw
                    case rel => exact ⟨j2 + 1, by go_num, by omega, HC4.out⟩
                    case measure => simp [Lib.intOf]; omega
              · have l1 : decide (0 < x.bytes.length) = false := decide_eq_false l0
                have l2 : decide ((0 : Int) < (x.bytes.length : Int)) = false := decide_eq_false (by omega)
                have HKT : Hid (thereB x.name lf = false) := Lib.hid (by rw [hkt, s1, q1, l1]; rfl)
                clear hkt s0 q0 l0 hc2
                go_wp2
                go_loopw [15, 16] (fun t15 t16 wi => ∃ k : Nat, t16 = .int .i64 (k : Int) ∧ k ≤ lf.length ∧ t15 = .bool (thereB x.name (lf.take k)) ∧ Chg (fun _ => False) (wr.alloc (.cells #[.string x.name, .slice x.p x.bytes.length x.cap, .int .i64 (x.sure : Int)] 92)) wi) (fun _ t16 _ => lf.length - (Lib.intOf t16).toNat)
                case atStart => exact ⟨0, rfl, Nat.zero_le _, rfl, Chg.refl _ _⟩
                case round =>
                  obtain ⟨k, rfl, hk, rfl, hc3⟩ := hrel
                  have HC3 := Lib.hid hc3
                  by_cases hkl : (k : Int) < lf.length
                  · have hf3 := HF2.out.chg (G := fun _ => False) hc3 fun _ _ h => h
                    obtain ⟨fb, f, rfl, hfx, -, -, y0, y1, y2⟩ := hf3.file (k := k) (by omega)
                    have b0 := hcell_of ((hc3.block _ (hlt_of HB2.out) (fun h => h)).trans HB2.out) 0
                    simp only [List.getElem?_toArray, List.getElem?_cons_zero] at b0
                    have hk0 : (0 : Int) ≤ (k : Int) := by omega
                    have hst : thereB x.name (lf.take (k + 1)) = (thereB x.name (lf.take k) || (f.name == x.name)) := by
                      rw [List.take_add_one, hfx]; exact there_snoc _ _ _
                    have HST := Lib.hid hst
                    clear hc3 hf3 hfx hst z0 z1 z2 c0
                    cases hb : thereB x.name (lf.take k) with
                    | true =>
                      have HST2 : Hid (thereB x.name (lf.take (k + 1)) = true) := Lib.hid (by rw [HST.out, hb]; rfl)
                      clear hb
                      go_wp2
                      refine Rx.ws_region (fun _ => True) [(0, .r), (1, .r), (2, .r), (3, .r), (4, .r), (5, .r), (6, .r), (7, .r), (8, .r), (9, .r), (10, .r), (11, .r)] (by kernel_rfl) (by kernel_rfl) trivial (fun _ _ x _ _ h => (by cases x <;> exact h)) ?_
                      iterate 12 (refine Rx.ws_q rfl rfl ?_; go_wp2; refine Rx.atS_mk ?_)
                      refine Rx.ws_nil ?_
                      go_wp2
                      go_roundw
                      case rel => exact ⟨k + 1, by go_num, by omega, by rw [HST2.out], by first | exact HC3.out.drew | exact HC3.out⟩
                      case measure => simp [Lib.intOf]; omega
                    | false =>
                      by_cases hn : f.name = x.name
                      · have HST2 : Hid (thereB x.name (lf.take (k + 1)) = true) := Lib.hid (by rw [HST.out, hb, hn]; simp)
                        rw [hn] at y0
                        clear hb hn
                        go_wp2
                        refine Rx.ws_region (fun _ => True) [(0, .r), (1, .r), (2, .r), (3, .r), (4, .r), (5, .r), (6, .r), (7, .r), (8, .r), (9, .r), (10, .r), (11, .r)] (by kernel_rfl) (by kernel_rfl) trivial (fun _ _ x _ _ h => (by cases x <;> exact h)) ?_
                        iterate 12 (refine Rx.ws_q rfl rfl ?_; go_wp2; refine Rx.atS_mk ?_)
                        refine Rx.ws_nil ?_
                        go_wp2
                        go_roundw
                        case rel => exact ⟨k + 1, by go_num, by omega, by rw [HST2.out] <;> try simp, by first | exact HC3.out.drew | exact HC3.out⟩
                        case measure => simp [Lib.intOf]; omega
                      · have g0 := toList_ne hn
                        have HST2 : Hid (thereB x.name (lf.take (k + 1)) = false) := Lib.hid (by rw [HST.out, hb]; simpa using hn)
                        clear hb hn
                        go_wp2
                        refine Rx.ws_region (fun _ => True) [(0, .r), (1, .r), (2, .r), (3, .r), (4, .r), (5, .r), (6, .r), (7, .r), (8, .r), (9, .r), (10, .r), (11, .r)] (by kernel_rfl) (by kernel_rfl) trivial (fun _ _ x _ _ h => (by cases x <;> exact h)) ?_
                        iterate 12 (refine Rx.ws_q rfl rfl ?_; go_wp2; refine Rx.atS_mk ?_)
                        refine Rx.ws_nil ?_
                        go_wp2
                        go_roundw
                        case rel => exact ⟨k + 1, by go_num, by omega, by rw [HST2.out] <;> try simp [g0], by first | exact HC3.out.drew | exact HC3.out⟩
                        case measure => simp [Lib.intOf]; omega
                  · have hke : lf.take k = lf := List.take_of_length_le (by omega)
                    rw [hke, HKT.out]
                    have HC4 := Lib.hid ((HC.out.alloc (.cells #[.string x.name, .slice x.p x.bytes.length x.cap, .int .i64 (x.sure : Int)] 92)).trans hc3 fun _ h => h.elim)
                    clear hke z0 z1 z2 c0 hc3
                    go_wp2
                    go_roundw
                    case rel => exact ⟨j2 + 1, by go_num, by omega, HC4.out⟩
                    case measure => simp [Lib.intOf]; omega
            · have q1 : decide (0 < q) = false := by simp; omega
              have q2 : decide ((0 : Int) < (q : Int)) = false := by simp; omega
              have HKT : Hid (thereB x.name lf = false) := Lib.hid (by rw [hkt, s1, q1]; rfl)
              clear hkt s0 q0 hc2
              go_wp2
              go_loopw [15, 16] (fun t15 t16 wi => ∃ k : Nat, t16 = .int .i64 (k : Int) ∧ k ≤ lf.length ∧ t15 = .bool (thereB x.name (lf.take k)) ∧ Chg (fun _ => False) (wr.alloc (.cells #[.string x.name, .slice x.p x.bytes.length x.cap, .int .i64 (x.sure : Int)] 92)) wi) (fun _ t16 _ => lf.length - (Lib.intOf t16).toNat)
              case atStart => exact ⟨0, rfl, Nat.zero_le _, rfl, Chg.refl _ _⟩
              case round =>
                obtain ⟨k, rfl, hk, rfl, hc3⟩ := hrel
                have HC3 := Lib.hid hc3
                by_cases hkl : (k : Int) < lf.length
                · have hf3 := HF2.out.chg (G := fun _ => False) hc3 fun _ _ h => h
                  obtain ⟨fb, f, rfl, hfx, -, -, y0, y1, y2⟩ := hf3.file (k := k) (by omega)
                  have b0 := hcell_of ((hc3.block _ (hlt_of HB2.out) (fun h => h)).trans HB2.out) 0
                  simp only [List.getElem?_toArray, List.getElem?_cons_zero] at b0
                  have hk0 : (0 : Int) ≤ (k : Int) := by omega
                  have hst : thereB x.name (lf.take (k + 1)) = (thereB x.name (lf.take k) || (f.name == x.name)) := by
                    rw [List.take_add_one, hfx]; exact there_snoc _ _ _
                  have HST := Lib.hid hst
                  clear hc3 hf3 hfx hst z0 z1 z2 c0
                  cases hb : thereB x.name (lf.take k) with
                  | true =>
                    have HST2 : Hid (thereB x.name (lf.take (k + 1)) = true) := Lib.hid (by rw [HST.out, hb]; rfl)
                    clear hb
                    go_wp2
                    refine Rx.ws_region (fun _ => True) [(0, .r), (1, .r), (2, .r), (3, .r), (4, .r), (5, .r), (6, .r), (7, .r), (8, .r), (9, .r), (10, .r), (11, .r)] (by kernel_rfl) (by kernel_rfl) trivial (fun _ _ x _ _ h => (by cases x <;> exact h)) ?_
                    iterate 12 (refine Rx.ws_q rfl rfl ?_; go_wp2; refine Rx.atS_mk ?_)
                    refine Rx.ws_nil ?_
                    go_wp2
                    go_roundw
                    case rel => exact ⟨k + 1, by go_num, by omega, by rw [HST2.out], by first | exact HC3.out.drew | exact HC3.out⟩
                    case measure => simp [Lib.intOf]; omega
                  | false =>
                    by_cases hn : f.name = x.name
                    · have HST2 : Hid (thereB x.name (lf.take (k + 1)) = true) := Lib.hid (by rw [HST.out, hb, hn]; simp)
                      rw [hn] at y0
                      clear hb hn
                      go_wp2
                      refine Rx.ws_region (fun _ => True) [(0, .r), (1, .r), (2, .r), (3, .r), (4, .r), (5, .r), (6, .r), (7, .r), (8, .r), (9, .r), (10, .r), (11, .r)] (by kernel_rfl) (by kernel_rfl) trivial (fun _ _ x _ _ h => (by cases x <;> exact h)) ?_
                      iterate 12 (refine Rx.ws_q rfl rfl ?_; go_wp2; refine Rx.atS_mk ?_)
                      refine Rx.ws_nil ?_
                      go_wp2
                      go_roundw
                      case rel => exact ⟨k + 1, by go_num, by omega, by rw [HST2.out] <;> try simp, by first | exact HC3.out.drew | exact HC3.out⟩
                      case measure => simp [Lib.intOf]; omega
                    · have g0 := toList_ne hn
                      have HST2 : Hid (thereB x.name (lf.take (k + 1)) = false) := Lib.hid (by rw [HST.out, hb]; simpa using hn)
                      clear hb hn
                      go_wp2
                      refine Rx.ws_region (fun _ => True) [(0, .r), (1, .r), (2, .r), (3, .r), (4, .r), (5, .r), (6, .r), (7, .r), (8, .r), (9, .r), (10, .r), (11, .r)] (by kernel_rfl) (by kernel_rfl) trivial (fun _ _ x _ _ h => (by cases x <;> exact h)) ?_
                      iterate 12 (refine Rx.ws_q rfl rfl ?_; go_wp2; refine Rx.atS_mk ?_)
                      refine Rx.ws_nil ?_
                      go_wp2
                      go_roundw
                      case rel => exact ⟨k + 1, by go_num, by omega, by rw [HST2.out] <;> try simp [g0], by first | exact HC3.out.drew | exact HC3.out⟩
                      case measure => simp [Lib.intOf]; omega
                · have hke : lf.take k = lf := List.take_of_length_le (by omega)
                  rw [hke, HKT.out]
                  have HC4 := Lib.hid ((HC.out.alloc (.cells #[.string x.name, .slice x.p x.bytes.length x.cap, .int .i64 (x.sure : Int)] 92)).trans hc3 fun _ h => h.elim)
                  clear hke z0 z1 z2 c0 hc3
                  go_wp2
                  go_roundw
                  case rel => exact ⟨j2 + 1, by go_num, by omega, HC4.out⟩
                  case measure => simp [Lib.intOf]; omega
        · go_wp2
          go_ret
          have hls := HLS.out.quiet hc2
          have hnd := List.nodup_append.1 hls.nodup
          refine ⟨rfl, ?_⟩
          rw [← HYS2.out]
          refine hls.g.close H.out hls.each hnd.2.1 (fun k hk => ⟨fun e => ?_, fun e => hnd.2.2 k (by simp [e]) k hk rfl⟩) (fun k hk => .inr (hls.low2 k hk))
          have h2 := hls.low2 k hk
          have h3 := hlt_of H.out.head
          omega
/-- left, in one contract -/
theorem left_any {S : List Fl} {q : Nat} (hq : (q : Int) ≤ 9223372036854775807) (hN : B.length ≤ 1099511627776) (hT : total S ≤ 1099511627776) (h : BkRep w b B F) (hf : FilesAt w fv lf) (hS : Sorted S) (hs : ∀ g ∈ S, g.sure ≤ g.bytes.length)
    (hP : B.Perm S) (hL : lf.map LF.fl = loseL q S) :
    Calls Try.prog 32 #[.pointer (some ⟨b, 0, none⟩), fv, .int .i64 (q : Int)] w fun e w' => e = .returned (.bool true) ∧ BkLeft w b F (lf.map LF.fl) w' := by
  obtain ⟨v, l, h, rfl, rfl⟩ := h
  have hn := perm_nodup hP hS.nodup
  exact left_walk hq (by simpa using hN) hT h (by simpa [List.map_map, Function.comp_def, LF.fl] using hn) hf hS hs hP hL
end
end Go.Proofs
