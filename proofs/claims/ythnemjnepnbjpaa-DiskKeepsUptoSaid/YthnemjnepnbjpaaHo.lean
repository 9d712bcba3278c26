/- A book as it lies: holds. Conditions: the book lies as BkRep says, the files as FilesAt says; at most 2^40 pages. -/
import Derived.Test.YthnemjnepnbjpaaBx
import Derived.Test.YthnemjnepnbjpaaWs
import Derived.Test.YthnemjnepnbjpaaAl
namespace Go.Proofs
open Go.RowKit Go.Hp Go.Dm Go.Dr
set_option linter.unusedVariables false
set_option maxRecDepth 10000

theorem less_of2 {a b : ByteArray} (h : nlt a b) : Op.bytesLess a.toList b.toList = true := by
  have key : ∀ a b : List UInt8, Op.bytesLess a b = decide (a < b) := fun a => by
    induction a with
    | nil => intro b; cases b <;> simp [Op.bytesLess]
    | cons a x ih =>
      intro b
      cases b with
      | nil => simp [Op.bytesLess]
      | cons b y =>
        unfold Op.bytesLess
        rw [ih y, Bool.eq_iff_iff]
        simp only [Bool.or_eq_true, Bool.and_eq_true, decide_eq_true_eq, beq_iff_eq, List.cons_lt_cons_iff]
  rw [ByteArray.toList_eq, ByteArray.toList_eq, key]; exact decide_eq_true h

section
variable {w w' : World} {b : Nat} {v fv : Value} {l lf : List LF} {B : List Fl} {F : List Nat}

set_option maxHeartbeats 8000000 in
theorem holds_walk (hN : l.length ≤ 1099511627776) (h : BkRaw w b v l) (hn : (l.map (·.name)).Nodup) (hf : FilesAt w fv lf) (hS : Sorted (lf.map LF.fl)) (hP : (l.map LF.fl).Perm (lf.map LF.fl)) :
    Calls Try.prog 34 #[.pointer (some ⟨b, 0, none⟩), fv] w fun e w' => e = .returned (.bool true) ∧ Chg (fun _ => False) w w' := by
  obtain ⟨p, c, rfl, hnc, -, -⟩ := id h.sl
  obtain ⟨pf, cf, rfl, hfc, -, -⟩ := id hf.sl
  have hll : lf.length = l.length := by have := hP.length_eq; simpa using this.symm
  have hlli : (l.length : Int) ≤ 1099511627776 := by omega
  have hnci : (l.length : Int) ≤ c := by omega
  have hfci : (lf.length : Int) ≤ cf := by omega
  have hlle : (lf.length : Int) = (l.length : Int) := by omega
  have c0 := hcell_of h.head 0
  simp only [List.getElem?_toArray, List.getElem?_cons_zero] at c0
  have H := Lib.hid h
  have HF := Lib.hid hf
  have HN := Lib.hid hn
  have HNL := Lib.hid hN
  have HS := Lib.hid hS
  have HP := Lib.hid hP
  have HLL := Lib.hid hll
  clear h hf hn hS hP hN hnc hfc
  rw [← hll] at c0 hlli hnci
  clear hll hlle
  go_enter Try.func34, Try.ntmps34
  go_wp2
  clear c0
  go_loopw [5] (fun i wr => ∃ j : Nat, j ≤ lf.length ∧ i = .int .i64 (j : Int) ∧ Chg (fun _ => False) w wr) (fun i _ => lf.length - (Lib.intOf i).toNat)
  case atStart => exact ⟨0, Nat.zero_le _, rfl, Chg.refl _ _⟩
  case round =>
    obtain ⟨j, hj, rfl, hc⟩ := hrel
    have HC := Lib.hid hc
    by_cases hjl : (j : Int) < lf.length
    · have hf1 := HF.out.chg (G := fun _ => False) hc fun _ _ h => h
      have h1 := H.out.quiet hc
      obtain ⟨fb, f, rfl, hfx, hfo, hfcap, y0, y1, y2⟩ := hf1.file (k := j) (by omega)
      have hj0 : (0 : Int) ≤ (j : Int) := by omega
      have e2 : f.sv = .slice f.p f.bytes.length f.cap := rfl
      rw [e2] at y1
      obtain ⟨i, x, hx, hxf⟩ : ∃ (i : Nat) (x : LF), l[i]? = some x ∧ x.fl = f.fl := by
        have h2 : f.fl ∈ l.map LF.fl := HP.out.symm.subset (List.mem_map_of_mem (List.mem_of_getElem? hfx))
        obtain ⟨x, hx, hxf⟩ := List.mem_map.1 h2
        obtain ⟨i, hi⟩ := List.getElem?_of_mem hx
        exact ⟨i, x, hi, hxf⟩
      obtain ⟨ex1, ex2, ex3⟩ : x.name = f.name ∧ x.bytes = f.bytes ∧ x.sure = f.sure := by simpa [LF.fl] using hxf
      have HPG := Lib.hid (page_some (nm := f.name) HNL.out h1 HN.out hx ex1)
      obtain ⟨pb, x0, rfl, -, hnc1, hx0, hxc, hob, z0, z1, z2, -, -, -⟩ := h1.pg (k := i) (List.getElem?_eq_some_iff.1 hx).1
      obtain rfl : x0 = x := Option.some.inj (hx0.symm.trans hx)
      have e3 : x0.sv = .slice x0.p x0.bytes.length x0.cap := rfl
      rw [e3] at z1
      rw [ex3] at z2
      have hob2 := hob
      rw [ex2] at hob2
      have HSM := Lib.hid fun U (hU : Chg (fun _ => False) wr U) => same_true (w := U) (v := f.sv) (v' := x0.sv) (l := f.bytes) (OB.rb (OC.chg hfo hU fun _ _ h => h)) (OB.rb (OC.chg hob2 hU fun _ _ h => h))
      rw [e2, e3] at HSM
      have hi0 : (0 : Int) ≤ (i : Int) := by omega
      have hil : (i : Int) < (lf.length : Int) := by have := (List.getElem?_eq_some_iff.1 hx).1; have := HLL.out; omega
      have hi1 : decide ((i : Int) < 0) = false := by simp
      have c0 := hcell_of h1.head 0
      simp only [List.getElem?_toArray, List.getElem?_cons_zero] at c0
      rw [← HLL.out] at c0
      by_cases hz : (0 : Int) < (j : Int)
      · obtain ⟨k, hk⟩ : ∃ k : Nat, (j : Int) - 1 = (k : Int) := ⟨j - 1, by omega⟩
        obtain ⟨fb', f', he', hfx', -, -, y3, y4, y5⟩ := hf1.file (k := k) (by omega)
        obtain rfl : fb = fb' := by simpa using he'
        have hlt : nlt f'.name f.name := by
          have hjk : j = k + 1 := by omega
          have hs := HS.out
          unfold Sorted at hs
          rw [List.pairwise_map] at hs
          obtain ⟨h1, rfl⟩ := List.getElem?_eq_some_iff.1 hfx'
          obtain ⟨h2, rfl⟩ := List.getElem?_eq_some_iff.1 hfx
          exact List.pairwise_iff_getElem.1 hs k j h1 h2 (by omega)
        have hls := less_of2 hlt
        have hzn : decide (0 < j) = true := by simp; omega
        have hzd : decide ((0 : Int) < (j : Int)) = true := by simp; omega
        have hk0 : (0 : Int) ≤ (k : Int) := by omega
        have hkl : (k : Int) < lf.length := by omega
        clear hz hc hf1 h1 hfo hob hob2 hx0 hx hxf ex1 ex2 ex3 e2 e3 hfx hnc1 hfx' he' hlt y4 y5
        go_wp2_with (first | (go_at_call 52; refine stop ?_))
        refine go ?_
        refine HPG.out.mono ?_
        rintro e w' ⟨rfl, rfl⟩
        go_wp2
        refine Rx.ws_region (fun _ => True) [(0, .r), (1, .r), (2, .r), (3, .r), (4, .r), (5, .r), (6, .r), (7, .r), (8, .r), (9, .r), (10, .r), (11, .r), (12, .r), (13, .r), (14, .r), (15, .r), (16, .r), (17, .r), (18, .r), (19, .r)] (by kernel_rfl) (by kernel_rfl) trivial (fun _ _ x _ _ h => (by cases x <;> exact h)) ?_
        iterate 20 (refine Rx.ws_q rfl rfl ?_; go_wp2; refine Rx.atS_mk ?_)
        refine Rx.ws_nil ?_
        go_wp2
        refine Rx.ws_region (fun _ => True) [(0, .r), (1, .r), (2, .r), (3, .r), (4, .r), (5, .r), (6, .r), (7, .r), (8, .r), (9, .r), (10, .r), (11, .r), (12, .r), (13, .e), (14, .r), (15, .r), (16, .r), (17, .r), (18, .r), (19, .r), (20, .r), (21, .r), (22, .r), (23, .r), (24, .r), (25, .r), (26, .r), (27, .r), (28, .r), (29, .r), (30, .r)] (by kernel_rfl) (by kernel_rfl) trivial (fun _ _ x _ _ h => (by cases x <;> exact h)) ?_
        iterate 13 (refine Rx.ws_q rfl rfl ?_; go_wp2; refine Rx.atS_mk ?_)
        refine Rx.ws_e rfl ?_
        go_wp2_with (first | (go_at_call 53; refine stop ?_))
        refine go ?_
        refine (HSM.out _ (by first | exact (Chg.refl (fun _ => False) _).drew | exact (Chg.refl (fun _ => False) _).drewN _ | exact ((Chg.refl (fun _ => False) _).drew).drew | exact Chg.refl _ _)).mono ?_
        rintro e w' ⟨rfl, rfl⟩
        go_wp2
        refine ⟨trivial, ?_⟩
        iterate 17 (refine Rx.ws_q rfl rfl ?_; go_wp2; refine Rx.atS_mk ?_)
        refine Rx.ws_nil ?_
        go_wp2
        go_roundw
        case rel => exact ⟨j + 1, by omega, by go_num, by first | exact ((HC.out).drew).drew | exact HC.out.drewN _ | exact (HC.out.drew)⟩
        case measure => simp [Lib.intOf]; omega
      · have hzn : decide (0 < j) = false := by simp; omega
        have hzd : decide ((0 : Int) < (j : Int)) = false := by simp; omega
        clear hz hc hf1 h1 hfo hob hob2 hx0 hx hxf ex1 ex2 ex3 e2 e3 hfx hnc1
        go_wp2_with (first | (go_at_call 52; refine stop ?_))
        refine go ?_
        refine HPG.out.mono ?_
        rintro e w' ⟨rfl, rfl⟩
        go_wp2
        refine Rx.ws_region (fun _ => True) [(0, .r), (1, .r), (2, .r), (3, .r), (4, .r), (5, .r), (6, .r), (7, .r), (8, .r), (9, .r), (10, .r), (11, .r), (12, .r), (13, .r), (14, .r), (15, .r), (16, .r), (17, .r), (18, .r), (19, .r)] (by kernel_rfl) (by kernel_rfl) trivial (fun _ _ x _ _ h => (by cases x <;> exact h)) ?_
        iterate 20 (refine Rx.ws_q rfl rfl ?_; go_wp2; refine Rx.atS_mk ?_)
        refine Rx.ws_nil ?_
        go_wp2
        refine Rx.ws_region (fun _ => True) [(0, .r), (1, .r), (2, .r), (3, .r), (4, .r), (5, .r), (6, .r), (7, .r), (8, .r), (9, .r), (10, .r), (11, .r), (12, .r), (13, .e), (14, .r), (15, .r), (16, .r), (17, .r), (18, .r), (19, .r), (20, .r), (21, .r), (22, .r), (23, .r), (24, .r), (25, .r), (26, .r), (27, .r), (28, .r), (29, .r), (30, .r)] (by kernel_rfl) (by kernel_rfl) trivial (fun _ _ x _ _ h => (by cases x <;> exact h)) ?_
        iterate 13 (refine Rx.ws_q rfl rfl ?_; go_wp2; refine Rx.atS_mk ?_)
        refine Rx.ws_e rfl ?_
        go_wp2_with (first | (go_at_call 53; refine stop ?_))
        refine go ?_
        refine (HSM.out _ (by first | exact (Chg.refl (fun _ => False) _).drew | exact (Chg.refl (fun _ => False) _).drewN _ | exact ((Chg.refl (fun _ => False) _).drew).drew | exact Chg.refl _ _)).mono ?_
        rintro e w' ⟨rfl, rfl⟩
        go_wp2
        refine ⟨trivial, ?_⟩
        iterate 17 (refine Rx.ws_q rfl rfl ?_; go_wp2; refine Rx.atS_mk ?_)
        refine Rx.ws_nil ?_
        go_wp2
        go_roundw
        case rel => exact ⟨j + 1, by omega, by go_num, by first | exact ((HC.out).drew).drew | exact HC.out.drewN _ | exact (HC.out.drew)⟩
        case measure => simp [Lib.intOf]; omega
    · go_wp2
      go_ret
      exact ⟨rfl, HC.out⟩
theorem holds_any (hN : B.length ≤ 1099511627776) (h : BkRep w b B F) (hf : FilesAt w fv lf) (hS : Sorted (lf.map LF.fl)) (hP : B.Perm (lf.map LF.fl)) :
    Calls Try.prog 34 #[.pointer (some ⟨b, 0, none⟩), fv] w fun e w' => e = .returned (.bool true) ∧ Chg (fun _ => False) w w' := by
  obtain ⟨v, l, h, rfl, rfl⟩ := h
  have hn := perm_nodup hP hS.nodup
  exact holds_walk (by simpa using hN) h (by simpa [List.map_map, Function.comp_def, LF.fl] using hn) hf hS hP
end
end Go.Proofs
