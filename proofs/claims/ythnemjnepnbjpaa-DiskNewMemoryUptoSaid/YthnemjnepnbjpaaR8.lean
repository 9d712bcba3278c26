/- The document's disk: a turned byte, bytes put. Conditions: the disk lies as RRep says; at most 2^40 files. -/
import Derived.Test.YthnemjnepnbjpaaR7
namespace Go.Proofs
open Go.RowKit Go.Hp Go.Dm Go.Dr
set_option linter.unusedVariables false
set_option maxRecDepth 10000

section
variable {w w' : World} {r : Nat} {D D' : Dk} {K K' L : Int} {v : Value} {l : List RF} {G : List Nat} {nm : ByteArray} {fb : List UInt8} {fs : Nat} {pb : Option Addr} {nb cb : Nat} {q m : Int}

set_option maxHeartbeats 8000000 in
theorem rdid_turn (k : Nat) (mk : UInt8) (hk : k < fb.length) (hfl : fb.length ≤ 1099511627776) (hg : Dm.get D.files nm = some ⟨nm, fb, fs⟩) (hN : D.files.length ≤ 1099511627776) (h : RRep w r D G) :
    Calls Try.prog 94 #[.pointer (some ⟨r, 0, none⟩), deedV 5 nm pb nb cb (k : Int) (mk.toNat : Int)] w fun e w' => e = .returned (.tuple #[]) ∧
      RLeft w r G { D with files := upd nm (fun f => { f with bytes := f.bytes.modify k (· ^^^ mk) }) D.files } w' := by
  have hst := storeL_upd h.ok.sorted hg (fun f => { f with bytes := f.bytes.modify k (· ^^^ mk) }) rfl
  simp only at hst
  have hok := deed_ok h.ok nm (fun f => { f with bytes := f.bytes.modify k (· ^^^ mk) }) (fun _ => rfl) (fun f => by simp) (fun f hf => by simpa using hf)
  have HST := Lib.hid hst
  have HOK := Lib.hid hok
  have HK := Lib.hid hk
  have HFL := Lib.hid hfl
  clear hst hok hk hfl
  have h1 := rrep_alloc h (.cells #[.int .i64 5, .string nm, .slice pb nb cb, .int .i64 (k : Int), .int .u8 (mk.toNat : Int)] 140)
  have hbx := halloc_at w (.cells #[.int .i64 5, .string nm, .slice pb nb cb, .int .i64 (k : Int), .int .u8 (mk.toNat : Int)] 140)
  have hf := rfile_any (nm := nm) hN h1
  rw [hg] at hf
  have HF := Lib.hid hf
  have HG := Lib.hid hg
  have HN := Lib.hid hN
  have HH := Lib.hid h
  have H1 := Lib.hid h1
  have HBX := Lib.hid hbx
  unfold deedV
  clear h h1 hf hg hN hbx
  go_enter Try.func94, Try.ntmps94
  go_wp2_with (first | (go_at_call 89; refine stop ?_))
  refine go ?_
  refine HF.out.mono ?_
  rintro e w2 ⟨v2, rfl, ⟨p, c, rfl, hrb, hin⟩, hc⟩
  simp only at hrb hin
  have hz2 := (halloc_lt (o := (.cells #[.string nm, .bool true, .slice p fb.length c, .int .i64 (fs : Int)] 130)) (hlt_of ((hc.block _ (hlt_of HBX.out) (fun h => h)).trans HBX.out))).trans ((hc.block _ (hlt_of HBX.out) (fun h => h)).trans HBX.out)
  have kc0 := hcell_of hz2 0
  have kc1 := hcell_of hz2 1
  have kc2 := hcell_of hz2 2
  have kc3 := hcell_of hz2 3
  have kc4 := hcell_of hz2 4
  simp only [List.getElem?_toArray, List.getElem?_cons_zero, List.getElem?_cons_succ] at kc0 kc1 kc2 kc3 kc4
  have HREP := Lib.hid (rrep_alloc (H1.out.chg hc fun _ _ h => h) (.cells #[.string nm, .bool true, .slice p fb.length c, .int .i64 (fs : Int)] 130))
  have HC0 := Lib.hid ((((Chg.refl (fun _ => False) w).alloc _).trans hc fun _ h => h.elim).alloc (.cells #[.string nm, .bool true, .slice p fb.length c, .int .i64 (fs : Int)] 130))
  clear hz2
  have hcp := rcopied_any (w := w2.alloc (.cells #[.string nm, .bool true, .slice p fb.length c, .int .i64 (fs : Int)] 130)) (by have := HFL.out; omega) (RC.keep hrb fun b hb => halloc_lt (RC.lt hrb hb))
  have HCP := Lib.hid hcp
  have HC := Lib.hid hc
  clear hrb hin hc hcp
  unfold fileV
  go_wp2_with (first | (go_at_call 91; refine stop ?_))
  refine go ?_
  refine HCP.out.mono ?_
  rintro e w3 ⟨v3, rfl, o3, c3, n3⟩
  obtain ⟨p3, cc3, rfl, hc31, hc32, -, hblk⟩ := id o3
  obtain ⟨b3, arr, rfl, hh3, hsz3, htk3⟩ := hblk (by have := HK.out; omega)
  have ht6 : w3.heap[w2.heap.size]? = _ := (c3.block w2.heap.size (by simp) (fun h => h)).trans (halloc_at w2 _)
  have hdb : w3.heap[w.heap.size]? = _ := (c3.block w.heap.size (hlt_of ((halloc_lt (hlt_of ((HC.out.block _ (hlt_of HBX.out) (fun h => h)).trans HBX.out))).trans ((HC.out.block _ (hlt_of HBX.out) (fun h => h)).trans HBX.out))) (fun h => h)).trans ((halloc_lt (hlt_of ((HC.out.block _ (hlt_of HBX.out) (fun h => h)).trans HBX.out))).trans ((HC.out.block _ (hlt_of HBX.out) (fun h => h)).trans HBX.out))
  have a0 := hcell_of ht6 0
  have a1 := hcell_of ht6 1
  have a2 := hcell_of ht6 2
  have a3 := hcell_of ht6 3
  simp only [List.getElem?_toArray, List.getElem?_cons_zero, List.getElem?_cons_succ] at a0 a1 a2 a3
  have af := hfree_of ht6
  have hne1 : w.heap.size ≠ w2.heap.size := by
    have h1 := hlt_of ((HC.out.block _ (hlt_of HBX.out) (fun h => h)).trans HBX.out)
    omega
  have hne2 : b3 ≠ w2.heap.size := by
    have := n3 b3 (sblk_some (by have := HK.out; omega))
    simp at this; omega
  clear kc0 kc1 kc2 kc3 kc4
  go_wp2
  have hw4 : Chg (fun _ => False) w2 (w3.setCell ⟨w2.heap.size, 2, none⟩ (.slice (some ⟨b3, 0, none⟩) fb.length cc3)) := (((Chg.refl (fun _ => False) w2).alloc _).trans c3 (fun _ h => h.elim)).setCell (p := ⟨w2.heap.size, 2, none⟩) (.inr (Nat.le_refl _)) _
  have ht64 := hset_same ht6 2 (.slice (some ⟨b3, 0, none⟩) fb.length cc3)
  have hdb4 := (hset_other (w := w3) (p := ⟨w2.heap.size, 2, none⟩) (v := .slice (some ⟨b3, 0, none⟩) fb.length cc3) hne1).trans hdb
  have hh4 := (hset_other (w := w3) (p := ⟨w2.heap.size, 2, none⟩) (v := .slice (some ⟨b3, 0, none⟩) fb.length cc3) hne2).trans hh3
  have o4 : OB (w3.setCell ⟨w2.heap.size, 2, none⟩ (.slice (some ⟨b3, 0, none⟩) fb.length cc3)) 5 (.slice (some ⟨b3, 0, none⟩) fb.length cc3) fb := OC.keep o3 fun b hb => by
    obtain rfl : b3 = b := by simpa [sblk_some (show cc3 ≠ 0 by have := HK.out; omega)] using hb
    exact hset_other hne2
  generalize w3.setCell ⟨w2.heap.size, 2, none⟩ (.slice (some ⟨b3, 0, none⟩) fb.length cc3) = W4 at *
  simp only [List.setIfInBounds_toArray, List.set_cons_zero, List.set_cons_succ] at ht64
  clear a0 a1 a2 a3 af
  have a0 := hcell_of ht64 0
  have a1 := hcell_of ht64 1
  have a2 := hcell_of ht64 2
  have a3 := hcell_of ht64 3
  simp only [List.getElem?_toArray, List.getElem?_cons_zero, List.getElem?_cons_succ] at a0 a1 a2 a3
  have kd0 := hcell_of hdb4 0
  have kd1 := hcell_of hdb4 1
  have kd2 := hcell_of hdb4 2
  have kd3 := hcell_of hdb4 3
  have kd4 := hcell_of hdb4 4
  simp only [List.getElem?_toArray, List.getElem?_cons_zero, List.getElem?_cons_succ] at kd0 kd1 kd2 kd3 kd4
  have hcell : W4.cell? ⟨b3, k, none⟩ = some (.int .u8 ((fb[k]'HK.out).toNat : Int)) := by
    rw [hcell_of hh4]
    have h1 : (arr.toList.take (fb.length * 1))[k]? = (fb.map u8)[k]? := by rw [htk3]
    rw [List.getElem?_take_of_lt (by have := HK.out; omega)] at h1
    simpa [HK.out] using h1
  have hfree : W4.frozen? ⟨b3, k, none⟩ = false := hfree_of hh4 k
  have hk2 : (k : Int) < fb.length := by have := HK.out; omega
  have hk0 : (0 : Int) ≤ (k : Int) := by omega
  have hc31' : (fb.length : Int) ≤ cc3 := by omega
  have HT6 := Lib.hid ht64
  have HO4 := Lib.hid o4
  have HW4 := Lib.hid hw4
  have HN3 := Lib.hid n3
  clear ht6 hdb hh3 htk3 hsz3 o3 c3 n3 ht64 hdb4 hh4 o4 hw4
  refine Rx.wp_region_sched (fun _ => True) [(0, .r), (1, .r), (2, .r), (3, .r), (4, .r), (5, .r), (6, .r), (7, .r), (8, .r), (9, .r), (10, .r), (11, .r), (12, .r), (13, .r), (14, .e)] (by kernel_rfl) (by kernel_rfl) trivial (fun _ _ x _ _ h => (by cases x <;> exact h)) ?_
  iterate 14 (refine Rx.wpSched_q rfl rfl ?_; go_wp2; refine ⟨rfl, ?_⟩)
  refine Rx.wpSched_e rfl ?_
  go_wp2
  refine ⟨trivial, ?_⟩
  refine Rx.wpSched_nil ?_
  have hx : bits BinOp.xor IntKind.u8 ((fb[k]'HK.out).toNat : Int) (mk.toNat : Int) = (((fb[k]'HK.out) ^^^ mk).toNat : Int) := by
    rw [u8_xor_nat _ _ (UInt8.toNat_lt _) (UInt8.toNat_lt _), UInt8.toNat_xor]
  rw [hx]
  have hb3 : w2.heap.size ≤ b3 := by
    have := HN3.out b3 (sblk_some (by have := HK.out; omega))
    simp at this; omega
  have hw5 : Chg (fun _ => False) w2 (W4.setCell ⟨b3, k, none⟩ (u8 ((fb[k]'HK.out) ^^^ mk))).drew := (HW4.out.setCell (p := ⟨b3, k, none⟩) (.inr hb3) _).drew
  have ht65 : (W4.setCell ⟨b3, k, none⟩ (u8 ((fb[k]'HK.out) ^^^ mk))).drew.heap[w2.heap.size]? = _ := (hset_other (w := W4) (p := ⟨b3, k, none⟩) (v := u8 ((fb[k]'HK.out) ^^^ mk)) (Ne.symm hne2)).trans HT6.out
  have o5 : OB (W4.setCell ⟨b3, k, none⟩ (u8 ((fb[k]'HK.out) ^^^ mk))).drew 5 (.slice (some ⟨b3, 0, none⟩) fb.length cc3) (fb.modify k (· ^^^ mk)) := by
    have := OB_set HO4.out HK.out ((fb[k]'HK.out) ^^^ mk)
    rw [modify_eq_set HK.out]
    exact OC.keep this fun _ _ => rfl
  generalize (W4.setCell ⟨b3, k, none⟩ (u8 ((fb[k]'HK.out) ^^^ mk))).drew = W5 at *
  clear a0 a1 a2 a3 kd0 kd1 kd2 kd3 kd4 hcell hfree
  have a0 := hcell_of ht65 0
  have a1 := hcell_of ht65 1
  have a2 := hcell_of ht65 2
  have a3 := hcell_of ht65 3
  simp only [List.getElem?_toArray, List.getElem?_cons_zero, List.getElem?_cons_succ] at a0 a1 a2 a3
  obtain ⟨fm, hfm⟩ : ∃ fm, fb.modify k (· ^^^ mk) = fm := ⟨_, rfl⟩
  have hfml : fm.length = fb.length := by rw [← hfm]; simp
  have hq : storeL (RF.fl ⟨nm, some ⟨b3, 0, none⟩, cc3, fm, fs⟩) true D.files = upd nm (fun f => { f with bytes := f.bytes.modify k (· ^^^ mk) }) D.files := by rw [← hfm]; exact HST.out
  have hne3 : b3 ≠ r := fun e => by have h1 := HH.out.lt r HH.out.mem; have h2 := (H1.out.lt r HH.out.mem); have := HC.out.size; simp at this; omega
  have hs := rstore_any (w := W5) ⟨nm, some ⟨b3, 0, none⟩, cc3, fm, fs⟩ true HN.out ((H1.out.chg HC.out fun _ _ h => h).chg hw5 fun _ _ h => h)
    (fun _ => by show RB W5 (.slice (some ⟨b3, 0, none⟩) fm.length cc3) fm; rw [hfml]; rw [hfm] at o5; exact o5.rb)
    (fun _ e => hne3 (by have e : sblk (.slice (some ⟨b3, 0, none⟩) fm.length cc3) = some r := e; rw [sblk_some (by have := HK.out; omega)] at e; simpa using e)) (by rw [hq]; exact HOK.out)
  rw [hq] at hs
  simp only [hfml] at hs
  have HS := Lib.hid hs
  have HC5 := Lib.hid (((((Chg.refl (fun _ => False) w).alloc _).trans HC.out fun _ h => h.elim)).trans hw5 fun _ h => h.elim)
  have HB3 := Lib.hid (show w.heap.size ≤ b3 by have := HC.out.size; simp at this; omega)
  clear hs hq hfm hfml hw5 ht65 o5 hx
  go_wp2_with (first | (go_at_call 90; refine stop ?_))
  refine go ?_
  refine HS.out.mono ?_
  rintro e w6 ⟨rfl, hs6⟩
  have HS6 := Lib.hid hs6
  clear hs6
  go_wp2
  go_end0
  refine ⟨rfl, rleft_of HH.out HC5.out HS6.out fun j hj => .inr ?_⟩
  have hj : sblk (.slice (some ⟨b3, 0, none⟩) fm.length cc3) = some j := hj
  rw [sblk_some (by have := HK.out; omega)] at hj
  obtain rfl : b3 = j := by simpa using hj
  exact HB3.out

theorem OB_len {w : World} {E : TypeId} {p : Option Addr} {n c : Nat} {l : List UInt8} (h : OB w E (.slice p n c) l) : n = l.length := by
  obtain ⟨p', c', he, -⟩ := h
  simp only [Value.slice.injEq] at he
  exact he.2.1
theorem FileIs.put {v : Value} {l : List Fl} (h : FileIs w G nm (Dm.get l nm) v) : ∃ th p c, v = fileV nm th p (bytesOf l nm).length c (sureOf l nm) ∧ RB w (.slice p (bytesOf l nm).length c) (bytesOf l nm) := by
  unfold bytesOf sureOf
  cases hg : Dm.get l nm with
  | none => rw [hg] at h; exact ⟨false, none, 0, h, OB.rb (OB_nil w 5)⟩
  | some f =>
    rw [hg] at h
    obtain ⟨p, c, e, hrb, -⟩ := h
    exact ⟨true, p, c, by rw [e, (get_some hg).2], hrb⟩

set_option maxHeartbeats 8000000 in
theorem rdid_put (b : List UInt8) (hb : RB w (.slice pb b.length cb) b) (hbl : b.length ≤ D.limit - D.used) (hN : D.files.length ≤ 1099511627776) (h : RRep w r D G) :
    Calls Try.prog 94 #[.pointer (some ⟨r, 0, none⟩), deedV 1 nm pb b.length cb q m] w fun e w' => e = .returned (.tuple #[]) ∧ RLeft w r G { D with files := putB nm b D.files } w' := by
  have hst := storeL_put h.ok.sorted nm b
  have hok := put_ok h.ok nm b hbl
  have hlim := h.ok.limit
  have hol : (bytesOf D.files nm).length ≤ 1099511627776 := by
    unfold bytesOf
    cases hg : Dm.get D.files nm with
    | none => simp
    | some f =>
      have h1 := get_le hg
      have h2 := h.ok.used
      have h4 : D.used = total D.files := rfl
      simp only; omega
  have hbl2 : b.length ≤ 1099511627776 := by omega
  have HST := Lib.hid hst
  have HOK := Lib.hid hok
  have HOL := Lib.hid hol
  have HBL := Lib.hid hbl2
  have HB := Lib.hid hb
  have h1 := rrep_alloc h (.cells #[.int .i64 1, .string nm, .slice pb b.length cb, .int .i64 q, .int .u8 m] 140)
  have hbx := halloc_at w (.cells #[.int .i64 1, .string nm, .slice pb b.length cb, .int .i64 q, .int .u8 m] 140)
  have hf := rfile_any (nm := nm) hN h1
  have HF := Lib.hid hf
  have HN := Lib.hid hN
  have HH := Lib.hid h
  have H1 := Lib.hid h1
  have HBX := Lib.hid hbx
  unfold deedV
  clear h h1 hf hN hbx hst hok hbl hbl2 hlim hol hb
  go_enter Try.func94, Try.ntmps94
  go_wp2_with (first | (go_at_call 89; refine stop ?_))
  refine go ?_
  refine HF.out.mono ?_
  rintro e w2 ⟨v2, rfl, hfi, hc⟩
  obtain ⟨th, p, c, rfl, hrb⟩ := FileIs.put hfi
  clear hfi
  generalize bytesOf D.files nm = ob at *
  generalize sureOf D.files nm = os at *
  have hdb0 := (hc.block _ (hlt_of HBX.out) (fun h => h)).trans HBX.out
  have HDB0 := Lib.hid hdb0
  have hdb1 := (halloc_lt (o := .cells #[.string nm, .bool th, .slice p ob.length c, .int .i64 (os : Int)] 130) (hlt_of hdb0)).trans hdb0
  have hdb2 := (halloc_lt (o := .cells #[.string nm, .bool true, .slice p ob.length c, .int .i64 (os : Int)] 130) (hlt_of hdb0)).trans hdb0
  have ka0 := hcell_of hdb1 0
  have ka1 := hcell_of hdb1 1
  have ka2 := hcell_of hdb1 2
  have ka3 := hcell_of hdb1 3
  have ka4 := hcell_of hdb1 4
  simp only [List.getElem?_toArray, List.getElem?_cons_zero, List.getElem?_cons_succ] at ka0 ka1 ka2 ka3 ka4
  have kb0 := hcell_of hdb2 0
  have kb1 := hcell_of hdb2 1
  have kb2 := hcell_of hdb2 2
  have kb3 := hcell_of hdb2 3
  have kb4 := hcell_of hdb2 4
  simp only [List.getElem?_toArray, List.getElem?_cons_zero, List.getElem?_cons_succ] at kb0 kb1 kb2 kb3 kb4
  have hrb2 := RC.keep (w' := w2.alloc (.cells #[.string nm, .bool true, .slice p ob.length c, .int .i64 (os : Int)] 130)) hrb fun b hb => halloc_lt (RC.lt hrb hb)
  have hcp := fun U (hU : Chg (fun _ => False) (w2.alloc (.cells #[.string nm, .bool true, .slice p ob.length c, .int .i64 (os : Int)] 130)) U) => rcopied_any (w := U) (by have := HOL.out; omega) (RC.chg hrb2 hU fun _ _ h => h)
  have HCP := Lib.hid hcp
  have HC := Lib.hid hc
  clear hrb hrb2 hcp hc hdb0 hdb1 hdb2
  unfold fileV
  have hne1 : w.heap.size ≠ w2.heap.size := by have h1 := hlt_of HDB0.out; omega
  have hin2 : w.heap.size < w2.heap.size := hlt_of HDB0.out
  have HNE1 := Lib.hid hne1
  have HIN2 := Lib.hid hin2
  clear hne1 hin2
  go_wp2
  refine Rx.wp_region_sched (fun w' => w'.cell? ⟨w.heap.size, 2, none⟩ = some (.slice pb b.length cb)) [(0, .r), (1, .r), (3, .h), (4, .h), (2, .e), (5, .e), (6, .r), (7, .e)] (by kernel_rfl) (by kernel_rfl) kb2 (fun _ _ x _ _ h => (by cases x <;> exact h)) ?_
  iterate 2 (refine Rx.wpSched_q rfl rfl ?_; go_wp2; refine ⟨rfl, ?_⟩)
  iterate 2 (refine Rx.wpSched_h (v := ?_) rfl rfl ?_ ?_; rotate_left; (intro w' hS'; go_simp; try with_reducible rfl))
  refine Rx.wpSched_e rfl ?_
  go_wp2_with (first | (go_at_call 91; refine stop ?_))
  refine go ?_
  refine (HCP.out _ (by first | exact (Chg.refl (fun _ => False) _).drew | exact Chg.refl _ _)).mono ?_
  rintro e w3 ⟨v3, rfl, o3, c3, n3⟩
  obtain ⟨p3, cc3, rfl, -⟩ := id o3
  have c3 : Chg (fun _ => False) (w2.alloc (.cells #[.string nm, .bool true, .slice p ob.length c, .int .i64 (os : Int)] 130)) w3 := (by first | exact ((Chg.refl (fun _ => False) _).drew).trans c3 (fun k hk => hk.elim) | exact c3)
  have ht63 : w3.heap[w2.heap.size]? = _ := (c3.block w2.heap.size (by simp) (fun h => h)).trans (halloc_at w2 _)
  have hdb3 := (c3.block w.heap.size (by have := HIN2.out; simp; omega) (fun h => h)).trans ((halloc_lt HIN2.out).trans HDB0.out)
  have kd2 := hcell_of hdb3 2
  simp only [List.getElem?_toArray, List.getElem?_cons_zero, List.getElem?_cons_succ] at kd2
  have hrb3 := RC.chg HB.out (((((Chg.refl (fun _ => False) w).alloc _).trans HC.out fun _ h => h.elim).alloc _).trans c3 fun _ h => h.elim) fun _ _ h => h
  have O3 := Lib.hid o3
  have C3 := Lib.hid c3
  have N3 := Lib.hid n3
  have HT63 := Lib.hid ht63
  have HDB3 := Lib.hid hdb3
  have HRB3 := Lib.hid hrb3
  have KD2 := Lib.hid kd2
  clear o3 c3 n3 ht63 hdb3 hrb3
  go_wp2
  refine ⟨(by exact KD2.out), ?_⟩
  refine Rx.wpSched_e rfl ?_
  refine wpList_append_bytes rfl _ _ rfl (v := .slice p3 ob.length cc3) rfl rfl O3.out HRB3.out (by have h1 := HOL.out; have h2 := HBL.out; omega) ?_
  intro p4 l4 c4 w4 a1 a2 a3 a4
  obtain rfl : l4 = ob.length + b.length := (OB_len a1).trans (by simp)
  have hx6 : sblk (.slice p3 ob.length cc3) ≠ some w2.heap.size := (fun e => by have h1 := N3.out w2.heap.size e; simp at h1; omega)
  have hx5 : sblk (.slice p3 ob.length cc3) ≠ some w.heap.size := (fun e => by have h1 := N3.out w.heap.size e; have h2 := HIN2.out; simp at h1; omega)
  have ht64 := (a2.block _ (hlt_of HT63.out) hx6).trans HT63.out
  have hdb4 := (a2.block _ (hlt_of HDB3.out) hx5).trans HDB3.out
  have kd4 := hcell_of hdb4 2
  have g2 := hcell_of ht64 2
  have gf := hfree_of ht64 2
  simp only [List.getElem?_toArray, List.getElem?_cons_zero, List.getElem?_cons_succ] at kd4 g2
  have A1 := Lib.hid a1
  have A2 := Lib.hid a2
  have A3 := Lib.hid a3
  have HT64 := Lib.hid ht64
  have HDB4 := Lib.hid hdb4
  have KD4 := Lib.hid kd4
  have hs5 : (w4.setCell ⟨w2.heap.size, 2, none⟩ (.slice p4 (ob.length + b.length) c4)).cell? ⟨w.heap.size, 2, none⟩ = some (.slice pb b.length cb) := (World.cell?_of_block (a := ⟨w.heap.size, 2, none⟩) (hset_other (w := w4) (p := ⟨w2.heap.size, 2, none⟩) (v := .slice p4 (ob.length + b.length) c4) HNE1.out)).trans kd4
  have HS5 := Lib.hid hs5
  clear a1 a2 a3 a4 ht64 hdb4 hx5 hx6 kd2 hs5
  go_wp2
  refine ⟨(by exact KD4.out), ?_⟩
  (refine Rx.wpSched_q rfl rfl ?_; go_wp2; refine ⟨rfl, ?_⟩)
  refine Rx.wpSched_e rfl ?_
  go_wp2
  refine ⟨(by exact HS5.out), ?_⟩
  refine Rx.wpSched_nil ?_
  have hs3 := C3.out.size
  have hw5 : Chg (fun _ => False) w2 (w4.setCell ⟨w2.heap.size, 2, none⟩ (.slice p4 (ob.length + b.length) c4)) := ((((Chg.refl (fun _ => False) w2).alloc _).trans C3.out fun _ h => h.elim).trans A2.out fun k hk => .inr (by have h1 := N3.out k hk; simp at h1; omega)).setCell (p := ⟨w2.heap.size, 2, none⟩) (.inr (Nat.le_refl _)) _
  have ht65 := hset_same HT64.out 2 (.slice p4 (ob.length + b.length) c4)
  have hbig : ∀ k, sblk (.slice p4 (ob.length + b.length) c4) = some k → w2.heap.size < k := fun k hk => by
    rcases A3.out k hk with h1 | h1
    · have h2 := N3.out k h1; simp at h2; omega
    · simp at hs3; omega
  have o5 : OB (w4.setCell ⟨w2.heap.size, 2, none⟩ (.slice p4 (ob.length + b.length) c4)) 5 (.slice p4 (ob.length + b.length) c4) (ob ++ b) := OC.keep A1.out fun k hk => hset_other (by have := hbig k hk; show k ≠ w2.heap.size; omega)
  generalize w4.setCell ⟨w2.heap.size, 2, none⟩ (.slice p4 (ob.length + b.length) c4) = W5 at *
  simp only [List.setIfInBounds_toArray, List.set_cons_zero, List.set_cons_succ] at ht65
  clear g2 gf kd4
  have a0 := hcell_of ht65 0
  have a1 := hcell_of ht65 1
  have a2 := hcell_of ht65 2
  have a3 := hcell_of ht65 3
  simp only [List.getElem?_toArray, List.getElem?_cons_zero, List.getElem?_cons_succ] at a0 a1 a2 a3
  obtain ⟨fm, hfm⟩ : ∃ fm, ob ++ b = fm := ⟨_, rfl⟩
  have hfml : fm.length = ob.length + b.length := by rw [← hfm]; simp
  have hq : storeL (RF.fl ⟨nm, p4, c4, fm, os⟩) true D.files = putB nm b D.files := by rw [← hfm]; exact HST.out
  have hrw : r < w2.heap.size := by have h1 := H1.out.lt r HH.out.mem; have := HC.out.size; omega
  have hs := rstore_any (w := W5) ⟨nm, p4, c4, fm, os⟩ true HN.out ((H1.out.chg HC.out fun _ _ h => h).chg hw5 fun _ _ h => h)
    (fun _ => by show RB W5 (.slice p4 fm.length c4) fm; rw [hfml]; rw [hfm] at o5; exact o5.rb)
    (fun _ e => by have e : sblk (.slice p4 fm.length c4) = some r := e; have := hbig r ((sblk_len _ _ _ _).trans e); omega) (by rw [hq]; exact HOK.out)
  rw [hq] at hs
  simp only [hfml] at hs
  have HS := Lib.hid hs
  have HC5 := Lib.hid (((((Chg.refl (fun _ => False) w).alloc _).trans HC.out fun _ h => h.elim)).trans hw5 fun _ h => h.elim)
  have HBIG := Lib.hid hbig
  clear hs hq hfm hfml hw5 ht65 o5 hbig hs3 hrw
  go_wp2_with (first | (go_at_call 90; refine stop ?_))
  refine go ?_
  refine HS.out.mono ?_
  rintro e w6 ⟨rfl, hs6⟩
  have HS6 := Lib.hid hs6
  clear hs6
  go_wp2
  go_end0
  refine ⟨rfl, rleft_of HH.out HC5.out HS6.out fun j hj => .inr ?_⟩
  have h1 := HBIG.out j ((sblk_len _ _ _ _).trans hj)
  have h2 := HIN2.out
  omega
end
end Go.Proofs
