/- The document's disk: the other deeds. Conditions: the disk lies as RRep says; at most 2^40 files. -/
import Derived.Test.YthnemjnepnbjpaaR6
namespace Go.Proofs
open Go.RowKit Go.Hp Go.Dm Go.Dr
set_option linter.unusedVariables false
set_option maxRecDepth 10000

section
variable {w w' : World} {r : Nat} {D D' : Dk} {K K' L : Int} {v : Value} {l : List RF} {G : List Nat} {nm : ByteArray} {fb : List UInt8} {fs : Nat} {pb : Option Addr} {nb cb : Nat} {q m : Int}
theorem rrep_alloc (h : RRep w r D G) (o : Obj) : RRep (w.alloc o) r D G := h.keep fun k hk => halloc_lt (h.lt k hk)
theorem RRep.mem (h : RRep w r D G) : r ∈ G := by obtain ⟨K, v, l, h, rfl⟩ := h; simp
theorem rleft_of {w2 w3 : World} {x : RF} (h : RRep w r D G) (h0 : Chg (fun _ => False) w w2) (hs : Stored w2 r D' G x w3) (hx : ∀ k, sblk x.sv = some k → k ∈ G ∨ w.heap.size ≤ k) : RLeft w r G D' w3 := by
  obtain ⟨G', h1, h2, h3⟩ := hs
  refine ⟨G', h1, (h0.mono (fun k hk => hk.elim) : Chg (· ∈ G) w w2).trans h2 fun k hk => .inl (by subst hk; exact h.mem), fun k hk => ?_⟩
  rcases h3 k hk with h | h | h
  · exact .inl h
  · exact .inr (Nat.le_trans h0.size h)
  · exact hx k h
theorem files_ok {l : List Fl} (h : D.Ok) (e : D.files = l) : ({ D with files := l } : Dk).Ok := by subst e; exact h
set_option maxHeartbeats 8000000 in
theorem rdid_sync (hg : Dm.get D.files nm = some ⟨nm, fb, fs⟩) (hN : D.files.length ≤ 1099511627776) (h : RRep w r D G) :
    Calls Try.prog 94 #[.pointer (some ⟨r, 0, none⟩), deedV 2 nm pb nb cb q m] w fun e w' => e = .returned (.tuple #[]) ∧ RLeft w r G { D with files := upd nm (fun f => { f with sure := f.bytes.length }) D.files } w' := by
  have hst := storeL_upd h.ok.sorted hg (fun f => { f with sure := f.bytes.length }) rfl
  simp only at hst
  have hok := deed_ok h.ok nm (fun f => { f with sure := f.bytes.length }) (fun _ => rfl) (fun _ => Nat.le_refl _) (fun _ _ => Nat.le_refl _)
  have HST := Lib.hid hst
  have HOK := Lib.hid hok
  clear hst hok
  have h1 := rrep_alloc h (.cells #[.int .i64 2, .string nm, .slice pb nb cb, .int .i64 q, .int .u8 m] 140)
  have hbx := halloc_at w (.cells #[.int .i64 2, .string nm, .slice pb nb cb, .int .i64 q, .int .u8 m] 140)
  have hf := rfile_any (nm := nm) hN h1
  rw [hg] at hf
  have HF := Lib.hid hf
  have HG := Lib.hid hg
  have HN := Lib.hid hN
  have HH := Lib.hid h
  have H1 := Lib.hid h1
  have HBX := Lib.hid hbx
  unfold deedV
  clear h h1 hf hg hN hbx
  go_enter Try.func94, Try.ntmps94
  go_wp2_with (first | (go_at_call 89; refine stop ?_))
  refine go ?_
  refine HF.out.mono ?_
  rintro e w2 ⟨v2, rfl, ⟨p, c, rfl, hrb, hin⟩, hc⟩
  simp only at hrb hin
  have hz2 := (halloc_lt (o := (.cells #[.string nm, .bool true, .slice p fb.length c, .int .i64 (fs : Int)] 130)) (hlt_of ((hc.block _ (hlt_of HBX.out) (fun h => h)).trans HBX.out))).trans ((hc.block _ (hlt_of HBX.out) (fun h => h)).trans HBX.out)
  have kc0 := hcell_of hz2 0
  have kc1 := hcell_of hz2 1
  have kc2 := hcell_of hz2 2
  have kc3 := hcell_of hz2 3
  have kc4 := hcell_of hz2 4
  simp only [List.getElem?_toArray, List.getElem?_cons_zero, List.getElem?_cons_succ] at kc0 kc1 kc2 kc3 kc4
  have HREP := Lib.hid (rrep_alloc (H1.out.chg hc fun _ _ h => h) (.cells #[.string nm, .bool true, .slice p fb.length c, .int .i64 (fs : Int)] 130))
  have HC0 := Lib.hid ((((Chg.refl (fun _ => False) w).alloc _).trans hc fun _ h => h.elim).alloc (.cells #[.string nm, .bool true, .slice p fb.length c, .int .i64 (fs : Int)] 130))
  clear hz2
  have HRB := Lib.hid hrb
  have HIN := Lib.hid hin
  have HC := Lib.hid hc
  clear hrb hin hc
  unfold fileV
  go_wp2_with (first | (go_at_call 90; refine stop ?_))
  refine go ?_
  have hq : storeL (RF.fl ⟨nm, p, c, fb, fb.length⟩) true D.files = _ := HST.out
  have hs := rstore_any (w := w2.alloc (.cells #[.string nm, .bool true, .slice (⟨nm, p, c, fb, fb.length⟩ : RF).p (⟨nm, p, c, fb, fb.length⟩ : RF).bytes.length (⟨nm, p, c, fb, fb.length⟩ : RF).cap, .int .i64 ((⟨nm, p, c, fb, fb.length⟩ : RF).sure : Int)] 130)) ⟨nm, p, c, fb, fb.length⟩ true HN.out (rrep_alloc (H1.out.chg HC.out fun _ _ h => h) _) (fun _ => RC.keep HRB.out fun b hb => halloc_lt (RC.lt HRB.out hb)) (fun _ e => HH.out.off (HIN.out r e)) (by rw [hq]; exact HOK.out)
  rw [hq] at hs
  refine hs.mono ?_
  rintro e w3 ⟨rfl, hs3⟩
  have HS3 := Lib.hid hs3
  clear hs hs3 hq
  go_wp2
  go_end0
  exact ⟨rfl, rleft_of HH.out ((((Chg.refl (fun _ => False) w).alloc _).trans HC.out fun _ h => h.elim).alloc _) HS3.out (fun k hk => .inl (List.mem_of_mem_tail (HIN.out k hk)))⟩

set_option maxHeartbeats 8000000 in
theorem rdid_gone (hg : Dm.get D.files nm = some ⟨nm, fb, fs⟩) (hN : D.files.length ≤ 1099511627776) (h : RRep w r D G) :
    Calls Try.prog 94 #[.pointer (some ⟨r, 0, none⟩), deedV 4 nm pb nb cb q m] w fun e w' => e = .returned (.tuple #[]) ∧ RLeft w r G { D with files := del nm D.files } w' := by
  have hst := storeL_gone ⟨nm, fb, fs⟩ D.files
  simp only at hst
  have hok := h.ok.del nm
  have HST := Lib.hid hst
  have HOK := Lib.hid hok
  clear hst hok
  have h1 := rrep_alloc h (.cells #[.int .i64 4, .string nm, .slice pb nb cb, .int .i64 q, .int .u8 m] 140)
  have hbx := halloc_at w (.cells #[.int .i64 4, .string nm, .slice pb nb cb, .int .i64 q, .int .u8 m] 140)
  have hf := rfile_any (nm := nm) hN h1
  rw [hg] at hf
  have HF := Lib.hid hf
  have HG := Lib.hid hg
  have HN := Lib.hid hN
  have HH := Lib.hid h
  have H1 := Lib.hid h1
  have HBX := Lib.hid hbx
  unfold deedV
  clear h h1 hf hg hN hbx
  go_enter Try.func94, Try.ntmps94
  go_wp2_with (first | (go_at_call 89; refine stop ?_))
  refine go ?_
  refine HF.out.mono ?_
  rintro e w2 ⟨v2, rfl, ⟨p, c, rfl, hrb, hin⟩, hc⟩
  simp only at hrb hin
  have hz2 := (halloc_lt (o := (.cells #[.string nm, .bool true, .slice p fb.length c, .int .i64 (fs : Int)] 130)) (hlt_of ((hc.block _ (hlt_of HBX.out) (fun h => h)).trans HBX.out))).trans ((hc.block _ (hlt_of HBX.out) (fun h => h)).trans HBX.out)
  have kc0 := hcell_of hz2 0
  have kc1 := hcell_of hz2 1
  have kc2 := hcell_of hz2 2
  have kc3 := hcell_of hz2 3
  have kc4 := hcell_of hz2 4
  simp only [List.getElem?_toArray, List.getElem?_cons_zero, List.getElem?_cons_succ] at kc0 kc1 kc2 kc3 kc4
  have HREP := Lib.hid (rrep_alloc (H1.out.chg hc fun _ _ h => h) (.cells #[.string nm, .bool true, .slice p fb.length c, .int .i64 (fs : Int)] 130))
  have HC0 := Lib.hid ((((Chg.refl (fun _ => False) w).alloc _).trans hc fun _ h => h.elim).alloc (.cells #[.string nm, .bool true, .slice p fb.length c, .int .i64 (fs : Int)] 130))
  clear hz2
  have HRB := Lib.hid hrb
  have HIN := Lib.hid hin
  have HC := Lib.hid hc
  clear hrb hin hc
  unfold fileV
  go_wp2_with (first | (go_at_call 90; refine stop ?_))
  refine go ?_
  have hq : storeL (RF.fl ⟨nm, p, c, fb, fs⟩) false D.files = _ := HST.out
  have hs := rstore_any (w := w2.alloc (.cells #[.string nm, .bool false, .slice (⟨nm, p, c, fb, fs⟩ : RF).p (⟨nm, p, c, fb, fs⟩ : RF).bytes.length (⟨nm, p, c, fb, fs⟩ : RF).cap, .int .i64 ((⟨nm, p, c, fb, fs⟩ : RF).sure : Int)] 130)) ⟨nm, p, c, fb, fs⟩ false HN.out (rrep_alloc (H1.out.chg HC.out fun _ _ h => h) _) (fun e => by cases e) (fun e => by cases e) (by rw [hq]; exact HOK.out)
  rw [hq] at hs
  refine hs.mono ?_
  rintro e w3 ⟨rfl, hs3⟩
  have HS3 := Lib.hid hs3
  clear hs hs3 hq
  go_wp2
  go_end0
  exact ⟨rfl, rleft_of HH.out ((((Chg.refl (fun _ => False) w).alloc _).trans HC.out fun _ h => h.elim).alloc _) HS3.out (fun k hk => .inl (List.mem_of_mem_tail (HIN.out k hk)))⟩

set_option maxHeartbeats 8000000 in
theorem rdid_cut (bs : List UInt8) (hbs : fb.take bs.length = bs) (hle : bs.length ≤ fb.length) (hfl : fb.length ≤ 1099511627776) (hfs : fs ≤ fb.length) (hg : Dm.get D.files nm = some ⟨nm, fb, fs⟩) (hN : D.files.length ≤ 1099511627776) (h : RRep w r D G) :
    Calls Try.prog 94 #[.pointer (some ⟨r, 0, none⟩), deedV 3 nm pb nb cb (bs.length : Int) m] w fun e w' => e = .returned (.tuple #[]) ∧
      RLeft w r G { D with files := upd nm (fun f => { f with bytes := f.bytes.take bs.length, sure := min f.sure bs.length }) D.files } w' := by
  obtain ⟨mn, hmn⟩ : ∃ mn, mn = min fs bs.length := ⟨_, rfl⟩
  have hst := storeL_upd h.ok.sorted hg (fun f => { f with bytes := f.bytes.take bs.length, sure := min f.sure bs.length }) rfl
  simp only at hst
  rw [hbs, ← hmn] at hst
  have hok := deed_ok h.ok nm (fun f => { f with bytes := f.bytes.take bs.length, sure := min f.sure bs.length }) (fun _ => rfl) (fun f => by simp only [List.length_take]; omega) (fun f hf => by simp only [List.length_take]; omega)
  have hmin : min (fs : Int) (bs.length : Int) = (mn : Int) := by rw [hmn]; omega
  have hli : (bs.length : Int) ≤ (fb.length : Int) := by omega
  have hli2 : (fb.length : Int) ≤ 1099511627776 := by omega
  have HST := Lib.hid hst
  have HOK := Lib.hid hok
  have HBS := Lib.hid hbs
  have HLE := Lib.hid hle
  clear hst hok hbs hle hmn hfl hfs
  have h1 := rrep_alloc h (.cells #[.int .i64 3, .string nm, .slice pb nb cb, .int .i64 (bs.length : Int), .int .u8 m] 140)
  have hbx := halloc_at w (.cells #[.int .i64 3, .string nm, .slice pb nb cb, .int .i64 (bs.length : Int), .int .u8 m] 140)
  have hf := rfile_any (nm := nm) hN h1
  rw [hg] at hf
  have HF := Lib.hid hf
  have HG := Lib.hid hg
  have HN := Lib.hid hN
  have HH := Lib.hid h
  have H1 := Lib.hid h1
  have HBX := Lib.hid hbx
  unfold deedV
  clear h h1 hf hg hN hbx
  go_enter Try.func94, Try.ntmps94
  go_wp2_with (first | (go_at_call 89; refine stop ?_))
  refine go ?_
  refine HF.out.mono ?_
  rintro e w2 ⟨v2, rfl, ⟨p, c, rfl, hrb, hin⟩, hc⟩
  simp only at hrb hin
  have hz2 := (halloc_lt (o := (.cells #[.string nm, .bool true, .slice p fb.length c, .int .i64 (fs : Int)] 130)) (hlt_of ((hc.block _ (hlt_of HBX.out) (fun h => h)).trans HBX.out))).trans ((hc.block _ (hlt_of HBX.out) (fun h => h)).trans HBX.out)
  have kc0 := hcell_of hz2 0
  have kc1 := hcell_of hz2 1
  have kc2 := hcell_of hz2 2
  have kc3 := hcell_of hz2 3
  have kc4 := hcell_of hz2 4
  simp only [List.getElem?_toArray, List.getElem?_cons_zero, List.getElem?_cons_succ] at kc0 kc1 kc2 kc3 kc4
  have HREP := Lib.hid (rrep_alloc (H1.out.chg hc fun _ _ h => h) (.cells #[.string nm, .bool true, .slice p fb.length c, .int .i64 (fs : Int)] 130))
  have HC0 := Lib.hid ((((Chg.refl (fun _ => False) w).alloc _).trans hc fun _ h => h.elim).alloc (.cells #[.string nm, .bool true, .slice p fb.length c, .int .i64 (fs : Int)] 130))
  clear hz2
  have hrt := RB.takeP hrb bs.length HLE.out
  rw [HBS.out] at hrt
  have HRBT := Lib.hid hrt
  clear hrt
  have hz3 := (halloc_lt (o := .cells #[.string nm, .bool true, .slice p bs.length c, .int .i64 (fs : Int)] 130) (hlt_of ((hc.block _ (hlt_of HBX.out) (fun h => h)).trans HBX.out))).trans ((hc.block _ (hlt_of HBX.out) (fun h => h)).trans HBX.out)
  have kd3 := hcell_of hz3 3
  simp only [List.getElem?_toArray, List.getElem?_cons_zero, List.getElem?_cons_succ] at kd3
  clear hz3
  have hci : (fb.length : Int) ≤ (c : Int) := by obtain ⟨p', c', he, h2, -⟩ := hrb; simp only [Value.slice.injEq] at he; omega
  have HRB := Lib.hid hrb
  have HIN := Lib.hid hin
  have HC := Lib.hid hc
  clear hrb hin hc
  unfold fileV
  go_wp2_with (first | (go_at_call 90; refine stop ?_))
  refine go ?_
  have hq : storeL (RF.fl ⟨nm, p, c, bs, mn⟩) true D.files = _ := HST.out
  have hs := rstore_any (w := w2.alloc (.cells #[.string nm, .bool true, .slice (⟨nm, p, c, bs, mn⟩ : RF).p (⟨nm, p, c, bs, mn⟩ : RF).bytes.length (⟨nm, p, c, bs, mn⟩ : RF).cap, .int .i64 ((⟨nm, p, c, bs, mn⟩ : RF).sure : Int)] 130)) ⟨nm, p, c, bs, mn⟩ true HN.out (rrep_alloc (H1.out.chg HC.out fun _ _ h => h) _) (fun _ => RC.keep HRBT.out fun b hb => halloc_lt (RC.lt HRBT.out hb)) (fun _ e => HH.out.off (HIN.out r ((sblk_len _ _ _ _).trans e))) (by rw [hq]; exact HOK.out)
  rw [hq] at hs
  refine hs.mono ?_
  rintro e w3 ⟨rfl, hs3⟩
  have HS3 := Lib.hid hs3
  clear hs hs3 hq
  go_wp2
  go_end0
  exact ⟨rfl, rleft_of HH.out ((((Chg.refl (fun _ => False) w).alloc _).trans HC.out fun _ h => h.elim).alloc _) HS3.out (fun k hk => .inl (List.mem_of_mem_tail (HIN.out k ((sblk_len _ _ _ _).trans hk))))⟩
end
end Go.Proofs
