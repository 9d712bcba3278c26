/- The document's disk: file, look, survives. Conditions: the disk lies as RRep says; at most 2^40 files. -/
import Derived.Test.YthnemjnepnbjpaaR2
namespace Go.Proofs
open Go.RowKit Go.Hp Go.Dm Go.Dr
set_option linter.unusedVariables false
set_option maxRecDepth 10000

/-- a document's file as a value -/
def fileV (nm : ByteArray) (there : Bool) (p : Option Addr) (n c : Nat) (s : Nat) : Value := .agg #[.string nm, .bool there, .slice p n c, .int .i64 (s : Int)]
/-- the value v is the file o, its bytes read in w, its block one of G's -/
def FileIs (w : World) (G : List Nat) (nm : ByteArray) (o : Option Fl) (v : Value) : Prop :=
  match o with
  | some f => ∃ p c, v = fileV f.name true p f.bytes.length c f.sure ∧ RB w (.slice p f.bytes.length c) f.bytes ∧ ∀ k, sblk (.slice p f.bytes.length c) = some k → k ∈ G.tail
  | none => v = fileV nm false none 0 0 0

section
variable {w w' : World} {r : Nat} {D D' : Dk} {K K' L : Int} {v : Value} {l : List RF} {G : List Nat} {nm : ByteArray}

theorem fileIs_agg {o : Option Fl} (h : FileIs w G nm o v) : ∃ a b p n c s, v = fileV a b p n c s := by
  cases o with
  | none => exact ⟨_, _, _, _, _, _, h⟩
  | some f => obtain ⟨p, c, h, -⟩ := h; exact ⟨_, _, _, _, _, _, h⟩
theorem FileIs.chg {o : Option Fl} {F : Nat → Prop} (h : FileIs w G nm o v) (hc : Chg F w w') (hF : ∀ k ∈ G, ¬ F k) : FileIs w' G nm o v := by
  cases o with
  | none => exact h
  | some f => obtain ⟨p, c, h1, h2, h3⟩ := h; exact ⟨p, c, h1, RC.chg h2 hc fun k hk => hF k (List.mem_of_mem_tail (h3 k hk)), h3⟩
theorem tl_ne {a b : ByteArray} (h : a ≠ b) : (a.toList == b.toList) = false := by
  rw [ByteArray.toList_eq, ByteArray.toList_eq]
  cases hb : a.data.toList == b.data.toList with
  | false => rfl
  | true => exact absurd (bytes_ext (eq_of_beq hb)) h
theorem info_rfile : (Try.prog.info? 130).map (·.size) = some 4 := by kernel_rfl

theorem get_take_none {l : List Fl} {nm : ByteArray} (h : ∀ f ∈ l, f.name ≠ nm) : Dm.get l nm = none := by
  unfold Dm.get
  rw [List.find?_eq_none]
  intro f hf e
  exact h f hf ((MapKept.bytes_beq _ _).1 e)

set_option maxHeartbeats 2000000 in
theorem rfile_anyL (hN : D.files.length ≤ 1099511627776) (h : RRepL w r L D G) :
    Calls Try.prog 89 #[.pointer (some ⟨r, 0, none⟩), .string nm] w fun e w' => ∃ v, e = .returned v ∧ FileIs w' G nm (Dm.get D.files nm) v ∧ Chg (fun _ => False) w w' := by
  obtain ⟨K, v, l, h, rfl⟩ := h
  have hll : l.length = D.files.length := by have := congrArg List.length h.files; simpa using this
  have hlli : (l.length : Int) ≤ 1099511627776 := by omega
  obtain ⟨p, c, rfl, hnc, -, -⟩ := id h.sl
  have hnci : (l.length : Int) ≤ c := by omega
  have h1 := h.keepW (w' := w.alloc (.cells #[.string ⟨#[]⟩, .bool false, .slice none 0 0, .int .i64 0] 130)) fun k hk => halloc_lt (h.lt k hk)
  obtain ⟨c0, c1, c2, c3, c4, fz⟩ := h1.cells
  have H := Lib.hid h
  have H1 := Lib.hid h1
  clear c0 c2 c3 c4 fz h h1 hN hll hnc
  go_enter Try.func89, Try.ntmps89
  go_wp2
  go_loopw [5] (fun i wr => (w.alloc (.cells #[.string ⟨#[]⟩, .bool false, .slice none 0 0, .int .i64 0] 130)) = wr ∧ ∃ j : Nat, j ≤ l.length ∧ i = .int .i64 (j : Int) ∧ ∀ x ∈ l.take j, x.name ≠ nm) (fun i _ => l.length - (Lib.intOf i).toNat)
  case atStart => exact ⟨rfl, 0, Nat.zero_le _, rfl, fun x hx => (by simp at hx)⟩
  case round =>
    obtain ⟨hww, j, hj, rfl, hno⟩ := hrel
    subst hww
    have HNO := Lib.hid hno
    clear hno
    by_cases hjl : (j : Int) < l.length
    · obtain ⟨b, off, x, rfl, -, -, hx, z0, z1, z2, z3⟩ := RRaw.file H1.out.sl (k := j) (by omega)
      have hj0 : (0 : Int) ≤ (j : Int) := by omega
      have HX := Lib.hid hx
      by_cases hn : x.name = nm
      · have hget : Dm.get D.files nm = some x.fl := by
          have h1 : x.fl ∈ D.files := by rw [← H.out.files]; exact List.mem_map_of_mem (List.mem_of_getElem? hx)
          have := get_of_mem H.out.ok.sorted.nodup h1
          rw [← hn]; exact this
        have hrb := H.out.each x (List.mem_of_getElem? hx)
        have hin : ∀ k, sblk x.sv = some k → k ∈ (r :: lrblk (.slice (some ⟨b, off, none⟩) l.length c) l).tail := fun k hk => mem_lrblk2 (List.mem_of_getElem? hx) hk
        have HGET := Lib.hid hget
        have HRB := Lib.hid hrb
        have HIN := Lib.hid hin
        have e2 : x.sv = .slice x.p x.bytes.length x.cap := rfl
        rw [hn] at z0
        rw [e2] at z2
        have HN := Lib.hid hn
        clear hx hget hrb hin hn e2
        go_wp2
        refine bodyPost_ret (results_cell1 (p := 4) (cs := #[.string nm, .bool true, .slice x.p x.bytes.length x.cap, .int .i64 (x.sure : Int)]) rfl _ _ w.heap.size 130 (0, 0) _ rfl (halloc_at w _) Try.underlying130 rfl info_rfile) rfl ?_
        refine ⟨_, rfl, ?_, (Chg.refl _ w).alloc _⟩
        rw [HGET.out]
        exact ⟨x.p, x.cap, by rw [← HN.out]; rfl, RC.keep HRB.out fun b hb => halloc_lt (RC.lt HRB.out hb), HIN.out⟩
      · have g0 := tl_ne hn
        have hno2 : ∀ y ∈ l.take (j + 1), y.name ≠ nm := fun y hy => by
          rw [List.take_add_one, HX.out] at hy
          rcases List.mem_append.1 hy with hy | hy
          · exact HNO.out y hy
          · obtain rfl : y = x := by simpa using hy
            exact hn
        have HNO2 := Lib.hid hno2
        clear hx hno2
        go_wp2
        go_roundw
        case rel => exact ⟨trivial, j + 1, by omega, by go_num, HNO2.out⟩
        case measure => simp [Lib.intOf]; omega
    · have hget : Dm.get D.files nm = none := by
        rw [← H.out.files]
        refine get_take_none fun f hf => ?_
        obtain ⟨x, hx, rfl⟩ := List.mem_map.1 hf
        exact HNO.out x (by rw [List.take_of_length_le (by omega)]; exact hx)
      have HGET := Lib.hid hget
      clear hget
      go_wp2
      refine bodyPost_ret (results_cell1 (p := 4) (cs := #[.string nm, .bool false, .slice none 0 0, .int .i64 0]) rfl _ _ w.heap.size 130 (0, 0) _ rfl (halloc_at w _) Try.underlying130 rfl info_rfile) rfl ?_
      refine ⟨_, rfl, ?_, (Chg.refl _ w).alloc _⟩
      rw [HGET.out]
      rfl

theorem rfile_any (hN : D.files.length ≤ 1099511627776) (h : RRep w r D G) :
    Calls Try.prog 89 #[.pointer (some ⟨r, 0, none⟩), .string nm] w fun e w' => ∃ v, e = .returned v ∧ FileIs w' G nm (Dm.get D.files nm) v ∧ Chg (fun _ => False) w w' :=
  rfile_anyL (L := (D.limit : Int)) hN h

theorem results_cell_tmp {P : Program} {fn : Func} {p q : Tmp} {ty : TypeId} {cs : Array Value} (h : fn.results = #[.cell p ty, .tmp q]) (tmps : Array Value) (w : World) (g : Nat) (t : TypeId) (fr : Nat × Nat) (d : TypeDesc)
    (hp : tmps.getD p undef = .pointer (some ⟨g, 0, none⟩)) (hg : w.heap[g]? = some (.cells cs t fr))
    (hu : P.underlying ty = some d) (hd : (match d with | .struct _ | .array _ _ => true | _ => false) = true) (hi : (P.info? ty).map (·.size) = some cs.size) (u : Value) (hu2 : tmps.getD q undef = u) :
    (results fn tmps).run P w = .ok (.tuple #[.agg cs, u]) w := by
  have hp' : tmps[p]?.getD undef = .pointer (some ⟨g, 0, none⟩) := by simpa using hp
  have hq' : tmps[q]?.getD undef = u := by simpa using hu2
  simp [results, h, hp', hq', asAddr, run_loadVar_row w g t ty cs fr d hg hu hd hi]

/-- what look says of a name -/
def lookC (D : Dk) (nm : ByteArray) (must : Bool) : Nat :=
  if D.down then 110 else if okName nm then (match Dm.get D.files nm with | some _ => 0 | none => if must then 112 else 0) else 113
theorem lookC_true (D : Dk) (nm : ByteArray) : lookC D nm true = D.look nm := rfl
theorem lookC_false (D : Dk) (nm : ByteArray) : lookC D nm false = if D.look nm = 112 then 0 else D.look nm := by
  unfold lookC Dk.look
  by_cases h : D.down = true
  · rw [if_pos h, if_pos h]; rfl
  · rw [if_neg h, if_neg h]
    by_cases h2 : okName nm = true
    · rw [if_pos h2, if_pos h2]
      cases Dm.get D.files nm <;> simp
    · rw [if_neg h2, if_neg h2]; rfl

/-- look's answer -/
def Looked (w : World) (G : List Nat) (D : Dk) (nm : ByteArray) (must : Bool) (e : Ending) (w' : World) : Prop :=
  ∃ a b p n c s, e = .returned (.tuple #[fileV a b p n c s, .int .i64 (lookC D nm must : Int)]) ∧ (lookC D nm must = 0 → must = true → FileIs w' G nm (Dm.get D.files nm) (fileV a b p n c s)) ∧ Chg (fun _ => False) w w'

theorem fileV_inj {a a' : ByteArray} {b b' : Bool} {p p' : Option Addr} {n n' c c' s s' : Nat} (h : fileV a b p n c s = fileV a' b' p' n' c' s') : a = a' ∧ b = b' ∧ p = p' ∧ n = n' ∧ c = c' ∧ s = s' := by
  unfold fileV at h
  simp at h
  exact ⟨h.1, h.2.1, h.2.2.1.1, h.2.2.1.2.1, h.2.2.1.2.2, by have := h.2.2.2; omega⟩
theorem chg4n {w W : World} (h : Chg (fun _ => False) w W) (v0 v1 v2 v3 : Value) : Chg (fun _ => False) w ((((W.setCell ⟨w.heap.size, 0, none⟩ v0).setCell ⟨w.heap.size, 1, none⟩ v1).setCell ⟨w.heap.size, 2, none⟩ v2).setCell ⟨w.heap.size, 3, none⟩ v3) :=
  (((h.setCell (p := ⟨w.heap.size, 0, none⟩) (.inr (Nat.le_refl _)) v0).setCell (p := ⟨w.heap.size, 1, none⟩) (.inr (Nat.le_refl _)) v1).setCell (p := ⟨w.heap.size, 2, none⟩) (.inr (Nat.le_refl _)) v2).setCell (p := ⟨w.heap.size, 3, none⟩) (.inr (Nat.le_refl _)) v3
theorem looked_no {must : Bool} {e : Ending} (h0 : lookC D nm must ≠ 0) (he : e = .returned (.tuple #[fileV ⟨#[]⟩ false none 0 0 0, .int .i64 (lookC D nm must : Int)])) (hc : Chg (fun _ => False) w w') : Looked w G D nm must e w' :=
  ⟨⟨#[]⟩, false, none, 0, 0, 0, he, fun h => absurd h h0, hc⟩
def rz : Array Value := #[.string ⟨#[]⟩, .bool false, .slice none 0 0, .int .i64 0]

set_option maxHeartbeats 2000000 in
theorem rlook_any (must : Bool) (hs : nm.size ≤ maxLen) (hN : D.files.length ≤ 1099511627776) (h : RRep w r D G) :
    Calls Try.prog 92 #[.pointer (some ⟨r, 0, none⟩), .string nm, .bool must] w (Looked w G D nm must) := by
  have h1 : RRep (w.alloc (.cells rz 130)) r D G := h.keep fun k hk => halloc_lt (h.lt k hk)
  have hz := halloc_at w (.cells rz 130)
  unfold rz at h1 hz
  obtain ⟨K, v, l, h2, hG⟩ := id h1
  obtain ⟨c0, c1, c2, c3, c4, fz⟩ := h2.cells
  have H1 := Lib.hid h1
  have HZ := Lib.hid hz
  have HLT := Lib.hid h.lt
  clear c0 c1 c3 c4 fz h2 hG h1 hz
  by_cases hd : D.down = true
  · have e : lookC D nm must = 110 := by unfold lookC; rw [if_pos hd]
    have E := Lib.hid e
    rw [hd] at c2
    clear e hd
    go_enter Try.func92, Try.ntmps92
    go_wp2
    (try simp only [Exit.inBlock, Exit.then])
    refine bodyPost_ret (results_cell_tmp (p := 6) (q := 7) (cs := #[.string ⟨#[]⟩, .bool false, .slice none 0 0, .int .i64 0]) rfl _ _ w.heap.size 130 (0, 0) _ rfl ?_ Try.underlying130 rfl info_rfile (.int .i64 110) rfl) rfl ?_
    · exact halloc_at w _
    · exact looked_no (by rw [E.out]; simp) (by rw [E.out]; rfl) ((Chg.refl _ w).alloc _)
  · have hd' : D.down = false := by simpa using hd
    rw [hd'] at c2
    have hnm := fun W => rnamed_any nm W hs
    by_cases ho : okName nm = true
    · rw [ho] at hnm
      have HNM := Lib.hid hnm
      have HFI := Lib.hid (rfile_any (nm := nm) hN H1.out)
      have e : lookC D nm must = match Dm.get D.files nm with | some _ => 0 | none => if must then 112 else 0 := by unfold lookC; rw [if_neg hd, if_pos ho]
      have E := Lib.hid e
      clear e hd hd' hnm ho hs hN h
      go_enter Try.func92, Try.ntmps92
      go_wp2_with (first | (go_at_call 88; refine (HNM.out _).mono ?_; rintro e w' ⟨rfl, rfl⟩) | (go_at_call 89; refine stop ?_))
      refine go ?_
      refine HFI.out.mono ?_
      rintro e w2 ⟨v2, rfl, f1, f2⟩
      obtain ⟨a, b, p, n, c, s, rfl⟩ := fileIs_agg f1
      have hz2 := (halloc_lt (o := .cells #[.string a, .bool b, .slice p n c, .int .i64 (s : Int)] 130) (hlt_of ((f2.block _ (hlt_of HZ.out) (fun h => h)).trans HZ.out))).trans ((f2.block _ (hlt_of HZ.out) (fun h => h)).trans HZ.out)
      have kc0 := hcell_of hz2 0
      have kc1 := hcell_of hz2 1
      have kc2 := hcell_of hz2 2
      have kc3 := hcell_of hz2 3
      have kf := hfree_of hz2
      simp only [List.getElem?_toArray, List.getElem?_cons_zero, List.getElem?_cons_succ] at kc0 kc1 kc2 kc3
      have F1 := Lib.hid f1
      have F2 := Lib.hid (((Chg.refl (fun _ => False) w).alloc (.cells rz 130)).trans f2 fun _ h => h.elim)
      have HZ2 := Lib.hid hz2
      clear f1 f2 hz2
      unfold fileV
      cases must with
      | false =>
        have E0 : Hid (lookC D nm false = 0) := Lib.hid (by rw [E.out]; cases Dm.get D.files nm <;> rfl)
        clear E
        go_wp2
        (try simp only [Exit.inBlock, Exit.then])
        refine bodyPost_ret (results_cell_tmp (p := 6) (q := 7) (cs := #[.string a, .bool b, .slice p n c, .int .i64 (s : Int)]) rfl _ _ w.heap.size 130 (0, 0) _ rfl ?_ Try.underlying130 rfl info_rfile (.int .i64 0) rfl) rfl ?_
        · simp only [hset, if_true]
          rw [HZ2.out]
          simp [objSet]
        · exact ⟨a, b, p, n, c, s, by rw [E0.out]; rfl, fun _ h => (by cases h), chg4n (F2.out.alloc _) _ _ _ _⟩
      | true =>
        cases hg : Dm.get D.files nm with
        | none =>
          have e := F1.out
          rw [hg] at e
          obtain ⟨-, rfl, -⟩ := fileV_inj e
          have E0 : Hid (lookC D nm true = 112) := Lib.hid (by rw [E.out, hg]; rfl)
          clear E hg e
          go_wp2
          (try simp only [Exit.inBlock, Exit.then])
          refine bodyPost_ret (results_cell_tmp (p := 6) (q := 7) (cs := #[.string ⟨#[]⟩, .bool false, .slice none 0 0, .int .i64 0]) rfl _ _ w.heap.size 130 (0, 0) _ rfl ?_ Try.underlying130 rfl info_rfile (.int .i64 112) rfl) rfl ?_
          · simp only [hset, if_true]
            rw [HZ2.out]
            simp [objSet]
          · exact looked_no (by rw [E0.out]; simp) (by rw [E0.out]; rfl) (chg4n (F2.out.alloc _) _ _ _ _)
        | some f =>
          have e := F1.out
          rw [hg] at e
          obtain ⟨p', c', e, hrb, hin⟩ := e
          obtain ⟨rfl, rfl, rfl, rfl, rfl, rfl⟩ := fileV_inj e
          have E0 : Hid (lookC D nm true = 0) := Lib.hid (by rw [E.out, hg])
          have HG := Lib.hid hg
          have HRB := Lib.hid hrb
          have HIN := Lib.hid hin
          clear E hg e hrb hin
          go_wp2
          (try simp only [Exit.inBlock, Exit.then])
          refine bodyPost_ret (results_cell_tmp (p := 6) (q := 7) (cs := #[.string f.name, .bool true, .slice p f.bytes.length c, .int .i64 (f.sure : Int)]) rfl _ _ w.heap.size 130 (0, 0) _ rfl ?_ Try.underlying130 rfl info_rfile (.int .i64 0) rfl) rfl ?_
          · simp only [hset, if_true]
            rw [HZ2.out]
            simp [objSet]
          · refine ⟨_, _, _, _, _, _, by rw [E0.out]; rfl, fun _ _ => ?_, chg4n (F2.out.alloc _) _ _ _ _⟩
            rw [HG.out]
            refine ⟨p, c, rfl, RC.keep HRB.out fun b hb => ?_, HIN.out⟩
            have h1 := RC.lt HRB.out hb
            have h2 := HLT.out b (List.mem_of_mem_tail (HIN.out b hb))
            have h3 : b ≠ w.heap.size := by omega
            rw [hset_other (by exact h3), hset_other (by exact h3), hset_other (by exact h3), hset_other (by exact h3), halloc_lt h1]
    · have ho' : okName nm = false := by simpa using ho
      rw [ho'] at hnm
      have HNM := Lib.hid hnm
      have e : lookC D nm must = 113 := by unfold lookC; rw [if_neg hd, if_neg ho]
      have E := Lib.hid e
      clear e hd hd' hnm ho ho' hs hN h
      go_enter Try.func92, Try.ntmps92
      go_wp2_with (first | (go_at_call 88; refine (HNM.out _).mono ?_; rintro e w' ⟨rfl, rfl⟩))
      (try simp only [Exit.inBlock, Exit.then])
      refine bodyPost_ret (results_cell_tmp (p := 6) (q := 7) (cs := #[.string ⟨#[]⟩, .bool false, .slice none 0 0, .int .i64 0]) rfl _ _ w.heap.size 130 (0, 0) _ rfl ?_ Try.underlying130 rfl info_rfile (.int .i64 113) rfl) rfl ?_
      · exact halloc_at w _
      · exact looked_no (by rw [E.out]; simp) (by rw [E.out]; rfl) ((Chg.refl _ w).alloc _)
end
end Go.Proofs
