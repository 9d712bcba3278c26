/- The document's disk: falls, change, Crash, Sync, Cut, Remove, Turn. Conditions: the disk lies as RRep says; at most 2^40 files. -/
import Derived.Test.YthnemjnepnbjpaaR8
import Derived.Test.YthnemjnepnbjpaaPa
namespace Go.Proofs
open Go.RowKit Go.Hp Go.Dm Go.Dr
set_option linter.unusedVariables false
set_option maxRecDepth 10000

section
variable {w w' : World} {r : Nat} {D D' : Dk} {K K' L : Int} {v : Value} {l : List RF} {G : List Nat} {nm : ByteArray}

theorem lose_ok (h : D.Ok) (q : Nat) : (D.lose q).Ok :=
  { sorted := lose_sorted h.sorted
    sure := fun f hf => by
      obtain ⟨x, -, hx⟩ := List.mem_filterMap.1 hf
      exact (surv_len hx).2
    used := Nat.le_trans (total_lose q D.files) h.used
    limit := h.limit
    steps := Nat.zero_le _
    keepLo := h.keepLo
    keepHi := h.keepHi
    armed := fun h => absurd rfl h }

theorem RLeft.trans {D2 : Dk} {w1 w2 : World} (h : ∃ G', RRep w1 r D' G' ∧ Ev G G' w w1) (k : ∀ G', RRep w1 r D' G' → RLeft w1 r G' D2 w2) : RLeft w r G D2 w2 := by
  obtain ⟨G', h1, h2⟩ := h
  obtain ⟨G2, k1, k2⟩ := k G' h1
  exact ⟨G2, k1, h2.trans k2⟩
theorem RLeft.quiet {w1 w2 : World} (hc : Chg (fun _ => False) w w1) (k : RLeft w1 r G D' w2) (hG : ∀ x ∈ G, x < w.heap.size) : RLeft w r G D' w2 := by
  obtain ⟨G', k1, k2⟩ := k
  exact ⟨G', k1, (⟨hc.mono fun k hk => hk.elim, fun k hk => .inl hk⟩ : Ev G G w w1).trans k2⟩

set_option maxHeartbeats 2000000 in
theorem rfalls_any (q : Nat) (hq : (q : Int) ≤ 9223372036854775807) (hN : D.files.length ≤ 1099511627776) (h : RRep w r D G) :
    Calls Try.prog 95 #[.pointer (some ⟨r, 0, none⟩), .int .i64 (q : Int)] w fun e w' => e = .returned (.tuple #[]) ∧ RLeft w r G (D.lose q) w' := by
  have hd := rdid_crash ⟨#[]⟩ none 0 0 q 0 hq hN h
  unfold deedV at hd
  have HD := Lib.hid hd
  have HH := Lib.hid h
  clear hd h hN hq
  go_enter Try.func95, Try.ntmps95
  go_wp2_with (first | (go_at_call 94; refine stop ?_))
  refine go ?_
  refine HD.out.mono ?_
  rintro e w2 ⟨rfl, G2, h2, v2⟩
  obtain ⟨K2, vv, l2, h2, rfl⟩ := h2
  obtain ⟨c0, c1, c2, c3, c4, fz⟩ := h2.cells
  have H2 := Lib.hid h2
  have V2 := Lib.hid v2
  clear c0 c1 c4 h2 v2
  go_wp2
  go_end0
  obtain ⟨e1, e2⟩ := H2.out.setHead (w' := (w2.setCell ⟨r, 2, none⟩ (.bool true)).setCell ⟨r, 3, none⟩ (.int .i64 0)) (D' := D.lose q) (K' := K2) (((Chg.refl (· = r) w2).setCell (p := ⟨r, 2, none⟩) (.inl rfl) _).setCell (p := ⟨r, 3, none⟩) (.inl rfl) _)
    (by simp only [hset, if_true]; rw [H2.out.head]; simp [objSet, rhead, Dk.lose]) rfl (lose_ok HH.out.ok q) H2.out.keep
  exact ⟨rfl, _, e1, V2.out.trans e2⟩

set_option maxHeartbeats 2000000 in
/-- a change that no error has refused -/
theorem rchange_any (g : List Fl → List Fl) (k : Int) (pb : Option Addr) (nb cb : Nat) (q m : Int) (hN : D.files.length ≤ 1099511627776)
    (hdid : ∀ (W : World) (G : List Nat), RRep W r D.tick G → Calls Try.prog 94 #[.pointer (some ⟨r, 0, none⟩), deedV k nm pb nb cb q m] W fun e w' => e = .returned (.tuple #[]) ∧ RLeft W r G { D.tick with files := g D.files } w')
    (h : RRep w r D G) :
    Calls Try.prog 96 #[.pointer (some ⟨r, 0, none⟩), deedV k nm pb nb cb q m] w fun e w' => e = .returned (.int .i64 ((D.change g).1 : Int)) ∧ RLeft w r G (D.change g).2 w' := by
  have hbx := halloc_at w (.cells #[.int .i64 k, .string nm, .slice pb nb cb, .int .i64 q, .int .u8 m] 140)
  have hlt := h.lt
  obtain ⟨K, vv, l, h, rfl⟩ := h
  have h1 := h.keepW (w' := w.alloc (.cells #[.int .i64 k, .string nm, .slice pb nb cb, .int .i64 q, .int .u8 m] 140)) fun k hk => halloc_lt (h.lt k hk)
  have hfi := rfires_raw h1
  have HH := Lib.hid h
  have HN := Lib.hid hN
  have HDID := Lib.hid hdid
  have HBX := Lib.hid hbx
  have HLT := Lib.hid hlt
  unfold Dk.change
  unfold deedV at HDID ⊢
  by_cases hf : D.fires = true
  · rw [hf] at hfi
    rw [if_pos hf]
    have HFI := Lib.hid hfi
    have HFR := Lib.hid hf
    clear hfi hf hN hdid hbx hlt h h1
    go_enter Try.func96, Try.ntmps96
    go_wp2_with (first | (go_at_call 93; refine stop ?_))
    refine go ?_
    refine HFI.out.mono ?_
    rintro e w2 ⟨rfl, h2, v2⟩
    obtain ⟨c0, c1, c2, c3, c4, fz⟩ := h2.cells
    have hst1 : D.steps = 1 := fires_eq HFR.out
    have hK : K = D.keep := HH.out.keep
    obtain ⟨kk, hkk⟩ : ∃ kk : Nat, D.keep = (kk : Int) := Int.eq_ofNat_of_zero_le (HH.out.ok.armed (by rw [hst1]; simp))
    rw [hK, hkk] at c4
    have hfa := rfalls_any kk (by have := HH.out.ok.keepHi; omega) (by exact HN.out) (⟨K, vv, l, h2, rfl⟩ : RRep w2 r D.tick _)
    have HFA := Lib.hid hfa
    have V2 := Lib.hid v2
    have HKK := Lib.hid hkk
    clear c0 c1 c2 c3 h2 v2 hst1 hK hkk hfa fz
    go_wp2_with (first | (go_at_call 95; refine HFA.out.mono ?_; rintro e w3 ⟨rfl, hl3⟩))
    go_ret
    obtain ⟨G3, h3, v3⟩ := hl3
    refine ⟨rfl, G3, ?_, ?_⟩
    · rw [show D.keep.toNat = kk by rw [HKK.out]; rfl]; exact h3
    · have e0 : Ev (r :: lrblk vv l) (r :: lrblk vv l) w w2 := ⟨((Chg.refl (· ∈ r :: lrblk vv l) w).alloc _).trans V2.out fun k hk => .inl (by subst hk; simp), fun k hk => .inl hk⟩
      exact e0.trans v3
  · have hf' : D.fires = false := by simpa using hf
    rw [hf'] at hfi
    rw [if_neg hf]
    have HFI := Lib.hid hfi
    clear hfi hf hf' hN hdid hbx hlt h h1
    go_enter Try.func96, Try.ntmps96
    go_wp2_with (first | (go_at_call 93; refine stop ?_))
    refine go ?_
    refine HFI.out.mono ?_
    rintro e w2 ⟨rfl, h2, v2⟩
    have hz2 := (v2.block _ (by simp) (fun e => by have := HLT.out r (by simp); omega)).trans HBX.out
    have kc0 := hcell_of hz2 0
    have kc1 := hcell_of hz2 1
    have kc2 := hcell_of hz2 2
    have kc3 := hcell_of hz2 3
    have kc4 := hcell_of hz2 4
    simp only [List.getElem?_toArray, List.getElem?_cons_zero, List.getElem?_cons_succ] at kc0 kc1 kc2 kc3 kc4
    have HD := Lib.hid (HDID.out w2 _ (⟨K, vv, l, h2, rfl⟩ : RRep w2 r D.tick _))
    have V2 := Lib.hid v2
    clear h2 v2 hz2
    go_wp2_with (first | (go_at_call 94; refine HD.out.mono ?_; rintro e w3 ⟨rfl, hl3⟩))
    go_ret
    obtain ⟨G3, h3, v3⟩ := hl3
    refine ⟨rfl, G3, h3, ?_⟩
    have e0 : Ev (r :: lrblk vv l) (r :: lrblk vv l) w w2 := ⟨((Chg.refl (· ∈ r :: lrblk vv l) w).alloc _).trans V2.out fun k hk => .inl (by subst hk; simp), fun k hk => .inl hk⟩
    exact e0.trans v3
end
end Go.Proofs
