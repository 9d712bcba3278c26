/- played: a whole script on the disk and on the document's: it answers true whatever the kinds asked for. Conditions: the script's files and ops lie as IFiles and OpsAt say. -/
import Derived.Test.YthnemjnepnbjpaaRf
import Derived.Test.YthnemjnepnbjpaaMy
import Derived.OwnWalk
import Derived.Test.YthnemjnepnbjpaaAl
namespace Go.Proofs
open Go.RowKit Go.Hp Go.Dm Go.Dr
set_option linter.unusedVariables false
set_option maxRecDepth 10000

theorem Many.addRdisk {W w w' : World} {L : List Ent} {d : Nat} {D : Dk} {F : List Nat} (h : Many W w L) (h1 : RRep w' d D F) (h2 : Ev [] F w w') : Many W w' (Ent.rdisk d D F :: L) :=
  h.add (y := Ent.rdisk d D F) (h2.chg.mono fun k hk => (by cases hk)) h1 (good_rdisk _ _ _) fun k hk => (h2.new k hk).elim (fun h => by cases h) id
theorem Many.rdid {W w w' : World} {L : List Ent} {d : Nat} {D D' : Dk} {F : List Nat} {a : Ans} {v : Value} (h : Many W w (Ent.rdisk d D F :: L)) (hd : RDid w d F D' a v w') :
    ∃ F' x, x.a = a ∧ v = x.val ∧ Many W w' (Ent.rdisk d D' F' :: Ent.ans x :: L) := by
  obtain ⟨F', A, h1, h2, h3, h4⟩ := hd
  obtain ⟨x, hx, hv, rfl, hat⟩ := h3.av
  exact ⟨F', x, hx, hv, h.turnAdd (y := Ent.rdisk d D' F') (z := Ent.ans x) h1 (good_rdisk _ _ _) h2 hat (good_ans _) h4⟩
theorem IFiles.slice {w : World} {v : Value} {l : List LI} (h : IFiles w v l) : ∃ p n c, v = .slice p n c := by
  obtain ⟨p, c, e, -⟩ := h.row; exact ⟨p, _, c, e⟩

/-- both disks of a script, just made -/
def Made (w w' : World) (lim : Int) (e : Ending) : Prop :=
  (e = .returned (.tuple #[.pointer none, .pointer none, .bool true]) ∧ Chg (fun _ => False) w w') ∨
  (∃ (W : World) (n : Nat) (D : Dk) (d r : Nat) (F G : List Nat), Chg (fun _ => False) w W ∧ e = .returned (.tuple #[.pointer (some ⟨d, 0, none⟩), .pointer (some ⟨r, 0, none⟩), .bool true]) ∧
    D.files.length ≤ 1048576 ∧ Many W w' [Ent.disk d D F, Ent.rdisk r D G])

section
variable {w : World} {fv ov : Value} {l : List LI}

set_option maxHeartbeats 4000000 in
theorem made_new_bad (lim : Int) (hl : lim < 0 ∨ 1099511627776 < lim) (p : Option Addr) (c : Nat) :
    Calls Try.prog 55 #[.agg #[.int .i64 lim, .slice p 0 c, ov]] w fun e w' => Made w w' lim e := by
  have HN := Lib.hid (new_bad (w := w.alloc (.cells #[.int .i64 lim, .slice p 0 c, ov] 50)) lim hl)
  have HM := Lib.hid (rnew_bad (w := w.alloc (.cells #[.int .i64 lim, .slice p 0 c, ov] 50)) lim hl)
  have HCW := Lib.hid ((Chg.refl (fun _ => False) w).alloc (.cells #[.int .i64 lim, .slice p 0 c, ov] 50))
  clear hl
  go_enter Try.func55, Try.ntmps55
  go_wp2_with (first | (go_at_call 16; refine (num_any _ _).mono ?_; rintro e w' ⟨rfl, rfl⟩) | (go_at_call 15; ((with_reducible refine HN.out.mono ?_); rintro e w' ⟨rfl, rfl⟩)) | (go_at_call 62; ((with_reducible refine HM.out.mono ?_); rintro e w' ⟨rfl, rfl⟩)))
  go_ret3
  exact .inl ⟨rfl, HCW.out⟩

set_option maxHeartbeats 4000000 in
theorem made_new_ok (n : Nat) (hn : n ≤ 1099511627776) (p : Option Addr) (c : Nat) :
    Calls Try.prog 55 #[.agg #[.int .i64 (n : Int), .slice p 0 c, ov]] w fun e w' => Made w w' (n : Int) e := by
  have HN := Lib.hid (new_ok (w := w.alloc (.cells #[.int .i64 (n : Int), .slice p 0 c, ov] 50)) n hn)
  have HM := Lib.hid fun W => rnew_ok (w := W) n hn
  have HCW := Lib.hid ((Chg.refl (fun _ => False) w).alloc (.cells #[.int .i64 (n : Int), .slice p 0 c, ov] 50))
  have HZ := Lib.hid (halloc_at w (.cells #[.int .i64 (n : Int), .slice p 0 c, ov] 50))
  clear hn
  go_enter Try.func55, Try.ntmps55
  go_wp2_with (first | (go_at_call 16; refine (num_any _ _).mono ?_; rintro e w' ⟨rfl, rfl⟩) | (go_at_call 15; refine stop ?_))
  refine go ?_
  refine HN.out.mono ?_
  rintro e w1 ⟨he, h1, v1⟩
  rw [halloc_size] at he h1 v1
  generalize w.heap.size + 1 + 1 = d at he h1 v1
  subst he
  have M1 := Lib.hid ((Many.nil _).addDisk h1 v1)
  have q0 := hcell_of ((M1.out.chg.block _ (hlt_of HZ.out) (fun h => h)).trans HZ.out) 0
  simp only [List.getElem?_toArray, List.getElem?_cons_zero] at q0
  clear h1 v1
  go_wp2_with (first | (go_at_call 16; refine (num_any _ _).mono ?_; rintro e w' ⟨rfl, rfl⟩) | (go_at_call 62; refine stop ?_))
  refine go ?_
  refine (HM.out _).mono ?_
  rintro e w2 ⟨he, h1, v1⟩
  have M2 := Lib.hid (M1.out.addRdisk h1 v1)
  generalize w1.heap.size = r at he M2
  subst he
  clear h1 v1
  go_wp2_with (first | (go_at_call 16; refine (num_any _ _).mono ?_; rintro e w' ⟨rfl, rfl⟩))
  go_ret3
  exact .inr ⟨_, n, _, d, r, _, _, HCW.out, rfl, Nat.zero_le _, M2.out.swap12⟩

/-- a call of Load that is refused with x -/
def LoadErr (f : Nat) (lim : Int) (l : List LI) (x : Nat) : Prop := ∀ U v l2, IFiles U v l2 → l2.map LI.fi = l.map LI.fi →
  Calls Try.prog f #[.int .i64 lim, v] U fun e w' => e = .returned (.tuple #[.pointer none, .int .i64 (x : Int)]) ∧ Chg (fun _ => False) U w'

set_option maxHeartbeats 4000000 in
theorem made_load_err (lim : Int) {x : Nat} (hL : LoadErr 39 lim l x) (hR : LoadErr 61 lim l x) {p : Option Addr} {c : Nat} (h0 : 0 < l.length) (h : IFiles w (.slice p l.length c) l) :
    Calls Try.prog 55 #[.agg #[.int .i64 lim, .slice p l.length c, ov]] w fun e w' => Made w w' lim e := by
  have HCW := Lib.hid ((Chg.refl (fun _ => False) w).alloc (.cells #[.int .i64 lim, .slice p l.length c, ov] 50))
  have HZ := Lib.hid (halloc_at w (.cells #[.int .i64 lim, .slice p l.length c, ov] 50))
  have HOWN := Lib.hid fun U (hU : Chg (fun _ => False) (w.alloc (.cells #[.int .i64 lim, .slice p l.length c, ov] 50)) U) => own_any (w := U) ((h.chg HCW.out).chg hU)
  have q0 := hcell_of HZ.out 0
  have h1 : (0 : Int) < (l.length : Int) := by omega
  simp only [List.getElem?_toArray, List.getElem?_cons_zero] at q0
  have HL := Lib.hid hL
  have HRR := Lib.hid fun U (hU : Chg (fun _ => False) (w.alloc (.cells #[.int .i64 lim, .slice p l.length c, ov] 50)) U) => hR U _ l ((h.chg HCW.out).chg hU) rfl
  clear hL hR h h0
  go_enter Try.func55, Try.ntmps55
  go_wp2
  refine Rx.wp_region_sched (fun w' => w'.cell? ⟨w.heap.size, 0, none⟩ = some (.int .i64 lim)) [(2, .r), (3, .r), (0, .h), (1, .h), (4, .e), (5, .e), (6, .r), (7, .r), (8, .r), (9, .r), (10, .r)] (by kernel_rfl) (by kernel_rfl) (q0) (fun _ _ x _ _ h => (by cases x <;> exact h)) ?_
  iterate 2 (refine Rx.wpSched_q rfl rfl ?_; go_wp2; refine ⟨rfl, ?_⟩)
  iterate 2 (refine Rx.wpSched_h (v := ?_) rfl rfl ?_ ?_; rotate_left; (intro w' hS'; go_simp; try with_reducible rfl))
  refine Rx.wpSched_e rfl ?_
  go_wp2_with (first | (go_at_call 40; refine stop ?_))
  refine go ?_
  refine (HOWN.out _ (by first | exact (Chg.refl (fun _ => False) _).drew | exact Chg.refl _ _)).mono ?_
  rintro e w2 ⟨v2, l2, rfl, i2, m2, c2⟩
  obtain ⟨p2, n2, cc2, rfl⟩ := i2.slice
  have c2 : Chg (fun _ => False) (w.alloc (.cells #[.int .i64 lim, .slice p l.length c, ov] 50)) w2 := (by first | exact ((Chg.refl (fun _ => False) _).drew).trans c2 (fun k hk => hk.elim) | exact c2)
  have C2 := Lib.hid c2
  have Z2 := Lib.hid ((c2.block _ (hlt_of HZ.out) (fun h => h)).trans HZ.out)
  have K0 := Lib.hid ((hcell_of Z2.out 0).trans rfl)
  have I2 := Lib.hid i2
  have M2 := Lib.hid m2
  clear c2 i2 m2
  go_wp2
  refine ⟨(by exact K0.out), ?_⟩
  refine Rx.wpSched_e rfl ?_
  go_wp2_with (first | (go_at_call 39; refine stop ?_))
  refine go ?_
  refine (HL.out _ _ _ (I2.out.chg (by first | exact (Chg.refl (fun _ => False) _).drew | exact Chg.refl _ _)) M2.out).mono ?_
  rintro e w3 ⟨rfl, c3⟩
  have c3 : Chg (fun _ => False) w2 w3 := (by first | exact ((Chg.refl (fun _ => False) _).drew).trans c3 (fun k hk => hk.elim) | exact c3)
  have Z3 := Lib.hid ((c3.block _ (hlt_of Z2.out) (fun h => h)).trans Z2.out)
  have C3 := Lib.hid (C2.out.trans c3 fun _ h => h.elim)
  clear c3
  have K3 := Lib.hid ((hcell_of Z3.out 0).trans rfl)
  go_wp2
  refine ⟨(by exact K3.out), ?_⟩
  iterate 5 (refine Rx.wpSched_q rfl rfl ?_; go_wp2; refine ⟨rfl, ?_⟩)
  refine Rx.wpSched_nil ?_
  have k30 := (hcell_of Z3.out 0).trans rfl
  have k31 := (hcell_of Z3.out 1).trans rfl
  simp only [List.getElem?_toArray, List.getElem?_cons_zero, List.getElem?_cons_succ] at k30 k31
  clear q0
  go_wp2_with (first | (go_at_call 61; refine stop ?_))
  refine go ?_
  refine (HRR.out _ C3.out).mono ?_
  rintro e w4 ⟨rfl, c4⟩
  have C4 := Lib.hid (HCW.out.trans (C3.out.trans c4 fun _ h => h.elim) fun _ h => h.elim)
  clear c4
  go_wp2_with (first | (go_at_call 16; refine (num_any _ _).mono ?_; rintro e w' ⟨rfl, rfl⟩))
  go_ret3
  exact .inl ⟨rfl, C4.out⟩

/-- a call of Load that makes a disk of D -/
def LoadFine (D : Dk) (lim : Int) (l : List LI) : Prop := ∀ U v l2, IFiles U v l2 → l2.map LI.fi = l.map LI.fi →
  Calls Try.prog 39 #[.int .i64 lim, v] U fun e w' => ∃ d F, e = .returned (.tuple #[.pointer (some ⟨d, 0, none⟩), .int .i64 0]) ∧ DRep w' d D F ∧ Ev [] F U w'
def RLoadFine (D : Dk) (lim : Int) (l : List LI) : Prop := ∀ U v l2, IFiles U v l2 → l2.map LI.fi = l.map LI.fi →
  Calls Try.prog 61 #[.int .i64 lim, v] U fun e w' => ∃ d F, e = .returned (.tuple #[.pointer (some ⟨d, 0, none⟩), .int .i64 0]) ∧ RRep w' d D F ∧ Ev [] F U w'

set_option maxHeartbeats 4000000 in
theorem made_load_fine (n : Nat) {D : Dk} (hL : LoadFine D n l) (hR : RLoadFine D n l) (hD : D.files.length ≤ 1048576) {p : Option Addr} {c : Nat} (h0 : 0 < l.length) (h : IFiles w (.slice p l.length c) l) :
    Calls Try.prog 55 #[.agg #[.int .i64 (n : Int), .slice p l.length c, ov]] w fun e w' => Made w w' (n : Int) e := by
  have HCW := Lib.hid ((Chg.refl (fun _ => False) w).alloc (.cells #[.int .i64 (n : Int), .slice p l.length c, ov] 50))
  have HZ := Lib.hid (halloc_at w (.cells #[.int .i64 (n : Int), .slice p l.length c, ov] 50))
  have HOWN := Lib.hid fun U (hU : Chg (fun _ => False) (w.alloc (.cells #[.int .i64 (n : Int), .slice p l.length c, ov] 50)) U) => own_any (w := U) ((h.chg HCW.out).chg hU)
  have q0 := hcell_of HZ.out 0
  have h1 : (0 : Int) < (l.length : Int) := by omega
  simp only [List.getElem?_toArray, List.getElem?_cons_zero] at q0
  have HL := Lib.hid hL
  have HRR := Lib.hid fun U (hU : Chg (fun _ => False) (w.alloc (.cells #[.int .i64 (n : Int), .slice p l.length c, ov] 50)) U) => hR U _ l ((h.chg HCW.out).chg hU) rfl
  clear hL hR h h0
  go_enter Try.func55, Try.ntmps55
  go_wp2
  refine Rx.wp_region_sched (fun w' => w'.cell? ⟨w.heap.size, 0, none⟩ = some (.int .i64 (n : Int))) [(2, .r), (3, .r), (0, .h), (1, .h), (4, .e), (5, .e), (6, .r), (7, .r), (8, .r), (9, .r), (10, .r)] (by kernel_rfl) (by kernel_rfl) (q0) (fun _ _ x _ _ h => (by cases x <;> exact h)) ?_
  iterate 2 (refine Rx.wpSched_q rfl rfl ?_; go_wp2; refine ⟨rfl, ?_⟩)
  iterate 2 (refine Rx.wpSched_h (v := ?_) rfl rfl ?_ ?_; rotate_left; (intro w' hS'; go_simp; try with_reducible rfl))
  refine Rx.wpSched_e rfl ?_
  go_wp2_with (first | (go_at_call 40; refine stop ?_))
  refine go ?_
  refine (HOWN.out _ (by first | exact (Chg.refl (fun _ => False) _).drew | exact Chg.refl _ _)).mono ?_
  rintro e w2 ⟨v2, l2, rfl, i2, m2, c2⟩
  obtain ⟨p2, n2, cc2, rfl⟩ := i2.slice
  have c2 : Chg (fun _ => False) (w.alloc (.cells #[.int .i64 (n : Int), .slice p l.length c, ov] 50)) w2 := (by first | exact ((Chg.refl (fun _ => False) _).drew).trans c2 (fun k hk => hk.elim) | exact c2)
  have C2 := Lib.hid c2
  have Z2 := Lib.hid ((c2.block _ (hlt_of HZ.out) (fun h => h)).trans HZ.out)
  have K0 := Lib.hid ((hcell_of Z2.out 0).trans rfl)
  have I2 := Lib.hid i2
  have M2 := Lib.hid m2
  clear c2 i2 m2
  go_wp2
  refine ⟨(by exact K0.out), ?_⟩
  refine Rx.wpSched_e rfl ?_
  go_wp2_with (first | (go_at_call 39; refine stop ?_))
  refine go ?_
  refine (HL.out _ _ _ (I2.out.chg (by first | exact (Chg.refl (fun _ => False) _).drew | exact Chg.refl _ _)) M2.out).mono ?_
  rintro e w3 ⟨d, F, rfl, r3, v3⟩
  have c3 : Chg (fun _ => False) w2 w3 := (by have c := v3.chg.mono (G := fun _ => False) (fun k hk => .inl (by cases hk)); first | exact ((Chg.refl (fun _ => False) _).drew).trans c (fun k hk => hk.elim) | exact c)
  have M3 := Lib.hid ((Many.nil _).addDisk r3 v3)
  have Z3 := Lib.hid ((c3.block _ (hlt_of Z2.out) (fun h => h)).trans Z2.out)
  have C3 := Lib.hid (C2.out.trans c3 fun _ h => h.elim)
  clear c3 r3 v3
  have K3 := Lib.hid ((hcell_of Z3.out 0).trans rfl)
  go_wp2
  refine ⟨(by exact K3.out), ?_⟩
  iterate 5 (refine Rx.wpSched_q rfl rfl ?_; go_wp2; refine ⟨rfl, ?_⟩)
  refine Rx.wpSched_nil ?_
  have k30 := (hcell_of Z3.out 0).trans rfl
  have k31 := (hcell_of Z3.out 1).trans rfl
  simp only [List.getElem?_toArray, List.getElem?_cons_zero, List.getElem?_cons_succ] at k30 k31
  clear q0
  go_wp2_with (first | (go_at_call 61; refine stop ?_))
  refine go ?_
  refine (HRR.out _ C3.out).mono ?_
  rintro e w4 ⟨r, G, rfl, r4, v4⟩
  have M4 := Lib.hid (M3.out.addRdisk r4 v4)
  clear r4 v4
  go_wp2_with (first | (go_at_call 16; refine (num_any _ _).mono ?_; rintro e w' ⟨rfl, rfl⟩))
  go_ret3
  exact .inr ⟨_, n, D, d, r, F, G, (by first | exact HCW.out.trans (C2.out.drew) fun _ h => h.elim | exact HCW.out.trans C2.out fun _ h => h.elim), rfl, hD, M4.out.swap12⟩

theorem made_load_ok (n : Nat) (hn : n ≤ 1099511627776) {p : Option Addr} {c : Nat} (h0 : 0 < l.length) (h : IFiles w (.slice p l.length c) l) :
    Calls Try.prog 55 #[.agg #[.int .i64 (n : Int), .slice p l.length c, ov]] w fun e w' => Made w w' (n : Int) e := by
  have fix : ∀ {U : World} {v : Value} {l2 : List LI}, IFiles U v l2 → ∃ p c, v = .slice p l2.length c := fun h => by obtain ⟨p, c, e, -⟩ := h.row; exact ⟨p, c, e⟩
  by_cases he : (ldAll n (l.map LI.fi)).1 = 0
  · have hlen : (ldAll n (l.map LI.fi)).2.length ≤ 1048576 := by
      have hl := h.len
      unfold ldAll at he ⊢
      by_cases h1 : (n : Int) < 0 ∨ (1099511627776 : Int) < (n : Int)
      · rw [if_pos h1] at he; cases he
      · rw [if_neg h1] at he ⊢
        by_cases h2 : (ldGo [] (l.map LI.fi)).1 ≠ 0
        · rw [if_pos h2] at he; exact absurd he h2
        · rw [if_neg h2] at he ⊢
          split at he
          · cases he
          · rw [if_neg (by assumption)]
            have := ldGo_fl (a := l.map LI.fi) (acc := []) (fs := (ldGo [] (l.map LI.fi)).2) (Prod.ext (by simpa using h2) rfl)
            rw [this]
            simpa using hl
    refine made_load_fine n (D := ⟨n, sortL (ldAll n (l.map LI.fi)).2, false, 0, 0⟩) (fun U v l2 hi hm => ?_) (fun U v l2 hi hm => ?_) (by show (sortL _).length ≤ _; rw [sortL_len]; exact hlen) h0 h
    · obtain ⟨p, c, rfl⟩ := fix hi
      refine (load_any hn hi).mono ?_
      rw [hm]
      rintro e w' (⟨h1, -⟩ | ⟨-, h1⟩)
      · exact absurd he h1
      · exact h1
    · obtain ⟨p, c, rfl⟩ := fix hi
      refine (rload_any hn hi).mono ?_
      rw [hm]
      rintro e w' (⟨h1, -⟩ | ⟨-, h1⟩)
      · exact absurd he h1
      · exact h1
  · refine made_load_err (x := (ldAll n (l.map LI.fi)).1) n (fun U v l2 hi hm => ?_) (fun U v l2 hi hm => ?_) h0 h
    · obtain ⟨p, c, rfl⟩ := fix hi
      refine (load_any hn hi).mono ?_
      rw [hm]
      rintro e w' (⟨-, h1⟩ | ⟨h1, -⟩)
      · exact h1
      · exact absurd h1 he
    · obtain ⟨p, c, rfl⟩ := fix hi
      refine (rload_any hn hi).mono ?_
      rw [hm]
      rintro e w' (⟨-, h1⟩ | ⟨h1, -⟩)
      · exact h1
      · exact absurd h1 he
theorem made_load_bad (lim : Int) (hl : lim < 0 ∨ 1099511627776 < lim) {p : Option Addr} {c : Nat} (h0 : 0 < l.length) (h : IFiles w (.slice p l.length c) l) :
    Calls Try.prog 55 #[.agg #[.int .i64 lim, .slice p l.length c, ov]] w fun e w' => Made w w' lim e :=
  made_load_err (x := 12) lim (fun U v l2 _ _ => (load_bad lim hl).mono fun e w' ⟨h1, h2⟩ => ⟨h1, h2 ▸ Chg.refl _ _⟩) (fun U v l2 _ _ => (rload_bad lim hl).mono fun e w' ⟨h1, h2⟩ => ⟨h1, h2 ▸ Chg.refl _ _⟩) h0 h
end
end Go.Proofs
namespace Go.Proofs
open Go.RowKit Go.Hp Go.Dm Go.Dr
set_option linter.unusedVariables false
set_option maxRecDepth 10000

theorem alike_should {D E : Dk} (h : Alike D E) (o : OpP) : (Dk.does D o).1 = (Dk.should E o).1 ∧ Alike (Dk.does D o).2 (Dk.should E o).2 := by
  unfold Dk.should
  by_cases h8 : o.kind = 8
  · rw [if_pos h8]
    exact h.should o _ rfl h8
  · rw [if_neg h8]
    exact h.does o
theorem Many.sub {W w : World} {L L' : List Ent} (h : Many W w L) (hs : L'.Sublist L) : Many W w L' :=
  ⟨fun x hx => h.holds x (hs.subset hx), fun x hx => h.good x (hs.subset hx), fun x hx => h.new x (hs.subset hx), h.apart.sublist hs, h.chg⟩
theorem Many.last {W w : World} {L : List Ent} {x : Ent} (h : Many W w (L ++ [x])) : Many W w (x :: L) := h.perm (List.perm_append_comm (l₁ := L) (l₂ := [x]))
theorem Many.box {W w : World} {L : List Ent} (h : Many W w L) (o : Obj) : Many W (w.alloc o) (Ent.box w.heap.size o :: L) :=
  h.add (y := Ent.box w.heap.size o) ((Chg.refl _ w).alloc o) (halloc_at w o) (good_box _ _) fun k hk => by
    obtain rfl : k = w.heap.size := by simpa [Ent.box] using hk
    exact Nat.le_refl _

section
variable {w : World} {fv ov : Value} {l : List LI} {ops : List (OpP × Value)}

theorem made_any (lim : Int) (hb1 : -9223372036854775808 ≤ lim) (hb2 : lim ≤ 9223372036854775807) (h : IFiles w fv l) :
    Calls Try.prog 55 #[.agg #[.int .i64 lim, fv, ov]] w fun e w' => Made w w' lim e := by
  obtain ⟨p, c, rfl, -⟩ := id h.row
  by_cases hl : lim < 0 ∨ 1099511627776 < lim
  · by_cases h0 : 0 < l.length
    · exact made_load_bad lim hl h0 h
    · have e0 : l.length = 0 := by omega
      rw [e0]
      exact made_new_bad lim hl p c
  · obtain ⟨n, rfl⟩ := Int.eq_ofNat_of_zero_le (by omega : 0 ≤ lim)
    by_cases h0 : 0 < l.length
    · exact made_load_ok n (by omega) h0 h
    · have e0 : l.length = 0 := by omega
      rw [e0]
      exact made_new_ok n (by omega) p c

/-- ahead of a round -/
structure PRel (W wr : World) (d r k len : Nat) : Prop where
  le : k ≤ len
  ex : ∃ D E F G, Many W wr [Ent.disk d D F, Ent.rdisk r E G] ∧ Alike D E ∧ D.files.length ≤ 1048576 + k

set_option maxHeartbeats 8000000 in
theorem played_any (lim lo hi : Int) (hb1 : -9223372036854775808 ≤ lim) (hb2 : lim ≤ 9223372036854775807) (h : IFiles w fv l) (ho : OpsAt w ov ops) :
    Calls Try.prog 38 #[.agg #[.int .i64 lim, fv, ov], .int .i64 lo, .int .i64 hi] w fun e w' => e = .returned (.bool true) ∧ Chg (fun _ => False) w w' := by
  obtain ⟨pf, cf, rfl, -⟩ := id h.row
  obtain ⟨p, cap, rfl, hnc, -, -⟩ := id ho.row
  have HWC := Lib.hid ((Chg.refl (fun _ => False) w).alloc (.cells #[.int .i64 lim, .slice pf l.length cf, .slice p ops.length cap] 50))
  have HZ := Lib.hid (halloc_at w (.cells #[.int .i64 lim, .slice pf l.length cf, .slice p ops.length cap] 50))
  have HMADE := Lib.hid (made_any (w := w.alloc (.cells #[.int .i64 lim, .slice pf l.length cf, .slice p ops.length cap] 50)) (ov := .slice p ops.length cap) lim hb1 hb2 (h.chg HWC.out))
  have HO := Lib.hid ho
  have HLEN := Lib.hid ho.len
  have HNC := Lib.hid hnc
  clear h ho hb1 hb2 hnc
  go_enter Try.func38, Try.ntmps38
  go_wp2_with (first | (go_at_call 55; refine stop ?_))
  refine go ?_
  refine HMADE.out.mono ?_
  rintro e w1 (⟨rfl, c1⟩ | ⟨W, n, D0, d, r, F0, G0, cW, rfl, hfl, m1⟩)
  · have C1 := Lib.hid (HWC.out.trans c1 fun _ h => h.elim)
    clear c1
    go_wp2
    go_ret
    exact ⟨rfl, C1.out⟩
  have CW := Lib.hid (HWC.out.trans cW fun _ h => h.elim)
  have HBX := Lib.hid ((cW.block _ (hlt_of HZ.out) (fun h => h)).trans HZ.out)
  have M1 := Lib.hid m1
  have HFL := Lib.hid hfl
  clear cW m1 hfl
  go_wp2
  go_loopw [10] (fun i wr => ∃ k : Nat, i = .int .i64 (k : Int) ∧ PRel W wr d r k ops.length) (fun i _ => ops.length - (Lib.intOf i).toNat)
  case atStart => exact ⟨0, rfl, Nat.zero_le _, _, _, _, _, M1.out, ⟨rfl, rfl, rfl, rfl, fun _ => rfl⟩, HFL.out⟩
  case round =>
    obtain ⟨k, rfl, hle, D, E, F, G, hM, hA, hD⟩ := hrel
    have q2 := hcell_of ((hM.chg.block _ (hlt_of HBX.out) (fun h => h)).trans HBX.out) 2
    simp only [List.getElem?_toArray, List.getElem?_cons_zero, List.getElem?_cons_succ] at q2
    have HM := Lib.hid hM
    have HA := Lib.hid hA
    have HD := Lib.hid hD
    clear hM hA hD
    by_cases hk : (k : Int) < ops.length
    · obtain ⟨b, off, y, py, cy, rfl, -, hy, hyv, -, hyok, -, p0, p1, p2, p3, p4⟩ := (HO.out.chg (CW.out.trans HM.out.chg (fun k hk => hk.elim))).op (k := k) (by omega)
      have hyb0 := (HO.out.each y (List.mem_of_getElem? hy)).2
      have hnc : (ops.length : Int) ≤ cap := by have := HNC.out; omega
      have hk0 : (0 : Int) ≤ (k : Int) := by omega
      have hkl : (k : Int) + 1 ≤ 1099511627776 := by have := HLEN.out; omega
      rw [hyv] at p2 hyb0
      have m2 := HM.out.box (.cells #[.int .i64 y.1.kind, .string y.1.name, .slice py y.1.b.length cy, .int .i64 y.1.n, .int .i64 y.1.m] 56)
      have hdo := does_any hyok (by have := HD.out; have := HLEN.out; omega) (m2.swap12.first) (RC.chg hyb0 (CW.out.trans m2.chg (fun k hk => hk.elim)) fun _ _ h => h)
      have hpost := alike_should HA.out y.1
      have hyl : ∀ k, sblk (.slice py y.1.b.length cy) = some k → k < w.heap.size := fun k hk => hyb0.lt hk
      simp only [OpP.val, opV] at hdo
      have HDO := Lib.hid hdo
      have HPOST := Lib.hid hpost
      have HYB := Lib.hid hyb0
      have HYL := Lib.hid hyl
      have HYOK := Lib.hid hyok
      have M2 := Lib.hid m2
      clear hdo hpost hyb0 hyl hyok hyv hy m2
      go_wp2_with (first | (go_at_call 29; refine stop ?_))
      refine go ?_
      refine HDO.out.mono ?_
      rintro e w2 ⟨v, rfl, hdid⟩
      obtain ⟨F', ⟨a, bv, fv2, l2⟩, hxa, rfl, m3⟩ := M2.out.swap12.did hdid
      have hat : AV.At w2 ⟨a, bv, fv2, l2⟩ := m3.swap12.first
      obtain ⟨hatb, hatf, -⟩ := hat
      simp only at hatb hatf hxa
      obtain ⟨pb, cb, rfl, -⟩ := id hatb
      obtain ⟨pl, cl, rfl, -⟩ := id hatf.sl
      unfold AV.val ansV
      simp only
      have m4 := m3.box (.cells #[.int .i64 (a.e : Int), .int .i64 (a.n : Int), .int .i64 (a.m : Int), .slice pb a.b.length cb, .slice pl l2.length cl, .bool a.down] 58)
      have hop : (w2.alloc (.cells #[.int .i64 (a.e : Int), .int .i64 (a.n : Int), .int .i64 (a.m : Int), .slice pb a.b.length cb, .slice pl l2.length cl, .bool a.down] 58)).heap[wr.heap.size]? = some (.cells #[.int .i64 y.1.kind, .string y.1.name, .slice py y.1.b.length cy, .int .i64 y.1.n, .int .i64 y.1.m] 56 (0, 0)) := m4.get (x := Ent.box wr.heap.size _) (by simp)
      have hrd : RRep (w2.alloc (.cells #[.int .i64 (a.e : Int), .int .i64 (a.n : Int), .int .i64 (a.m : Int), .slice pb a.b.length cb, .slice pl l2.length cl, .bool a.down] 58)) r E G := m4.get (x := Ent.rdisk r E G) (by simp)
      have hsh := should_any (bv := .slice py y.1.b.length cy) HYOK.out (by rw [← HA.out.files]; have := HD.out; have := HLEN.out; omega) hrd (RC.chg HYB.out (CW.out.trans m4.chg (fun k hk => hk.elim)) fun _ _ h => h) (fun k hk hG => by have h1 := HYL.out k hk; have h2 := m4.new (Ent.rdisk r E G) (by simp) k hG; have h3 := CW.out.size; omega)
      simp only [OpP.val, opV] at hsh
      have s0 := hcell_of hop 0
      have s1 := hcell_of hop 1
      have s2 := hcell_of hop 2
      have s3 := hcell_of hop 3
      have s4 := hcell_of hop 4
      simp only [List.getElem?_toArray, List.getElem?_cons_zero, List.getElem?_cons_succ] at s0 s1 s2 s3 s4
      have HSH := Lib.hid hsh
      have HXA := Lib.hid hxa
      have M4 := Lib.hid m4
      clear hdid hatb hatf m3 m4 hop hrd hsh hxa p0 p1 p2 p3 p4 q2
      go_wp2_with (first | (go_at_call 56; refine stop ?_))
      refine go ?_
      refine HSH.out.mono ?_
      rintro e w3 ⟨v, rfl, hdid⟩
      obtain ⟨G', ⟨a', bv', fv', l'⟩, hxa', rfl, m5⟩ := (Many.last (L := [_, _, _, _]) M4.out).rdid hdid
      have hat' : AV.At w3 ⟨a', bv', fv', l'⟩ := m5.get (x := Ent.ans ⟨a', bv', fv', l'⟩) (by simp)
      obtain ⟨hatb', hatf', -⟩ := id hat'
      simp only at hatb' hatf' hxa'
      obtain ⟨pb', cb', rfl, -⟩ := id hatb'
      obtain ⟨pl', cl', rfl, -⟩ := id hatf'.sl
      unfold AV.val ansV
      simp only
      have m6 := m5.box (.cells #[.int .i64 (a'.e : Int), .int .i64 (a'.n : Int), .int .i64 (a'.m : Int), .slice pb' a'.b.length cb', .slice pl' l'.length cl', .bool a'.down] 58)
      have haa : a' = a := by rw [hxa', HXA.out]; exact HPOST.out.1.symm
      subst haa
      have hx1 := AV.At.ans (m6.get (x := Ent.ans ⟨a', .slice pb a'.b.length cb, .slice pl l2.length cl, l2⟩) (by simp))
      have hx2 := AV.At.ans (m6.get (x := Ent.ans ⟨a', .slice pb' a'.b.length cb', .slice pl' l'.length cl', l'⟩) (by simp))
      simp only [AV.val, ansV] at hx1 hx2
      have hal := fun U (hU : Chg (fun _ => False) (w3.alloc (.cells #[.int .i64 (a'.e : Int), .int .i64 (a'.n : Int), .int .i64 (a'.m : Int), .slice pb' a'.b.length cb', .slice pl' l'.length cl', .bool a'.down] 58)) U) =>
        alike_true (w := U) (by rw [HXA.out]; exact Nat.le_trans (does_ans_files D y.1) (by have := HD.out; have := HLEN.out; omega)) (hx1.chg hU fun _ _ h => h) (hx2.chg hU fun _ _ h => h)
      have HAL := Lib.hid hal
      have hz1 : (w3.alloc (.cells #[.int .i64 (a'.e : Int), .int .i64 (a'.n : Int), .int .i64 (a'.m : Int), .slice pb' a'.b.length cb', .slice pl' l'.length cl', .bool a'.down] 58)).heap[w2.heap.size]? = some (.cells #[.int .i64 (a'.e : Int), .int .i64 (a'.n : Int), .int .i64 (a'.m : Int), .slice pb a'.b.length cb, .slice pl l2.length cl, .bool a'.down] 58 (0, 0)) := m6.get (x := Ent.box w2.heap.size _) (by simp)
      have z0 := hcell_of hz1 0
      have z1 := hcell_of hz1 1
      have z2 := hcell_of hz1 2
      have z3 := hcell_of hz1 3
      have z4 := hcell_of hz1 4
      have z5 := hcell_of hz1 5
      simp only [List.getElem?_toArray, List.getElem?_cons_zero, List.getElem?_cons_succ] at z0 z1 z2 z3 z4 z5
      have M6 := Lib.hid m6
      clear hdid hat' hatb' hatf' hxa' m5 m6 hx1 hx2 hal hz1 s0 s1 s2 s3 s4
      go_wp2_with (first | (go_at_call 36; refine stop ?_))
      refine go ?_
      refine (HAL.out _ (Chg.refl _ _)).mono ?_
      rintro e w6 ⟨rfl, hc6⟩
      have m7 := M6.out.quiet hc6
      have M7 := Lib.hid (m7.sub (L' := [Ent.rdisk r (Dk.should E y.1).2 G', Ent.disk d (Dk.does D y.1).2 F']) (.cons _ (.cons_cons _ (.cons _ (.cons _ (.cons_cons _ (.cons _ (.cons _ .slnil)))))))).swap12
      clear hc6 m7
      go_wp2
      go_roundw
      case rel => exact ⟨k + 1, by go_num, by omega, _, _, F', G', M7.out, HPOST.out.2, by have h1 := (does_files_le D y.1).1; have h2 := HD.out; omega⟩
      case measure => simp [Lib.intOf]; omega
    · go_wp2
      go_ret
      exact ⟨rfl, CW.out.trans HM.out.chg fun _ h => h.elim⟩
end
end Go.Proofs
