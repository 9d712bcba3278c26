/- same, sameFiles, alike: they answer true where both say the same. Conditions: what is handed in is read; at most 2^40 files. -/
import Derived.Test.YthnemjnepnbjpaaLa
namespace Go.Proofs
open Go.RowKit Go.Hp Go.Dm Go.Dr
set_option linter.unusedVariables false
set_option maxRecDepth 10000
section
variable {w : World}

theorem same_true {v v' : Value} {l : List UInt8} (h : RB w v l) (h' : RB w v' l) : Calls Try.prog 53 #[v, v'] w fun e w' => e = .returned (.bool true) ∧ w = w' := by
  obtain ⟨p, c, rfl, -⟩ := id h
  obtain ⟨p', c', rfl, -⟩ := id h'
  have e1 : (convert 22 9 (.slice p l.length c)).run Try.prog w = .ok (.string ⟨l.toArray⟩) w := run_toString (P := Try.prog) w 22 9 5 Try.underlying22 Try.underlying5 Try.underlying9 h
  have e2 : (convert 22 9 (.slice p' l.length c')).run Try.prog w = .ok (.string ⟨l.toArray⟩) w := run_toString (P := Try.prog) w 22 9 5 Try.underlying22 Try.underlying5 Try.underlying9 h'
  clear h h'
  go_enter Try.func53, Try.ntmps53
  go_wp2
  go_ret
  exact ⟨by simp, rfl⟩

/-- the same files, wherever they lie -/
def SameFls (l l' : List LF) : Prop := l.map LF.fl = l'.map LF.fl

theorem SameFls.len {l l' : List LF} (h : SameFls l l') : l.length = l'.length := by
  have := congrArg List.length h
  simpa using this
theorem SameFls.at_ {l l' : List LF} (h : SameFls l l') {k : Nat} {x y : LF} (hx : l[k]? = some x) (hy : l'[k]? = some y) : x.name = y.name ∧ x.bytes = y.bytes ∧ x.sure = y.sure := by
  have h1 : (l.map LF.fl)[k]? = some x.fl := by rw [List.getElem?_map, hx]; rfl
  have h2 : (l'.map LF.fl)[k]? = some y.fl := by rw [List.getElem?_map, hy]; rfl
  have h0 : l.map LF.fl = l'.map LF.fl := h
  rw [h0, h2] at h1
  have := Option.some.inj h1
  unfold LF.fl at this
  simp only [Fl.mk.injEq] at this
  exact ⟨this.1.symm, this.2.1.symm, this.2.2.symm⟩

theorem FilesAt.drewN {v : Value} {l : List LF} (h : FilesAt w v l) (n : Nat) : FilesAt (w.drewN n) v l := h.chg (G := fun _ => False) ((Chg.refl _ w).drewN n) fun _ _ h => h

set_option maxHeartbeats 4000000 in
theorem sameFiles_true {v v' : Value} {l l' : List LF} (hN : l.length ≤ 1099511627776) (h : FilesAt w v l) (h' : FilesAt w v' l') (hs : SameFls l l') :
    Calls Try.prog 37 #[v, v'] w fun e w' => e = .returned (.bool true) ∧ ∃ n, w' = w.drewN n := by
  have hle := hs.len
  obtain ⟨p, c, rfl, hc1, hc2, -⟩ := id h.sl
  obtain ⟨p', c', rfl, hc1', hc2', -⟩ := id h'.sl
  rw [← hle] at hc1' ⊢
  have h' : FilesAt w (.slice p' l.length c') l' := by rw [hle]; exact h'
  have H := Lib.hid h
  have H' := Lib.hid h'
  have HS := Lib.hid hs
  have HLE := Lib.hid hle
  have hNi : (l.length : Int) ≤ 1099511627776 := by omega
  clear h h' hs hle hN hc2 hc2'
  go_enter Try.func37, Try.ntmps37
  go_wp2
  go_loopw [5] (fun i wr => ∃ k : Nat, i = .int .i64 (k : Int) ∧ k ≤ l.length ∧ ∃ n, wr = w.drewN n) (fun i _ => l.length - (Lib.intOf i).toNat)
  case atStart => exact ⟨0, rfl, Nat.zero_le _, 0, rfl⟩
  case round =>
    obtain ⟨k, rfl, hk, nd, rfl⟩ := hrel
    by_cases hlt : (k : Int) < l.length
    · obtain ⟨b, x, rfl, hx, hob, hcap, p0, p1, p2⟩ := H.out.file (k := k) (by omega)
      obtain ⟨b', y, rfl, hy, hob', hcap', p0', p1', p2'⟩ := H'.out.file (k := k) (by have := HLE.out; omega)
      obtain ⟨e1, e2, e3⟩ := HS.out.at_ hx hy
      rw [← e1] at p0'
      rw [← e3] at p2'
      rw [← e2] at hob'
      have hsame := fun w' (hc : ∃ n, w' = w.drewN n) => same_true (w := w') (v := x.sv) (v' := y.sv) (l := x.bytes) (by obtain ⟨n, rfl⟩ := hc; exact OB.rb (OC.keep hob fun _ _ => rfl)) (by obtain ⟨n, rfl⟩ := hc; exact OB.rb (OC.keep hob' fun _ _ => rfl))
      have HSAME := Lib.hid hsame
      have hk0 : (0 : Int) ≤ (k : Int) := by omega
      have hc1 : (l.length : Int) ≤ c := by omega
      have hc1' : (l.length : Int) ≤ c' := by omega
      obtain ⟨ap, ac, hsv⟩ : ∃ ap ac, x.sv = .slice ap x.bytes.length ac := ⟨_, _, rfl⟩
      obtain ⟨ap', ac', hsv'⟩ : ∃ ap ac, y.sv = .slice ap y.bytes.length ac := ⟨_, _, rfl⟩
      clear hx hy hob hob' e1 e2 e3 hsame hcap hcap'
      rw [hsv] at p1
      rw [hsv'] at p1'
      go_wp2
      refine Rx.wp_region_sched (fun _ => True) [(0, .r), (1, .r), (2, .r), (3, .r), (4, .r), (5, .r), (6, .r), (7, .r), (8, .r), (9, .r), (10, .r), (11, .r), (12, .r), (13, .r), (14, .r), (15, .r), (16, .r), (17, .r), (18, .r), (19, .r), (20, .r), (21, .r), (22, .r), (23, .r), (24, .r), (25, .r), (26, .r), (27, .r), (28, .r), (29, .r), (30, .r), (31, .r), (32, .r), (33, .r), (34, .r), (35, .e), (36, .r), (37, .r)] (by kernel_rfl) (by kernel_rfl) trivial (fun _ _ x _ _ h => (by cases x <;> exact h)) ?_
      iterate 35 (refine Rx.wpSched_q rfl rfl ?_; go_wp2; refine ⟨rfl, ?_⟩)
      refine Rx.wpSched_e rfl ?_
      go_wp2_with (first | (go_at_call 53; refine stop ?_))
      refine go ?_
      rw [← hsv, ← hsv']
      refine (HSAME.out _ (by first | exact ⟨_, rfl⟩ | exact ⟨nd + 1, rfl⟩)).mono ?_
      rintro e w' ⟨rfl, rfl⟩
      go_wp2
      refine ⟨trivial, ?_⟩
      iterate 2 (refine Rx.wpSched_q rfl rfl ?_; go_wp2; refine ⟨rfl, ?_⟩)
      refine Rx.wpSched_nil ?_
      go_wp2
      go_roundw
      case rel => exact ⟨k + 1, by go_num, by omega, nd + 1, rfl⟩
      case measure => simp [Lib.intOf]; omega
    · go_wp2
      go_ret
      exact ⟨rfl, nd, rfl⟩

theorem drew_out {F : Nat → Prop} {a b : World} (n : Nat) (h : Chg F a b) : Chg F a (b.drewN n) := h.drewN n

set_option maxHeartbeats 4000000 in
/-- two answers that say the same are alike -/
theorem alike_true {v v' : Value} {a : Ans} {A A' : List Nat} (hN : a.files.length ≤ 1099511627776) (h : AnsIn w a v A) (h' : AnsIn w a v' A') :
    Calls Try.prog 36 #[v, v'] w fun e w' => e = .returned (.bool true) ∧ Chg (fun _ => False) w w' := by
  obtain ⟨bv, fv, l, rfl, h1, h2, h3, -⟩ := h
  obtain ⟨bv', fv', l', rfl, h1', h2', h3', -⟩ := h'
  obtain ⟨pb, cb, rfl, -⟩ := id h1
  obtain ⟨pb', cb', rfl, -⟩ := id h1'
  obtain ⟨pf, cf, rfl, -⟩ := id h2.sl
  obtain ⟨pf', cf', rfl, -⟩ := id h2'.sl
  have hsf : SameFls l l' := h3.trans h3'.symm
  have hll : l.length ≤ 1099511627776 := by have := congrArg List.length h3; simp at this; omega
  unfold ansV
  have hsame := fun W (hc : Chg (fun _ => False) w W) => same_true (OC.rc (OC.chg h1 hc fun _ _ h => h)) (OC.rc (OC.chg h1' hc fun _ _ h => h))
  have hfiles := fun W (hc : Chg (fun _ => False) w W) => sameFiles_true hll (h2.chg hc fun _ _ h => h) (h2'.chg hc fun _ _ h => h) hsf
  have HSAME := Lib.hid hsame
  have HFILES := Lib.hid hfiles
  clear hsame hfiles h1 h2 h3 h1' h2' h3' hsf hll hN
  go_enter Try.func36, Try.ntmps36
  go_wp2_with (first | (go_at_call 53; refine (HSAME.out _ (((Chg.refl _ w).alloc _).alloc _)).mono ?_; rintro e w' ⟨rfl, rfl⟩) | (go_at_call 37; refine (HFILES.out _ (((Chg.refl _ w).alloc _).alloc _)).mono ?_; rintro e w' ⟨rfl, nd, rfl⟩))
  go_ret
  exact ⟨rfl, (((Chg.refl _ w).alloc _).alloc _).drewN nd⟩
end
end Go.Proofs
