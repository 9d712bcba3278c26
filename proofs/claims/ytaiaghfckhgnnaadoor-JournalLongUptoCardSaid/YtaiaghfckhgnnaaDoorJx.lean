/- journal.look. Conditions: the journal lies as HRaw says, no error has closed it. -/
import Derived.Test.YtaiaghfckhgnnaaDoorJv
import Derived.Test.YtaiaghfckhgnnaaDoorWt
namespace Go.Proofs
open Go.RowKit Go.Hp Go.Dm Go.Dr Go.Jn
set_option linter.unusedVariables false
set_option maxRecDepth 10000
/-- has somebody else changed the file? (0: no) -/
def lookE (D : Dk) (nm : ByteArray) (es : List Nat) (du : Nat) : Nat :=
  if (D.size nm).2.2 = 112 ∧ endN es es.length = 0 then 0 else if (D.size nm).2.2 ≠ 0 then (D.size nm).2.2 else
  if (D.size nm).1 ≠ endN es es.length ∨ (D.size nm).2.1 < endN es du then 120 else 0
section
variable {w : World} {d j : Nat} {H : Hs} {F : List Nat} {v : Value}
set_option maxHeartbeats 8000000 in
theorem look_any (h : HRaw w d j H F v) (hs : H.nm.size ≤ maxLen) (hes : H.es.length ≤ 1099511627776) (hdu : H.du ≤ H.es.length) :
    Calls Tryd.prog 33 #[.pointer (some ⟨j, 0, none⟩)] w fun e w' => e = .returned (givenV (lookE H.D H.nm H.es H.du)) ∧ ∃ F', HRaw w' d j H F' v ∧ Ev (F ++ jbl j v) (F' ++ jbl j v) w w' := by
  obtain ⟨S, hS⟩ : ∃ S, S = H.D.size H.nm := ⟨_, rfl⟩
  have hsz := size_any hs (w := w.drew) (h.disk.keep fun _ _ => rfl)
  rw [← hS] at hsz
  have hlk : lookE H.D H.nm H.es H.du = if S.2.2 = 112 ∧ endN H.es H.es.length = 0 then 0 else if S.2.2 ≠ 0 then S.2.2 else if S.1 ≠ endN H.es H.es.length ∨ S.2.1 < endN H.es H.du then 120 else 0 := by unfold lookE; rw [← hS]
  have HLK := Lib.hid hlk
  have HSZ := Lib.hid hsz
  have g0 := hcell_of (h.jrn).head 0
  have g1 := hcell_of (h.jrn).head 1
  have g2 := hcell_of (h.jrn).head 2
  have g3 := hcell_of (h.jrn).head 3
  have g4 := hcell_of (h.jrn).head 4
  simp only [List.getElem?_toArray, List.getElem?_cons_zero, List.getElem?_cons_succ] at g0 g1 g2 g3 g4
  have HH := Lib.hid h
  have HES := Lib.hid (And.intro hes hdu)
  obtain ⟨S0, S1, S2⟩ := S
  clear h hs hes hdu hS hlk hsz g2 g3 g4
  go_enter Tryd.func33, Tryd.ntmps33
  go_wp2
  refine Rx.ws_region (fun _ => True) [(0, .r), (1, .r), (2, .r), (3, .r), (4, .r), (5, .r), (6, .r), (7, .r), (8, .e), (9, .r), (10, .r), (11, .r), (12, .r), (13, .r), (14, .r), (15, .r)] (by kernel_rfl) (by kernel_rfl) trivial (fun _ _ x _ _ h => (by cases x <;> exact h)) ?_
  iterate 8 (refine Rx.ws_q rfl rfl ?_; go_wp2; refine Rx.atS_mk ?_)
  refine Rx.ws_e rfl ?_
  go_wp2_with (first | (go_at_call 27; refine stop ?_))
  refine go ?_
  refine HSZ.out.mono ?_
  rintro e w1 ⟨rfl, hl1⟩
  have hl2 : Left w d F H.D w1 := by
    obtain ⟨F', h1, h2⟩ := hl1
    exact ⟨F', h1, ⟨((Chg.refl (· ∈ F) w).drew).trans h2.chg fun k hk => .inl hk, h2.new⟩⟩
  have HL2 := Lib.hid (HH.out.left hl2)
  clear hl1 hl2
  go_wp2
  refine ⟨trivial, ?_⟩
  iterate 7 (refine Rx.ws_q rfl rfl ?_; go_wp2; refine Rx.atS_mk ?_)
  refine Rx.ws_nil ?_
  obtain ⟨F', hr', hev⟩ := HL2.out
  have HR := Lib.hid (And.intro hr' hev)
  have HE1 := Lib.hid (jsize_any hr'.jrn HES.out.1)
  have HE2 := Lib.hid (end_any hr'.jrn HES.out.2 HES.out.1)
  obtain ⟨Z, hZ⟩ : ∃ Z, Z = endN H.es H.es.length := ⟨_, rfl⟩
  obtain ⟨U, hU⟩ : ∃ U, U = endN H.es H.du := ⟨_, rfl⟩
  rw [← hZ, ← hU] at HLK
  rw [show ({ H with D := H.D } : Hs).es = H.es from rfl, ← hZ] at HE1
  rw [show ({ H with D := H.D } : Hs).es = H.es from rfl, ← hU] at HE2
  have g0 := hcell_of (hr'.jrn).head 0
  have g1 := hcell_of (hr'.jrn).head 1
  have g2 := hcell_of (hr'.jrn).head 2
  have g3 := hcell_of (hr'.jrn).head 3
  have g4 := hcell_of (hr'.jrn).head 4
  simp only [List.getElem?_toArray, List.getElem?_cons_zero, List.getElem?_cons_succ] at g0 g1 g2 g3 g4
  clear hr' hev hZ hU g0 g1 g2 g4
  by_cases h112 : S2 = 112
  · subst h112
    by_cases hZ0 : Z = 0
    · subst hZ0
      go_wp2_with (first | (go_at_call 32; refine HE1.out.mono ?_; rintro e w' ⟨rfl, rfl⟩) | (go_at_call 44; refine HE2.out.mono ?_; rintro e w' ⟨rfl, rfl⟩))
      go_ret
      refine ⟨?_, F', HR.out⟩
      rw [HLK.out]; simp [givenV]
    · have b1 : ((Z : Int) == 0) = false := by rw [beq_eq_false_iff_ne]; omega
      have HZ := Lib.hid hZ0
      clear hZ0
      go_wp2_with (first | (go_at_call 32; refine HE1.out.mono ?_; rintro e w' ⟨rfl, rfl⟩) | (go_at_call 44; refine HE2.out.mono ?_; rintro e w' ⟨rfl, rfl⟩))
      go_ret
      refine ⟨?_, F', HR.out⟩
      rw [HLK.out, if_neg (fun h => HZ.out h.2), if_pos (by decide)]; rfl
  · have b0 : ((S2 : Int) == 112) = false := by rw [beq_eq_false_iff_ne]; omega
    have H1 := Lib.hid h112
    clear h112
    by_cases hS2 : S2 = 0
    · subst hS2
      by_cases hSZ : S0 = Z
      · subst hSZ
        by_cases hSU : S1 < U
        · have d1 : decide ((S1 : Int) < (U : Int)) = true := decide_eq_true (by omega)
          have d2 : decide (S1 < U) = true := decide_eq_true hSU
          have H2 := Lib.hid hSU
          clear hSU
          go_wp2_with (first | (go_at_call 32; refine HE1.out.mono ?_; rintro e w' ⟨rfl, rfl⟩) | (go_at_call 44; refine HE2.out.mono ?_; rintro e w' ⟨rfl, rfl⟩))
          go_ret
          refine ⟨?_, F', HR.out⟩
          rw [HLK.out, if_neg (fun h => by simp at h), if_neg (by simp), if_pos (.inr H2.out)]; rfl
        · have d1 : decide ((S1 : Int) < (U : Int)) = false := decide_eq_false (by omega)
          have d2 : decide (S1 < U) = false := decide_eq_false hSU
          have H2 := Lib.hid hSU
          clear hSU
          go_wp2_with (first | (go_at_call 32; refine HE1.out.mono ?_; rintro e w' ⟨rfl, rfl⟩) | (go_at_call 44; refine HE2.out.mono ?_; rintro e w' ⟨rfl, rfl⟩))
          go_ret
          refine ⟨?_, F', HR.out⟩
          rw [HLK.out, if_neg (fun h => by simp at h), if_neg (by simp), if_neg (fun h => h.elim (fun h => h rfl) H2.out)]; rfl
      · have b1 : ((S0 : Int) == (Z : Int)) = false := by rw [beq_eq_false_iff_ne]; omega
        have b2 : (S0 == Z) = false := by rw [beq_eq_false_iff_ne]; exact hSZ
        have b3 : ¬ ((S0 : Int) = (Z : Int)) := by omega
        have H2 := Lib.hid hSZ
        go_wp2_with (first | (go_at_call 32; refine HE1.out.mono ?_; rintro e w' ⟨rfl, rfl⟩) | (go_at_call 44; refine HE2.out.mono ?_; rintro e w' ⟨rfl, rfl⟩))
        go_ret
        refine ⟨?_, F', HR.out⟩
        rw [HLK.out, if_neg (fun h => by simp at h), if_neg (by simp), if_pos (.inl H2.out)]; rfl
    · have b1 : ((S2 : Int) == 0) = false := by rw [beq_eq_false_iff_ne]; omega
      have H2 := Lib.hid hS2
      clear hS2
      go_wp2_with (first | (go_at_call 32; refine HE1.out.mono ?_; rintro e w' ⟨rfl, rfl⟩) | (go_at_call 44; refine HE2.out.mono ?_; rintro e w' ⟨rfl, rfl⟩))
      go_ret
      refine ⟨?_, F', HR.out⟩
      rw [HLK.out, if_neg (fun h => H1.out h.1), if_pos H2.out]
      unfold givenV
      rw [if_neg H2.out]; rfl
end
end Go.Proofs
