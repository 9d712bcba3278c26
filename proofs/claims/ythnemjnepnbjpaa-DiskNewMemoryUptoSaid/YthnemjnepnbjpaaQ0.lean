/- What the rows of the disk laws share: a law that answers true and leaves all that was there as it was meets its statement; a script handed in, opened. Conditions: each law's own. -/
import Derived.Test.YthnemjnepnbjpaaAs
import Derived.Test.YthnemjnepnbjpaaRows
import Derived.Carry
import Derived.ProofKit
import Derived.OpenShut
import Derived.JoinedCond
namespace Go.Proofs
open Go.RowKit Go.Hp Go.ChangeShapes Go.WideShapes Go.Deep Go.Joins
set_option linter.unusedVariables false
set_option maxRecDepth 10000

section
variable {H : Type} {enc : TypeId × Value → H} {P : Program}

/-- the arguments read behind the call as they did before it -/
theorem args_stay (hl : laidOutB P = true) {W W' : World} {sp : Nat → Bool} (hc : Chg (fun _ => False) W W') :
    ∀ {ts : List TypeId} {vs : List Value} {ds : List (DataW H)} {ps : List MemPlace}, (∀ t ∈ ts, P.readableRec t = true ∧ t < P.types.size) →
      DataW.TrodAll enc P W 0 (fun _ => true) true ts vs ds ps → (∀ x ∈ ps, x.block < W.heap.size) → (∀ x ∈ ps, sp x.block = true) → DataW.TrodAll enc P W' 0 sp true ts vs ds ps
  | [], vs, ds, ps, _, h, _, _ => by
    obtain ⟨rfl, rfl, rfl⟩ := trodAll_nil h
    exact trodAll_mk0
  | t :: ts, vs, ds, ps, ht, h, hlt, hsp => by
    obtain ⟨v, vs1, d, ds1, a, b, rfl, rfl, rfl, h1, h2⟩ := trodAll_cons h
    have hb : Below W.heap.size W W' := hc.below (Nat.le_refl _) fun _ h => h.elim
    exact trodAll_cons_mk (WideElems.Trod_stays hl (ht t (by simp)).1 (ht t (by simp)).2 h1 (fun x hx => hb.same (hlt x (by simp [hx]))) fun x hx => hsp x (by simp [hx]))
      (args_stay hl hc (fun u hu => ht u (by simp [hu])) h2 (fun x hx => hlt x (by simp [hx])) fun x hx => hsp x (by simp [hx]))

/-- the law answered true, nothing that was there has changed: as its statement says -/
theorem law_post {f : Func} {s : ChangeSpec} {apart fresh handsOn again : Bool} {W W' : World} {args : Array Value} {ds gs : List (DataW H)} {before : List MemPlace} {tb : TypeId}
    (hW : DataW.Whole enc P f.params.toList s.vars apart W args.toList ds gs before) (hv : s.vars = []) (hs : (s.fn H ds).results = [.lit (.bool true)] ∧ (s.fn H ds).args = ds ∧ (s.fn H ds).vars = [])
    (hr : f.resultTypes = #[tb]) (htb : P.underlying tb = some .bool) (hl : laidOutB P = true) (ht : ∀ t ∈ f.params.toList, P.readableRec t = true ∧ t < P.types.size) (hc : Chg (fun _ => False) W W') :
    s.post enc P f apart fresh handsOn again W args (.bool true) W' := by
  have hlt : ∀ p ∈ before, p.block < W.heap.size := fun p hp => hW.lt p hp
  have hb : Below W.heap.size W W' := hc.below (Nat.le_refl _) fun _ h => h.elim
  obtain ⟨p, q, hA, hV, rfl, hz, hn⟩ := id hW
  rw [hv] at hV
  obtain ⟨rfl, rfl⟩ := trodVars_none hV
  have e0 : ds ++ ([] : List (DataW H)) = ds := List.append_nil ds
  have hargs : ∀ sp : Nat → Bool, (∀ x ∈ p, sp x.block = true) → DataW.TrodAll enc P W' 0 sp true f.params.toList args.toList (s.fn H (ds ++ [])).args p := fun sp hsp => by
    rw [e0, hs.2.1]
    exact args_stay hl hc ht hA (fun x hx => hlt x (by simp [hx])) hsp
  have hres : ∀ (b : Nat) (sp : Nat → Bool) (hd : Bool), DataW.TrodAll enc P W' b sp hd f.resultTypes.toList ((Value.bool true).resultList f.resultTypes.size) (s.fn H (ds ++ [])).results [] := fun b sp hd => by
    rw [e0, hs.1, hr]
    exact trodAll_mk1 (shut_bool htb true)
  have hvars : ∀ sp : Nat → Bool, DataW.TrodVars enc P W' sp s.vars (s.fn H (ds ++ [])).vars [] := fun sp => by
    rw [e0, hs.2.2, hv]
    rfl
  have hok : ∀ (j : Nat) (t : TypeId) (r : Value), f.resultTypes[j]? = some t → ((Value.bool true).resultList f.resultTypes.size)[j]? = some r → Value.okWide P W' .any 0 t r := by
    intro j t r h1 h2
    rw [hr] at h1 h2
    match j, h1, h2 with
    | 0, h1, h2 =>
      obtain rfl : tb = t := by simpa using h1
      obtain rfl : Value.bool true = r := by simpa [Value.resultList] using h2
      exact okWide_bool_mk htb true
  refine ⟨ds, [], p ++ [], [], p, [], hW, hres _ _ _, hargs _ (fun x hx => ?_), hvars _, World.keptBut_mono (fun x hx => ⟨hx, .inr (by simpa using hx)⟩) (hb.frame (· ∈ p ++ [])), fun _ => ?_⟩
  · have := hlt x (by simp [hx])
    simpa using this
  · refine ⟨hok, _, _, ([] ++ p) ++ [], ⟨[] ++ p, [], trodAll_append (hargs _ (fun _ _ => rfl)) (hres _ _ _), hvars _, rfl, ?_, ?_⟩, ?_⟩
    · intro b off hp
      have hin : MemPlace.cell b off ∈ p ++ [] := by simpa using hp
      rw [hb.frozen (hlt _ hin)]
      exact hz b off hin
    · intro ha
      have := hn ha
      simpa using this
    · intro x hx _
      simpa using hx
end

section
variable {H : Type} {enc : TypeId × Value → H} {w : World}
theorem own_Try : ownKnob Try.prog.godebug = none := by kernel_rfl
theorem laid_Try : laidOutB Try.prog = true := by kernel_rfl
theorem rd_script : Try.prog.readableRec 50 = true ∧ 50 < Try.prog.types.size := ⟨by kernel_rfl, of_decide_eq_true (by kernel_rfl)⟩
theorem rd_int : Try.prog.readableRec 3 = true ∧ 3 < Try.prog.types.size := ⟨by kernel_rfl, of_decide_eq_true (by kernel_rfl)⟩

theorem bulk_part {d : DataW H} {l : List (DataW H)} (h : d ∈ l) : Ythnemjnepnbjpaa.Rows.uptoBulk d ≤ Ythnemjnepnbjpaa.Rows.uptoBulkAll l := by
  induction l with
  | nil => cases h
  | cons x r ih =>
    simp only [Ythnemjnepnbjpaa.Rows.uptoBulkAll]
    rcases List.mem_cons.1 h with rfl | h
    · omega
    · have := ih h; omega
theorem bulk_bound {l : List (DataW H)} (hk : Ythnemjnepnbjpaa.Rows.uptoSmall H l = true) : Ythnemjnepnbjpaa.Rows.uptoBulkAll l ≤ 1048576 := of_decide_eq_true hk

/-- a script handed in: its limit, its files (as they lie), its ops -/
theorem open_script {v : Value} {d : DataW H} {p : List MemPlace} (hv : Value.okWide Try.prog w .any 0 50 v) (h : DataW.Trod enc Try.prog w 0 (fun _ => true) true 50 v d p) (hk : Ythnemjnepnbjpaa.Rows.uptoBulk d ≤ 1048576) :
    ∃ (n : Int) (fv ov : Value) (ops : List (OpP × Value)) (yf : DataW H × List MemPlace) (fuel : Nat), v = .agg #[.int .i64 n, fv, ov] ∧ -9223372036854775808 ≤ n ∧ n ≤ 9223372036854775807 ∧ OpsAt w ov ops ∧
      DataW.trod enc Try.prog w 0 (fun _ => true) true fuel 38 [fv] = some yf ∧ Ythnemjnepnbjpaa.Rows.uptoBulk yf.1 ≤ 1048576 := by
  obtain ⟨v0, v1, v2, y0, y1, y2, fuel, rfl, rfl, rfl, h0, h1, h2⟩ := open_agg3 Try.underlying50 (by kernel_rfl) (by kernel_rfl) hv h
  have hk0 : Ythnemjnepnbjpaa.Rows.uptoBulk y1.1 ≤ 1048576 ∧ Ythnemjnepnbjpaa.Rows.uptoBulk y2.1 ≤ 1048576 := by
    simp only [Ythnemjnepnbjpaa.Rows.uptoBulk, Ythnemjnepnbjpaa.Rows.uptoBulkAll] at hk
    omega
  obtain ⟨n, e0, rfl, w0⟩ := DataW.trod_int Try.underlying3 h0
  obtain rfl : v0 = .int .i64 n := by simpa using e0
  have b0 : -9223372036854775808 ≤ n ∧ n ≤ 9223372036854775807 := by simpa [Lit.wf, IntKind.min, IntKind.max, IntKind.signed, IntKind.bits] using w0
  obtain ⟨ops, ho⟩ := ops_of_trod h2 hk0.2
  exact ⟨n, v1, v2, ops, y1, fuel, rfl, b0.1, b0.2, ho, h1, hk0.1⟩
end
end Go.Proofs
