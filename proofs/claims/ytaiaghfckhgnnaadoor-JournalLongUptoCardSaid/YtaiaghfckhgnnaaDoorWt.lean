/- A region that draws its order, walked once: operations that leave the world alone are taken first in a checked order, the others one after another; the answer holds for every order that the region allows. Conditions: those of the check 'schedB', a fact by computation. A schedule that is walked, behind a wall: the same steps as XRx's, over a structure that nothing unfolds (where many operations are skipped by a guard, unfolding runs through the whole schedule). Conditions: each step's own. A region that draws its order, of which one operation comes behind all others: what the held reads ask of the world need not hold behind that one. (A field that is read and then stored anew.) Conditions: those of the checks, facts by computation. -/
import Derived.OrdersHeld
import Derived.Still
import Derived.Tactics
import Derived.StillTactics
namespace Go.Rx
open Go
set_option linter.unusedVariables false

/-- how an operation of a schedule is taken: 'r': at this world; 'h': in every world that meets S; 'e': as it comes, all others waiting. -/
inductive Kd where
  | r | h | e
  deriving DecidableEq

section
variable {P : Program} {ops : Array Oper} {Q : Exit → Act → World → Prop} {md : Region.Mode} {S : World → Prop} {E : Nat → Bool}

def wpX (P : Program) (md : Region.Mode) (ops : Array Oper) (Q : Exit → Act → World → Prop) (E : Nat → Bool) (S : World → Prop) : Nat → Array Bool → Act → World → Prop
  | 0, listed, a, w => Region.ready md ops listed = [] ∧ Q .normal a w
  | fuel + 1, listed, a, w =>
    (Region.ready md ops listed = [] → Q .normal a w) ∧
    ∀ i ∈ Region.ready md ops listed,
      (E i = true → wpOp P ops Q i (fun a' w' => S w' ∧ wpX P md ops Q E S fuel (listed.setIfInBounds i true) a' w') a w) ∧
      (E i = false → stOp P ops w i (fun a' => wpX P md ops Q E S fuel (listed.setIfInBounds i true) a' w) a)

theorem wpAny_of_x : ∀ (fuel : Nat) (listed : Array Bool) (a : Act) (w : World), wpX P md ops Q E S fuel listed a w → wpAny P md ops Q fuel listed a w
  | 0, _, _, _, h => h
  | fuel + 1, _, _, _, h => ⟨h.1, fun i hi => by
      cases hE : E i with
      | true => exact wpOp_mono (fun a' w' h' => wpAny_of_x fuel _ a' w' h'.2) ((h.2 i hi).1 hE)
      | false => exact wpOp_of_stOp (fun a' h' => wpAny_of_x fuel _ a' _ h') ((h.2 i hi).2 hE)⟩

theorem stOp_putIf {j : Nat} {oi oj : Oper} {v : Value} {w : World} (hj : ops[j]? = some oj) (hap : oi.apart ops oj = true)
    (hsi : ∀ cs b, oi.op ≠ .select cs b) (hsj : ∀ cs b, oj.op ≠ .select cs b) {K : Act → Prop} {a : Act}
    (hy : YieldsIf P ops S oi v a) (h : stOp P ops w j K (a.put oi.dst v)) :
    stOp P ops w j (fun a' => YieldsIf P ops S oi v a' ∧ K (a'.put oi.dst v)) a := by
  obtain ⟨h1, h2, h3⟩ := Oper.apart_spec hap
  have keep : ∀ (a : Act), YieldsIf P ops S oi v a → ∀ u, YieldsIf P ops S oi v (a.put oj.dst u) := fun a hy u =>
    hy.of_same (execOp_put oi hsi a oj.dst u h3) (wanted_put oi a oj.dst u h3)
  unfold stOp at *
  simp only [hj] at *
  rw [wanted_put oj a oi.dst v h1] at h
  split
  · rename_i hw
    simp only [hw, if_true] at h
    unfold Oper.still at *
    rw [execOp_put oj hsj a oi.dst v h1] at h
    generalize (execOp a.eval oj).run P w = r at *
    cases r with
    | ok n w' =>
      cases n <;> simp only [Oper.stillUpon] at h ⊢
      case value u => exact ⟨h.1, keep a hy u, by rw [← Act.put_comm a v u h2]; exact h.2⟩
      case skip => exact ⟨h.1, keep a hy _, by rw [← Act.put_comm a v undef h2]; exact h.2⟩
      case enter f args => obtain ⟨hw', u, hc, hn⟩ := h; exact ⟨hw', u, hc, keep a hy u, by rw [← Act.put_comm a v u h2]; exact hn⟩
    | halt x w' => simp only [Oper.stillUpon] at h
  · rename_i hw
    simp only [hw] at h
    exact ⟨keep a hy _, by rw [← Act.put_comm a v undef h2]; exact h⟩

theorem YieldsIf.at {o : Oper} {v : Value} {a : Act} {w : World} (h : YieldsIf P ops S o v a) (hS : S w) : YieldsAt P ops w o v a :=
  h.imp (fun ⟨hw, hv⟩ => ⟨hw, .inl (hv w hS)⟩) id

/-- one that yields in every world that meets S may be taken first -/
theorem wpX_firstH {i : Nat} {oi : Oper} {v : Value} (hi : ops[i]? = some oi) (hsel : ∀ (j : Nat) (o : Oper) cs b, ops[j]? = some o → o.op ≠ .select cs b)
    (hQ : ∀ c a w, Q (.panic c) (a.put oi.dst v) w → Q (.panic c) a w) (hE : E i = false) :
    ∀ (fuel : Nat) (listed : Array Bool) (a : Act) (w : World),
      (∀ j oj, ops[j]? = some oj → j ≠ i → listed.getD j true = false → (∀ e ∈ oj.after, Region.binds md e = true → e.on ≠ i) → oi.apart ops oj = true) →
      i ∈ Region.ready md ops listed → YieldsIf P ops S oi v a → S w →
      wpX P md ops Q E S fuel (listed.setIfInBounds i true) (a.put oi.dst v) w → wpX P md ops Q E S (fuel + 1) listed a w := by
  intro fuel
  induction fuel with
  | zero =>
    intro listed a w _ hr hy hS H
    refine ⟨fun h => (by rw [h] at hr; cases hr), fun j hj => ?_⟩
    by_cases hji : j = i
    · subst hji
      exact ⟨fun h => (by rw [hE] at h; cases h), fun _ => (YieldsIf.at hy hS).stOp hi H⟩
    · have := ready_mono hj hji
      rw [H.1] at this
      cases this
  | succ fuel ih =>
    intro listed a w hfree hr hy hS H
    refine ⟨fun h => (by rw [h] at hr; cases hr), fun j hj => ?_⟩
    by_cases hji : j = i
    · subst hji
      exact ⟨fun h => (by rw [hE] at h; cases h), fun _ => (YieldsIf.at hy hS).stOp hi H⟩
    · have h1 := H.2 j (ready_mono hj hji)
      obtain ⟨hjun, oj, hoj, hall⟩ := mem_ready.1 hj
      have hnot : ∀ e ∈ oj.after, Region.binds md e = true → e.on ≠ i := fun e he hb heq => by
        have h1 := hall e he hb
        have h0 := (mem_ready.1 hr).1
        rw [heq] at h1
        rcases Nat.lt_or_ge i listed.size with h' | h'
        · simp [h'] at h0 h1; rw [h0] at h1; cases h1
        · simp [Array.getElem?_eq_none h'] at h1
      have hap := hfree j oj hoj hji hjun hnot
      have hfree' : ∀ k ok, ops[k]? = some ok → k ≠ i → (listed.setIfInBounds j true).getD k true = false →
          (∀ e ∈ ok.after, Region.binds md e = true → e.on ≠ i) → oi.apart ops ok = true := fun k ok hk hki hun hno => by
        refine hfree k ok hk hki ?_ hno
        by_cases hjk : j = k
        · subst hjk; exact hjun
        · rw [getD_set_ne true hjk] at hun; exact hun
      refine ⟨fun hEj => ?_, fun hEj => ?_⟩
      · have h2 := wpOp_putIf hoj hap (fun cs b => hsel i oi cs b hi) (fun cs b => hsel j oj cs b hoj) hQ hy (h1.1 hEj)
        refine wpOp_mono (fun a' w' h3 => ⟨h3.2.1, ih (listed.setIfInBounds j true) a' w' hfree' (ready_mono hr (Ne.symm hji)) h3.1 h3.2.1 ?_⟩) h2
        rw [Array.setIfInBounds_comm _ _ hji]
        exact h3.2.2
      · have h2 := stOp_putIf hoj hap (fun cs b => hsel i oi cs b hi) (fun cs b => hsel j oj cs b hoj) hy (h1.2 hEj)
        refine stOp_mono (fun a' h3 => ih (listed.setIfInBounds j true) a' w hfree' (ready_mono hr (Ne.symm hji)) h3.1 hS ?_) h2
        rw [Array.setIfInBounds_comm _ _ hji]
        exact h3.2

/-- all that can come up without number i (a fixed point) -/
def closeB (md : Region.Mode) (ops : Array Oper) (i : Nat) : Nat → Array Bool → Array Bool
  | 0, c => c
  | n + 1, c => closeB md ops i n ((List.range ops.size).foldl (fun c j =>
      if j != i && ((ops[j]?).map (·.after.all fun e => !Region.binds md e || c.getD e.on false)).getD false then c.setIfInBounds j true else c) c)

/-- c is closed: it holds what is listed and whatever waits for its members alone, but i; of the E's only those that are listed -/
def noE (md : Region.Mode) (ops : Array Oper) (E : Nat → Bool) (listed : Array Bool) (i : Nat) (c : Array Bool) : Bool :=
  (List.range ops.size).all fun j =>
    (!listed.getD j false || c.getD j false) &&
    (j == i || !(((ops[j]?).map (·.after.all fun e => !Region.binds md e || c.getD e.on false)).getD false) || c.getD j false) &&
    (!E j || !c.getD j false || listed.getD j true)

theorem noE_spec {listed c : Array Bool} {i : Nat} (h : noE md ops E listed i c = true) (j : Nat) (hj : j < ops.size) :
    (listed.getD j false = true → c.getD j false = true) ∧
    (j ≠ i → (∀ oj, ops[j]? = some oj → (∀ e ∈ oj.after, Region.binds md e = true → c.getD e.on false = true) → c.getD j false = true)) ∧
    (E j = true → c.getD j false = true → listed.getD j true = true) := by
  have h := List.all_eq_true.1 h j (List.mem_range.2 hj)
  simp only [Bool.and_eq_true, Bool.or_eq_true, Bool.not_eq_true'] at h
  obtain ⟨⟨h1, h2⟩, h3⟩ := h
  refine ⟨fun hl => ?_, fun hne oj hoj hall => ?_, fun hE hc => ?_⟩
  · rcases h1 with h1 | h1
    · rw [h1] at hl; cases hl
    · exact h1
  · rcases h2 with (h2 | h2) | h2
    · exact absurd (by simpa using h2) hne
    · exfalso
      have : (((ops[j]?).map (·.after.all fun e => !Region.binds md e || c.getD e.on false)).getD false) = true := by
        simp only [hoj, Option.map_some, Option.getD_some]
        refine Array.all_eq_true_iff_forall_mem.2 fun e he => ?_
        cases hb : Region.binds md e with
        | true => simp [hall e he hb]
        | false => rfl
      rw [this] at h2; cases h2
    · exact h2
  · rcases h3 with (h3 | h3) | h3
    · rw [h3] at hE; cases hE
    · rw [h3] at hc; cases hc
    · exact h3

/-- one that yields at this world may be taken first where no E can come ahead of it -/
theorem wpX_firstR {i : Nat} {oi : Oper} {v : Value} {w : World} (hi : ops[i]? = some oi) (hsel : ∀ (j : Nat) (o : Oper) cs b, ops[j]? = some o → o.op ≠ .select cs b)
    (hE : E i = false) (l0 c : Array Bool) (hno : noE md ops E l0 i c = true) :
    ∀ (fuel : Nat) (listed : Array Bool) (a : Act),
      (∀ j, l0.getD j true = true → listed.getD j true = true) → (∀ j, listed.getD j false = true → c.getD j false = true) →
      (∀ j oj, ops[j]? = some oj → j ≠ i → listed.getD j true = false → (∀ e ∈ oj.after, Region.binds md e = true → e.on ≠ i) → oi.apart ops oj = true) →
      i ∈ Region.ready md ops listed → YieldsAt P ops w oi v a →
      wpX P md ops Q E S fuel (listed.setIfInBounds i true) (a.put oi.dst v) w → wpX P md ops Q E S (fuel + 1) listed a w := by
  intro fuel
  induction fuel with
  | zero =>
    intro listed a _ _ _ hr hy H
    refine ⟨fun h => (by rw [h] at hr; cases hr), fun j hj => ?_⟩
    by_cases hji : j = i
    · subst hji
      exact ⟨fun h => (by rw [hE] at h; cases h), fun _ => hy.stOp hi H⟩
    · have := ready_mono hj hji
      rw [H.1] at this
      cases this
  | succ fuel ih =>
    intro listed a hl0 hlc hfree hr hy H
    refine ⟨fun h => (by rw [h] at hr; cases hr), fun j hj => ?_⟩
    by_cases hji : j = i
    · subst hji
      exact ⟨fun h => (by rw [hE] at h; cases h), fun _ => hy.stOp hi H⟩
    · have h1 := H.2 j (ready_mono hj hji)
      obtain ⟨hjun, oj, hoj, hall⟩ := mem_ready.1 hj
      have hjlt : j < ops.size := (Array.getElem?_eq_some_iff.1 hoj).1
      have hs := noE_spec hno j hjlt
      have hcj : c.getD j false = true := hs.2.1 hji oj hoj fun e he hb => hlc _ (by simpa using hall e he hb)
      have hEj : E j = false := by
        cases hEj : E j with
        | false => rfl
        | true => have := hl0 j (hs.2.2 hEj hcj); rw [hjun] at this; cases this
      have hnot : ∀ e ∈ oj.after, Region.binds md e = true → e.on ≠ i := fun e he hb heq => by
        have h1 := hall e he hb
        have h0 := (mem_ready.1 hr).1
        rw [heq] at h1
        rcases Nat.lt_or_ge i listed.size with h' | h'
        · simp [h'] at h0 h1; rw [h0] at h1; cases h1
        · simp [Array.getElem?_eq_none h'] at h1
      have hap := hfree j oj hoj hji hjun hnot
      have hfree' : ∀ k ok, ops[k]? = some ok → k ≠ i → (listed.setIfInBounds j true).getD k true = false →
          (∀ e ∈ ok.after, Region.binds md e = true → e.on ≠ i) → oi.apart ops ok = true := fun k ok hk hki hun hno => by
        refine hfree k ok hk hki ?_ hno
        by_cases hjk : j = k
        · subst hjk; exact hjun
        · rw [getD_set_ne true hjk] at hun; exact hun
      refine ⟨fun h => (by rw [hEj] at h; cases h), fun _ => ?_⟩
      have h2 := stOp_put hoj hap (fun cs b => hsel i oi cs b hi) (fun cs b => hsel j oj cs b hoj) hy (h1.2 hEj)
      refine stOp_mono (fun a' h3 => ih (listed.setIfInBounds j true) a' (fun k hk => ?_) (fun k hk => ?_) hfree' (ready_mono hr (Ne.symm hji)) h3.1 ?_) h2
      · by_cases hjk : j = k
        · subst hjk
          rcases Nat.lt_or_ge j listed.size with h' | h'
          · simp [h']
          · simp
        · rw [getD_set_ne true hjk]; exact hl0 k hk
      · by_cases hjk : j = k
        · subst hjk; exact hcj
        · rw [getD_set_ne false hjk] at hk; exact hlc k hk
      · rw [Array.setIfInBounds_comm _ _ hji]
        exact h3.2
end

/-- the schedule's check -/
def schedB (md : Region.Mode) (ops : Array Oper) (E : Nat → Bool) : List (Nat × Kd) → Array Bool → Bool
  | [], listed => Region.ready md ops listed == []
  | (i, .h) :: rest, listed => !E i && (Region.ready md ops listed).contains i && Region.free md ops listed i && schedB md ops E rest (listed.setIfInBounds i true)
  | (i, .r) :: rest, listed => !E i && (Region.ready md ops listed).contains i && Region.free md ops listed i && noE md ops E listed i (closeB md ops i 1 listed) && schedB md ops E rest (listed.setIfInBounds i true)
  | (i, .e) :: rest, listed => E i && Region.ready md ops listed == [i] && schedB md ops E rest (listed.setIfInBounds i true)

def isE (l : List (Nat × Kd)) (i : Nat) : Bool := l.any fun p => p.1 == i && p.2 == .e

def okB (ops : Array Oper) (l : List (Nat × Kd)) : Bool :=
  Region.noSelect ops && l.length == ops.size && schedB .any ops (isE l) l (Array.replicate ops.size false)

/-- what is to be walked -/
def wpSched (P : Program) (ops : Array Oper) (Q : Exit → Act → World → Prop) (S : World → Prop) : List (Nat × Kd) → Act → World → Prop
  | [], a, w => Q .normal a w
  | (i, .r) :: rest, a, w => stOp P ops w i (fun a' => wpSched P ops Q S rest a' w) a
  | (i, .h) :: rest, a, w => ∃ o v, ops[i]? = some o ∧ YieldsIf P ops S o v a ∧ wpSched P ops Q S rest (a.put o.dst v) w
  | (i, .e) :: rest, a, w => wpOp P ops Q i (fun a' w' => S w' ∧ wpSched P ops Q S rest a' w') a w

section
variable {P : Program} {ops : Array Oper} {Q : Exit → Act → World → Prop} {S : World → Prop}

theorem sched_sound {E : Nat → Bool} (hsel : Region.noSelect ops = true) (hQ : ∀ c a x v w, Q (.panic c) (Act.put a x v) w → Q (.panic c) a w) :
    ∀ (l : List (Nat × Kd)) (listed : Array Bool) (a : Act) (w : World), schedB .any ops E l listed = true → S w → wpSched P ops Q S l a w →
      wpX P .any ops Q E S l.length listed a w
  | [], listed, a, w, hB, _, h => ⟨by simpa [schedB] using hB, h⟩
  | (i, .r) :: rest, listed, a, w, hB, hS, h => by
    simp only [schedB, Bool.and_eq_true, Bool.not_eq_true'] at hB
    obtain ⟨⟨⟨⟨hE, hr⟩, hf⟩, hno⟩, hB'⟩ := hB
    have hr' : i ∈ Region.ready .any ops listed := by simpa using hr
    obtain ⟨_, oi, hi, _⟩ := mem_ready.1 hr'
    obtain ⟨v, hy, hk⟩ := yieldsAt_of_stOp hi h
    have hc : ∀ j, listed.getD j false = true → (closeB .any ops i 1 listed).getD j false = true := fun j hj => by
      rcases Nat.lt_or_ge j ops.size with hlt | hge
      · exact (noE_spec hno j hlt).1 hj
      · exact closeB_ge listed i 1 j hj
    exact wpX_firstR hi (Region.noSelect_spec hsel) hE listed _ hno rest.length listed a (fun j hj => hj) hc (Region.free_spec hi hf) hr' hy
      (sched_sound hsel hQ rest _ _ w hB' hS hk)
  | (i, .h) :: rest, listed, a, w, hB, hS, h => by
    simp only [schedB, Bool.and_eq_true, Bool.not_eq_true'] at hB
    obtain ⟨⟨⟨hE, hr⟩, hf⟩, hB'⟩ := hB
    have hr' : i ∈ Region.ready .any ops listed := by simpa using hr
    obtain ⟨oi, v, hi, hy, hk⟩ := h
    exact wpX_firstH hi (Region.noSelect_spec hsel) (fun c a w => hQ c a _ _ w) hE rest.length listed a w (Region.free_spec hi hf) hr' hy hS
      (sched_sound hsel hQ rest _ _ w hB' hS hk)
  | (i, .e) :: rest, listed, a, w, hB, hS, h => by
    simp only [schedB, Bool.and_eq_true] at hB
    obtain ⟨⟨hE, hr⟩, hB'⟩ := hB
    have hr' : Region.ready .any ops listed = [i] := by simpa using hr
    refine ⟨fun h0 => (by rw [h0] at hr'; cases hr'), fun j hj => ?_⟩
    rw [hr'] at hj
    obtain rfl : j = i := by simpa using hj
    refine ⟨fun _ => wpOp_mono (fun a' w' hk => ⟨hk.1, sched_sound hsel hQ rest _ a' w' hB' hk.1 hk.2⟩) h, fun h0 => (by rw [h0] at hE; cases hE)⟩
where
  closeB_ge (listed : Array Bool) (i : Nat) : ∀ (n : Nat) (j : Nat), listed.getD j false = true → (closeB .any ops i n listed).getD j false = true := by
    have step : ∀ (l : List Nat) (c : Array Bool) (j : Nat), c.getD j false = true → (l.foldl (fun c j =>
        if j != i && ((ops[j]?).map (·.after.all fun e => !Region.binds .any e || c.getD e.on false)).getD false then c.setIfInBounds j true else c) c).getD j false = true := by
      intro l
      induction l with
      | nil => exact fun c j h => h
      | cons k l ih =>
        intro c j h
        simp only [List.foldl_cons]
        refine ih _ j ?_
        split
        · exact getD_set_true h
        · exact h
    intro n
    induction n generalizing listed with
    | zero => exact fun j h => h
    | succ n ih => exact fun j h => ih _ j (step _ _ j h)

/-- A REGION THAT DRAWS ITS ORDER, by one schedule. -/
theorem wp_region_sched {id : Nat} {a : Act} {w : World} {l : List Oper} (S : World → Prop) (s : List (Nat × Kd)) (hm : P.follows .mixedOrders = true)
    (hB : okB l.toArray s = true) (hS : S w.drew) (hQ : ∀ c a x v w, Q (.panic c) (Act.put a x v) w → Q (.panic c) a w)
    (h : wpSched P l.toArray Q S s a w.drew) : (Code.region id l.toArray true).wp P Q a w := by
  simp only [okB, Bool.and_eq_true, beq_iff_eq] at hB
  obtain ⟨⟨h1, h2⟩, h3⟩ := hB
  refine wp_region_any hm (wpAny_of_x (E := isE s) (S := S) _ _ _ _ ?_)
  rw [← h2]
  rw [← h2] at h3
  exact sched_sound h1 hQ s _ a w.drew h3 hS h

/-- one step: 'r' -/
theorem wpSched_r {i : Nat} {rest : List (Nat × Kd)} {a : Act} {w : World} {o : Oper} (ho : ops[i]? = some o)
    (h : ∀ K : Act → Prop, (∀ a, wpSched P ops Q S rest a w → K a) → if Region.wanted o (yielded ops a.tmps) then o.still P a w K else K (a.put o.dst undef)) :
    wpSched P ops Q S ((i, .r) :: rest) a w := by
  have h := h _ (fun _ h => h)
  unfold wpSched stOp
  simp only [ho]
  exact h

/-- one step: 'h' -/
theorem wpSched_h {i : Nat} {rest : List (Nat × Kd)} {a : Act} {w : World} {o : Oper} {v : Value} (ho : ops[i]? = some o)
    (hw : Region.wanted o (yielded ops a.tmps) = true) (hv : ∀ w', S w' → (execOp a.eval o).run P w' = .ok (.value v) w')
    (h : wpSched P ops Q S rest (a.put o.dst v) w) : wpSched P ops Q S ((i, .h) :: rest) a w :=
  ⟨o, v, ho, .inl ⟨hw, hv⟩, h⟩

/-- the world is still w -/
def AtW (w : World) (p : Prop) (w' : World) : Prop := w' = w ∧ p
/-- the world meets S -/
def MetS (S : World → Prop) (p : Prop) (w' : World) : Prop := S w' ∧ p

theorem Oper.wp_then {o : Oper} {a : Act} {w : World} {K K' : Act → World → Prop} (h : o.wp P a w K' (Exit.then K Q)) : o.wp P a w K' Q := by
  unfold Oper.wp at *
  generalize (execOp a.eval o).run P w = r at *
  cases r with
  | ok n w' => cases n <;> simp only [Oper.upon] at h ⊢ <;> exact h
  | halt x w' => cases x <;> simp only [Oper.upon] at h ⊢ <;> exact h

/-- one step: 'e' -/
theorem wpSched_e {i : Nat} {rest : List (Nat × Kd)} {a : Act} {w : World} {o : Oper} (ho : ops[i]? = some o)
    (h : wpList P ops (Exit.then (fun a' w' => MetS S (wpSched P ops Q S rest a' w') w') Q) [o] a w) : wpSched P ops Q S ((i, .e) :: rest) a w := by
  unfold wpList at h
  unfold wpSched wpOp
  simp only [ho]
  split
  · rename_i hw
    rw [if_pos hw] at h
    exact h.imp (fun h => Go.Oper.wp_mono (fun _ _ h => h) (Oper.wp_then h)) id
  · rename_i hw
    rw [if_neg hw] at h
    exact h

def quietOp : Op → Bool
  | .move _ | .assign _ | .pick .. | .nilCheck _ | .binOp .. | .unOp .. | .fieldAddr .. | .field .. | .indexAddr .. | .index .. | .extract .. | .slice .. | .build .. | .makeInterface .. | .load .. | .lookup .. | .convert .. => true
  | .call c => match c.callee with | .builtin .len | .builtin .cap | .builtin .min | .builtin .max => true | _ => false
  | _ => false

/-- a run that, where it ends well, yields a value -/
def Vals (P : Program) (s : Sem Next) : Prop := ∀ w n w', s.run P w = .ok n w' → ∃ v, n = .value v

theorem vals_pure (v : Value) : Vals P (pure (.value v)) := fun w n w' h => ⟨v, by simp [pure] at h; exact h.1.symm⟩
theorem vals_bind {α : Type} {s : Sem α} {f : α → Sem Next} (h : ∀ x, Vals P (f x)) : Vals P (s >>= f) := fun w n w' hr => by
  rw [Sem.run_bind] at hr
  cases hs : s.run P w with
  | ok v w1 => rw [hs] at hr; exact h v w1 n w' hr
  | halt x w1 => rw [hs] at hr; simp [Result.andThen] at hr
theorem vals_ite {c : Prop} [Decidable c] {s t : Sem Next} (hs : Vals P s) (ht : Vals P t) : Vals P (if c then s else t) := by split <;> assumption
theorem vals_halt (h : Halt) : Vals P (.halt h) := fun w n w' hr => by simp [Sem.run] at hr

theorem quiet_value {o : Oper} (hq : quietOp o.op = true) (ρ : Operand → Value) : Vals P (execOp ρ o) := by
  unfold execOp
  split <;> rename_i ho <;> rw [ho] at hq <;> first
    | (simp only [quietOp] at hq; cases hq; done)
    | (exact vals_pure _)
    | (exact vals_bind fun x => vals_pure _)
    | skip
  · split
    · exact vals_bind fun x => vals_halt _
    · exact vals_bind fun x => vals_halt _
    · exact vals_bind fun x => vals_halt _
    · split
      · exact vals_bind fun x => vals_halt _
      · refine vals_bind fun p => vals_bind fun x => ?_
        split
        · exact vals_bind fun x => vals_pure _
        · exact vals_pure _
      · exact vals_pure _
    · exact vals_pure _
  · rename_i c
    simp only [quietOp] at hq
    split at hq <;> first
      | (cases hq; done)
      | (rename_i hc
         simp only [resolve, hc, pure_bind, invoke, builtin]
         exact vals_bind fun x => vals_pure _)

theorem still_of_wp {o : Oper} {a : Act} {w : World} {p : Act → Prop} (hq : quietOp o.op = true)
    (h : o.wp P a w (fun a' w' => AtW w (p a') w') (Exit.then (fun a' w' => AtW w (p a') w') (fun _ _ _ => False))) : o.still P a w p := by
  have hv := quiet_value (P := P) hq a.eval
  unfold Oper.wp at h
  unfold Oper.still
  cases hr : (execOp a.eval o).run P w with
  | ok n w' =>
    obtain ⟨v, rfl⟩ := hv w n w' hr
    rw [hr] at h
    exact h
  | halt x w' =>
    rw [hr] at h
    cases x <;> simp [Oper.upon, Exit.then] at h

/-- one step: 'r', walked as a list of one -/
theorem wpSched_q {i : Nat} {rest : List (Nat × Kd)} {a : Act} {w : World} {o : Oper} (ho : ops[i]? = some o) (hq : quietOp o.op = true)
    (h : wpList P ops (Exit.then (fun a' w' => AtW w (wpSched P ops Q S rest a' w) w') (fun _ _ _ => False)) [o] a w) : wpSched P ops Q S ((i, .r) :: rest) a w := by
  unfold wpList at h
  unfold wpSched stOp
  simp only [ho]
  split
  · rename_i hw
    rw [if_pos hw] at h
    rcases h with h | ⟨_, a', w', h⟩
    · exact still_of_wp hq h
    · exact h.elim
  · rename_i hw
    rw [if_neg hw] at h
    exact h.2

theorem wpSched_nil {a : Act} {w : World} (h : Q .normal a w) : wpSched P ops Q S [] a w := h
end
end Go.Rx
namespace Go.Rx
open Go
set_option linter.unusedVariables false
section
variable {P : Program} {ops : Array Oper} {Q : Exit → Act → World → Prop} {S : World → Prop}

structure WS (P : Program) (ops : Array Oper) (Q : Exit → Act → World → Prop) (S : World → Prop) (l : List (Nat × Kd)) (a : Act) (w : World) : Prop where
  out : wpSched P ops Q S l a w
structure AtS (w : World) (p : Prop) (w' : World) : Prop where
  same : w' = w
  out : p
structure MetT (S : World → Prop) (p : Prop) (w' : World) : Prop where
  met : S w'
  out : p
theorem atS_mk {w : World} {p : Prop} (h : p) : AtS w p w := ⟨rfl, h⟩

/-- the quiet operations, and a slice taken as an array's pointer -/
def quietW : Op → Bool
  | .sliceToArrayPointer .. => true
  | o => quietOp o
theorem quietW_value {o : Oper} (hq : quietW o.op = true) (ρ : Operand → Value) : Vals P (execOp ρ o) := by
  by_cases h : quietOp o.op = true
  · exact quiet_value h ρ
  · unfold execOp
    split <;> rename_i ho <;> rw [ho] at hq h <;> first
      | (exact absurd hq h)
      | (exact vals_bind fun x => vals_pure _)
theorem still_of_wp2 {o : Oper} {a : Act} {w : World} {p : Act → Prop} (hq : quietW o.op = true)
    (h : o.wp P a w (fun a' w' => AtW w (p a') w') (fun _ _ _ => False)) : o.still P a w p := by
  have hv := quietW_value (P := P) hq a.eval
  unfold Oper.wp at h
  unfold Oper.still
  cases hr : (execOp a.eval o).run P w with
  | ok n w' =>
    obtain ⟨v, rfl⟩ := hv w n w' hr
    rw [hr] at h
    exact h
  | halt x w' =>
    rw [hr] at h
    cases x <;> simp [Oper.upon] at h

theorem ws_q {i : Nat} {rest : List (Nat × Kd)} {a : Act} {w : World} {o : Oper} (ho : ops[i]? = some o) (hq : quietW o.op = true)
    (h : wpList P ops (Exit.then (fun a' w' => AtS w (WS P ops Q S rest a' w) w') (fun _ _ _ => False)) [o] a w) : WS P ops Q S ((i, .r) :: rest) a w := by
  refine ⟨?_⟩
  unfold wpList at h
  unfold wpSched stOp
  simp only [ho]
  split
  · rename_i hw
    rw [if_pos hw] at h
    rcases h with h | ⟨_, a', w', h⟩
    · exact still_of_wp2 hq (Go.Oper.wp_mono (fun _ _ h => ⟨h.1, h.2.out⟩) (Oper.wp_then h))
    · exact h.elim
  · rename_i hw
    rw [if_neg hw] at h
    exact h.2.out
theorem ws_e {i : Nat} {rest : List (Nat × Kd)} {a : Act} {w : World} {o : Oper} (ho : ops[i]? = some o)
    (h : wpList P ops (Exit.then (fun a' w' => MetT S (WS P ops Q S rest a' w') w') Q) [o] a w) : WS P ops Q S ((i, .e) :: rest) a w := by
  refine ⟨?_⟩
  unfold wpList at h
  unfold wpSched wpOp
  simp only [ho]
  split
  · rename_i hw
    rw [if_pos hw] at h
    exact h.imp (fun h => Go.Oper.wp_mono (fun _ _ h => ⟨h.1, h.2.out⟩) (Oper.wp_then h)) id
  · rename_i hw
    rw [if_neg hw] at h
    exact ⟨h.1, h.2.out⟩
theorem ws_h {i : Nat} {rest : List (Nat × Kd)} {a : Act} {w : World} {o : Oper} {v : Value} (ho : ops[i]? = some o)
    (hw : Region.wanted o (yielded ops a.tmps) = true) (hv : ∀ w', S w' → (execOp a.eval o).run P w' = .ok (.value v) w')
    (h : WS P ops Q S rest (a.put o.dst v) w) : WS P ops Q S ((i, .h) :: rest) a w := ⟨wpSched_h ho hw hv h.out⟩
theorem ws_nil {a : Act} {w : World} (h : Q .normal a w) : WS P ops Q S [] a w := ⟨h⟩
end
theorem ws_region {P : Program} {Q : Exit → Act → World → Prop} {id : Nat} {a : Act} {w : World} {l : List Oper} (S : World → Prop) (s : List (Nat × Kd)) (hm : P.follows .mixedOrders = true)
    (hB : okB l.toArray s = true) (hS : S w.drew) (hQ : ∀ c a x v w, Q (.panic c) (Act.put a x v) w → Q (.panic c) a w)
    (h : WS P l.toArray Q S s a w.drew) : (Code.region id l.toArray true).wp P Q a w := wp_region_sched S s hm hB hS hQ h.out
end Go.Rx
namespace Go.Rx
open Go
set_option linter.unusedVariables false
section
variable {P : Program} {ops : Array Oper} {Q : Exit → Act → World → Prop} {md : Region.Mode} {S : World → Prop} {E : Nat → Bool} {L : Nat}
/-- operation L waits for operation i -/
def depB (md : Region.Mode) (ops : Array Oper) (L i : Nat) : Bool :=
  ((ops[L]?).map fun o => o.after.any fun e => Region.binds md e && e.on == i).getD true
theorem dep_spec {i : Nat} {oL : Oper} (h : depB md ops L i = true) (hL : ops[L]? = some oL) (hno : ∀ e ∈ oL.after, Region.binds md e = true → e.on ≠ i) : False := by
  unfold depB at h
  rw [hL] at h
  simp only [Option.map_some, Option.getD_some] at h
  rw [Array.any_eq_true] at h
  obtain ⟨x, hx, hb⟩ := h
  simp only [Bool.and_eq_true, beq_iff_eq] at hb
  exact hno _ (Array.getElem_mem hx) hb.1 hb.2
/-- L stands at a schedule's end, and waits for all that are held -/
def endB (ops : Array Oper) (L : Nat) : List (Nat × Kd) → Bool
  | [] => true
  | (i, k) :: rest => (i != L || rest.isEmpty) && (k != .h || depB .any ops L i) && endB ops L rest
theorem endB_tail {p : Nat × Kd} {rest : List (Nat × Kd)} (h : endB ops L (p :: rest) = true) : endB ops L rest = true := by
  obtain ⟨i, k⟩ := p
  simp only [endB, Bool.and_eq_true] at h
  exact h.2
theorem endB_last {i : Nat} {k : Kd} {rest : List (Nat × Kd)} (h : endB ops L ((i, k) :: rest) = true) (e : i = L) : rest = [] := by
  simp only [endB, Bool.and_eq_true, Bool.or_eq_true, bne_iff_ne] at h
  rcases h.1.1 with h1 | h1
  · exact absurd e h1
  · simpa using h1
theorem endB_dep {i : Nat} {rest : List (Nat × Kd)} (h : endB ops L ((i, .h) :: rest) = true) : depB .any ops L i = true := by
  simp only [endB, Bool.and_eq_true, Bool.or_eq_true] at h
  rcases h.1.2 with h1 | h1
  · cases h1
  · exact h1
def wpX2 (P : Program) (md : Region.Mode) (ops : Array Oper) (Q : Exit → Act → World → Prop) (E : Nat → Bool) (S : World → Prop) (L : Nat) : Nat → Array Bool → Act → World → Prop
  | 0, listed, a, w => Region.ready md ops listed = [] ∧ Q .normal a w
  | fuel + 1, listed, a, w =>
    (Region.ready md ops listed = [] → Q .normal a w) ∧
    ∀ i ∈ Region.ready md ops listed,
      (E i = true → wpOp P ops Q i (fun a' w' => (i ≠ L → S w') ∧ wpX2 P md ops Q E S L fuel (listed.setIfInBounds i true) a' w') a w) ∧
      (E i = false → stOp P ops w i (fun a' => wpX2 P md ops Q E S L fuel (listed.setIfInBounds i true) a' w) a)

theorem wpAny_of_x2 : ∀ (fuel : Nat) (listed : Array Bool) (a : Act) (w : World), wpX2 P md ops Q E S L fuel listed a w → wpAny P md ops Q fuel listed a w
  | 0, _, _, _, h => h
  | fuel + 1, _, _, _, h => ⟨h.1, fun i hi => by
      cases hE : E i with
      | true => exact wpOp_mono (fun a' w' h' => wpAny_of_x2 fuel _ a' w' h'.2) ((h.2 i hi).1 hE)
      | false => exact wpOp_of_stOp (fun a' h' => wpAny_of_x2 fuel _ a' _ h') ((h.2 i hi).2 hE)⟩

/-- one that yields in every world that meets S may be taken first -/
theorem wpX2_firstH {i : Nat} {oi : Oper} {v : Value} (hi : ops[i]? = some oi) (hsel : ∀ (j : Nat) (o : Oper) cs b, ops[j]? = some o → o.op ≠ .select cs b)
    (hQ : ∀ c a w, Q (.panic c) (a.put oi.dst v) w → Q (.panic c) a w) (hE : E i = false) (hL : depB md ops L i = true) :
    ∀ (fuel : Nat) (listed : Array Bool) (a : Act) (w : World),
      (∀ j oj, ops[j]? = some oj → j ≠ i → listed.getD j true = false → (∀ e ∈ oj.after, Region.binds md e = true → e.on ≠ i) → oi.apart ops oj = true) →
      i ∈ Region.ready md ops listed → YieldsIf P ops S oi v a → S w →
      wpX2 P md ops Q E S L fuel (listed.setIfInBounds i true) (a.put oi.dst v) w → wpX2 P md ops Q E S L (fuel + 1) listed a w := by
  intro fuel
  induction fuel with
  | zero =>
    intro listed a w _ hr hy hS H
    refine ⟨fun h => (by rw [h] at hr; cases hr), fun j hj => ?_⟩
    by_cases hji : j = i
    · subst hji
      exact ⟨fun h => (by rw [hE] at h; cases h), fun _ => (YieldsIf.at hy hS).stOp hi H⟩
    · have := ready_mono hj hji
      rw [H.1] at this
      cases this
  | succ fuel ih =>
    intro listed a w hfree hr hy hS H
    refine ⟨fun h => (by rw [h] at hr; cases hr), fun j hj => ?_⟩
    by_cases hji : j = i
    · subst hji
      exact ⟨fun h => (by rw [hE] at h; cases h), fun _ => (YieldsIf.at hy hS).stOp hi H⟩
    · have h1 := H.2 j (ready_mono hj hji)
      obtain ⟨hjun, oj, hoj, hall⟩ := mem_ready.1 hj
      have hnot : ∀ e ∈ oj.after, Region.binds md e = true → e.on ≠ i := fun e he hb heq => by
        have h1 := hall e he hb
        have h0 := (mem_ready.1 hr).1
        rw [heq] at h1
        rcases Nat.lt_or_ge i listed.size with h' | h'
        · simp [h'] at h0 h1; rw [h0] at h1; cases h1
        · simp [Array.getElem?_eq_none h'] at h1
      have hap := hfree j oj hoj hji hjun hnot
      have hfree' : ∀ k ok, ops[k]? = some ok → k ≠ i → (listed.setIfInBounds j true).getD k true = false →
          (∀ e ∈ ok.after, Region.binds md e = true → e.on ≠ i) → oi.apart ops ok = true := fun k ok hk hki hun hno => by
        refine hfree k ok hk hki ?_ hno
        by_cases hjk : j = k
        · subst hjk; exact hjun
        · rw [getD_set_ne true hjk] at hun; exact hun
      refine ⟨fun hEj => ?_, fun hEj => ?_⟩
      · have h2 := wpOp_putIf hoj hap (fun cs b => hsel i oi cs b hi) (fun cs b => hsel j oj cs b hoj) hQ hy (h1.1 hEj)
        have hjL : j ≠ L := fun e => by subst e; exact dep_spec hL hoj hnot
        refine wpOp_mono (fun a' w' h3 => ⟨h3.2.1, ih (listed.setIfInBounds j true) a' w' hfree' (ready_mono hr (Ne.symm hji)) h3.1 (h3.2.1 hjL) ?_⟩) h2
        rw [Array.setIfInBounds_comm _ _ hji]
        exact h3.2.2
      · have h2 := stOp_putIf hoj hap (fun cs b => hsel i oi cs b hi) (fun cs b => hsel j oj cs b hoj) hy (h1.2 hEj)
        refine stOp_mono (fun a' h3 => ih (listed.setIfInBounds j true) a' w hfree' (ready_mono hr (Ne.symm hji)) h3.1 hS ?_) h2
        rw [Array.setIfInBounds_comm _ _ hji]
        exact h3.2

/-- one that yields at this world may be taken first where no E can come ahead of it -/
theorem wpX2_firstR {i : Nat} {oi : Oper} {v : Value} {w : World} (hi : ops[i]? = some oi) (hsel : ∀ (j : Nat) (o : Oper) cs b, ops[j]? = some o → o.op ≠ .select cs b)
    (hE : E i = false) (l0 c : Array Bool) (hno : noE md ops E l0 i c = true) :
    ∀ (fuel : Nat) (listed : Array Bool) (a : Act),
      (∀ j, l0.getD j true = true → listed.getD j true = true) → (∀ j, listed.getD j false = true → c.getD j false = true) →
      (∀ j oj, ops[j]? = some oj → j ≠ i → listed.getD j true = false → (∀ e ∈ oj.after, Region.binds md e = true → e.on ≠ i) → oi.apart ops oj = true) →
      i ∈ Region.ready md ops listed → YieldsAt P ops w oi v a →
      wpX2 P md ops Q E S L fuel (listed.setIfInBounds i true) (a.put oi.dst v) w → wpX2 P md ops Q E S L (fuel + 1) listed a w := by
  intro fuel
  induction fuel with
  | zero =>
    intro listed a _ _ _ hr hy H
    refine ⟨fun h => (by rw [h] at hr; cases hr), fun j hj => ?_⟩
    by_cases hji : j = i
    · subst hji
      exact ⟨fun h => (by rw [hE] at h; cases h), fun _ => hy.stOp hi H⟩
    · have := ready_mono hj hji
      rw [H.1] at this
      cases this
  | succ fuel ih =>
    intro listed a hl0 hlc hfree hr hy H
    refine ⟨fun h => (by rw [h] at hr; cases hr), fun j hj => ?_⟩
    by_cases hji : j = i
    · subst hji
      exact ⟨fun h => (by rw [hE] at h; cases h), fun _ => hy.stOp hi H⟩
    · have h1 := H.2 j (ready_mono hj hji)
      obtain ⟨hjun, oj, hoj, hall⟩ := mem_ready.1 hj
      have hjlt : j < ops.size := (Array.getElem?_eq_some_iff.1 hoj).1
      have hs := noE_spec hno j hjlt
      have hcj : c.getD j false = true := hs.2.1 hji oj hoj fun e he hb => hlc _ (by simpa using hall e he hb)
      have hEj : E j = false := by
        cases hEj : E j with
        | false => rfl
        | true => have := hl0 j (hs.2.2 hEj hcj); rw [hjun] at this; cases this
      have hnot : ∀ e ∈ oj.after, Region.binds md e = true → e.on ≠ i := fun e he hb heq => by
        have h1 := hall e he hb
        have h0 := (mem_ready.1 hr).1
        rw [heq] at h1
        rcases Nat.lt_or_ge i listed.size with h' | h'
        · simp [h'] at h0 h1; rw [h0] at h1; cases h1
        · simp [Array.getElem?_eq_none h'] at h1
      have hap := hfree j oj hoj hji hjun hnot
      have hfree' : ∀ k ok, ops[k]? = some ok → k ≠ i → (listed.setIfInBounds j true).getD k true = false →
          (∀ e ∈ ok.after, Region.binds md e = true → e.on ≠ i) → oi.apart ops ok = true := fun k ok hk hki hun hno => by
        refine hfree k ok hk hki ?_ hno
        by_cases hjk : j = k
        · subst hjk; exact hjun
        · rw [getD_set_ne true hjk] at hun; exact hun
      refine ⟨fun h => (by rw [hEj] at h; cases h), fun _ => ?_⟩
      have h2 := stOp_put hoj hap (fun cs b => hsel i oi cs b hi) (fun cs b => hsel j oj cs b hoj) hy (h1.2 hEj)
      refine stOp_mono (fun a' h3 => ih (listed.setIfInBounds j true) a' (fun k hk => ?_) (fun k hk => ?_) hfree' (ready_mono hr (Ne.symm hji)) h3.1 ?_) h2
      · by_cases hjk : j = k
        · subst hjk
          rcases Nat.lt_or_ge j listed.size with h' | h'
          · simp [h']
          · simp
        · rw [getD_set_ne true hjk]; exact hl0 k hk
      · by_cases hjk : j = k
        · subst hjk; exact hcj
        · rw [getD_set_ne false hjk] at hk; exact hlc k hk
      · rw [Array.setIfInBounds_comm _ _ hji]
        exact h3.2
end
/-- what is to be walked -/
def wpSched2 (P : Program) (ops : Array Oper) (Q : Exit → Act → World → Prop) (S : World → Prop) (L : Nat) : List (Nat × Kd) → Act → World → Prop
  | [], a, w => Q .normal a w
  | (i, .r) :: rest, a, w => stOp P ops w i (fun a' => wpSched2 P ops Q S L rest a' w) a
  | (i, .h) :: rest, a, w => ∃ o v, ops[i]? = some o ∧ YieldsIf P ops S o v a ∧ wpSched2 P ops Q S L rest (a.put o.dst v) w
  | (i, .e) :: rest, a, w => wpOp P ops Q i (fun a' w' => (i ≠ L → S w') ∧ wpSched2 P ops Q S L rest a' w') a w
section
variable {P : Program} {ops : Array Oper} {Q : Exit → Act → World → Prop} {S : World → Prop} {L : Nat}
theorem sched_sound2 {E : Nat → Bool} (hsel : Region.noSelect ops = true) (hQ : ∀ c a x v w, Q (.panic c) (Act.put a x v) w → Q (.panic c) a w) :
    ∀ (l : List (Nat × Kd)) (listed : Array Bool) (a : Act) (w : World), schedB .any ops E l listed = true → endB ops L l = true → (l ≠ [] → S w) → wpSched2 P ops Q S L l a w →
      wpX2 P .any ops Q E S L l.length listed a w
  | [], listed, a, w, hB, _, _, h => ⟨by simpa [schedB] using hB, h⟩
  | (i, .r) :: rest, listed, a, w, hB, hN, hS, h => by
    have hN2 := endB_tail hN
    simp only [schedB, Bool.and_eq_true, Bool.not_eq_true'] at hB
    obtain ⟨⟨⟨⟨hE, hr⟩, hf⟩, hno⟩, hB'⟩ := hB
    have hr' : i ∈ Region.ready .any ops listed := by simpa using hr
    obtain ⟨_, oi, hi, _⟩ := mem_ready.1 hr'
    obtain ⟨v, hy, hk⟩ := yieldsAt_of_stOp hi h
    have hc : ∀ j, listed.getD j false = true → (closeB .any ops i 1 listed).getD j false = true := fun j hj => by
      rcases Nat.lt_or_ge j ops.size with hlt | hge
      · exact (noE_spec hno j hlt).1 hj
      · exact sched_sound.closeB_ge listed i 1 j hj
    exact wpX2_firstR hi (Region.noSelect_spec hsel) hE listed _ hno rest.length listed a (fun j hj => hj) hc (Region.free_spec hi hf) hr' hy
      (sched_sound2 hsel hQ rest _ _ w hB' hN2 (fun _ => hS (by simp)) hk)
  | (i, .h) :: rest, listed, a, w, hB, hN, hS, h => by
    have hN2 := endB_tail hN
    simp only [schedB, Bool.and_eq_true, Bool.not_eq_true'] at hB
    obtain ⟨⟨⟨hE, hr⟩, hf⟩, hB'⟩ := hB
    have hr' : i ∈ Region.ready .any ops listed := by simpa using hr
    obtain ⟨oi, v, hi, hy, hk⟩ := h
    exact wpX2_firstH hi (Region.noSelect_spec hsel) (fun c a w => hQ c a _ _ w) hE (endB_dep hN) rest.length listed a w (Region.free_spec hi hf) hr' hy (hS (by simp))
      (sched_sound2 hsel hQ rest _ _ w hB' hN2 (fun _ => hS (by simp)) hk)
  | (i, .e) :: rest, listed, a, w, hB, hN, hS, h => by
    have hN2 := endB_tail hN
    simp only [schedB, Bool.and_eq_true] at hB
    obtain ⟨⟨hE, hr⟩, hB'⟩ := hB
    have hr' : Region.ready .any ops listed = [i] := by simpa using hr
    refine ⟨fun h0 => (by rw [h0] at hr'; cases hr'), fun j hj => ?_⟩
    rw [hr'] at hj
    obtain rfl : j = i := by simpa using hj
    refine ⟨fun _ => wpOp_mono (fun a' w' hk => ⟨hk.1, sched_sound2 hsel hQ rest _ a' w' hB' hN2 (fun hne => hk.1 fun e => hne (endB_last hN e)) hk.2⟩) h, fun h0 => (by rw [h0] at hE; cases hE)⟩

/-- A REGION THAT DRAWS ITS ORDER, by one schedule. -/
theorem wp_region_sched2 {id : Nat} {a : Act} {w : World} {l : List Oper} (S : World → Prop) (L : Nat) (s : List (Nat × Kd)) (hm : P.follows .mixedOrders = true)
    (hB : okB l.toArray s = true) (hN : endB l.toArray L s = true) (hS : S w.drew) (hQ : ∀ c a x v w, Q (.panic c) (Act.put a x v) w → Q (.panic c) a w)
    (h : wpSched2 P l.toArray Q S L s a w.drew) : (Code.region id l.toArray true).wp P Q a w := by
  simp only [okB, Bool.and_eq_true, beq_iff_eq] at hB
  obtain ⟨⟨h1, h2⟩, h3⟩ := hB
  refine wp_region_any hm (wpAny_of_x2 (E := isE s) (S := S) (L := L) _ _ _ _ ?_)
  rw [← h2]
  rw [← h2] at h3
  exact sched_sound2 h1 hQ s _ a w.drew h3 hN (fun _ => hS) h

end

/-! ### behind a wall -/
structure WT (P : Program) (ops : Array Oper) (Q : Exit → Act → World → Prop) (S : World → Prop) (L : Nat) (l : List (Nat × Kd)) (a : Act) (w : World) : Prop where
  out : wpSched2 P ops Q S L l a w
section
variable {P : Program} {ops : Array Oper} {Q : Exit → Act → World → Prop} {S : World → Prop} {L : Nat}
theorem wt_q {i : Nat} {rest : List (Nat × Kd)} {a : Act} {w : World} {o : Oper} (ho : ops[i]? = some o) (hq : quietW o.op = true)
    (h : wpList P ops (Exit.then (fun a' w' => AtS w (WT P ops Q S L rest a' w) w') (fun _ _ _ => False)) [o] a w) : WT P ops Q S L ((i, .r) :: rest) a w := by
  refine ⟨?_⟩
  unfold wpList at h
  unfold wpSched2 stOp
  simp only [ho]
  split
  · rename_i hw
    rw [if_pos hw] at h
    rcases h with h | ⟨_, a', w', h⟩
    · exact still_of_wp2 hq (Go.Oper.wp_mono (fun _ _ h => ⟨h.1, h.2.out⟩) (Oper.wp_then h))
    · exact h.elim
  · rename_i hw
    rw [if_neg hw] at h
    exact h.2.out
theorem wt_e {i : Nat} {rest : List (Nat × Kd)} {a : Act} {w : World} {o : Oper} (ho : ops[i]? = some o)
    (h : wpList P ops (Exit.then (fun a' w' => MetT (fun w' => i ≠ L → S w') (WT P ops Q S L rest a' w') w') Q) [o] a w) : WT P ops Q S L ((i, .e) :: rest) a w := by
  refine ⟨?_⟩
  unfold wpList at h
  unfold wpSched2 wpOp
  simp only [ho]
  split
  · rename_i hw
    rw [if_pos hw] at h
    exact h.imp (fun h => Go.Oper.wp_mono (fun _ _ h => ⟨h.1, h.2.out⟩) (Oper.wp_then h)) id
  · rename_i hw
    rw [if_neg hw] at h
    exact ⟨h.1, h.2.out⟩
theorem wt_h {i : Nat} {rest : List (Nat × Kd)} {a : Act} {w : World} {o : Oper} {v : Value} (ho : ops[i]? = some o)
    (hw : Region.wanted o (yielded ops a.tmps) = true) (hv : ∀ w', S w' → (execOp a.eval o).run P w' = .ok (.value v) w')
    (h : WT P ops Q S L rest (a.put o.dst v) w) : WT P ops Q S L ((i, .h) :: rest) a w := ⟨⟨o, v, ho, .inl ⟨hw, hv⟩, h.out⟩⟩
theorem wt_nil {a : Act} {w : World} (h : Q .normal a w) : WT P ops Q S L [] a w := ⟨h⟩
end
theorem wt_region {P : Program} {Q : Exit → Act → World → Prop} {id : Nat} {a : Act} {w : World} {l : List Oper} (S : World → Prop) (L : Nat) (s : List (Nat × Kd)) (hm : P.follows .mixedOrders = true)
    (hB : okB l.toArray s = true) (hN : endB l.toArray L s = true) (hS : S w.drew) (hQ : ∀ c a x v w, Q (.panic c) (Act.put a x v) w → Q (.panic c) a w)
    (h : WT P l.toArray Q S L s a w.drew) : (Code.region id l.toArray true).wp P Q a w := wp_region_sched2 S L s hm hB hN hS hQ h.out
end Go.Rx
