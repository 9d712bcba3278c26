/- A schedule that is walked, behind a wall: the same steps as XRx's, over a structure that nothing unfolds (where many operations are skipped by a guard, unfolding runs through the whole schedule). Conditions: each step's own. -/
import Derived.Test.YtaiaghfckhgnnaaGreatDoorRx
namespace Go.Rx
open Go
set_option linter.unusedVariables false
section
variable {P : Program} {ops : Array Oper} {Q : Exit → Act → World → Prop} {S : World → Prop}

structure WS (P : Program) (ops : Array Oper) (Q : Exit → Act → World → Prop) (S : World → Prop) (l : List (Nat × Kd)) (a : Act) (w : World) : Prop where
  out : wpSched P ops Q S l a w
structure AtS (w : World) (p : Prop) (w' : World) : Prop where
  same : w' = w
  out : p
structure MetT (S : World → Prop) (p : Prop) (w' : World) : Prop where
  met : S w'
  out : p
theorem atS_mk {w : World} {p : Prop} (h : p) : AtS w p w := ⟨rfl, h⟩

/-- the quiet operations, and a slice taken as an array's pointer -/
def quietW : Op → Bool
  | .sliceToArrayPointer .. => true
  | o => quietOp o
theorem quietW_value {o : Oper} (hq : quietW o.op = true) (ρ : Operand → Value) : Vals P (execOp ρ o) := by
  by_cases h : quietOp o.op = true
  · exact quiet_value h ρ
  · unfold execOp
    split <;> rename_i ho <;> rw [ho] at hq h <;> first
      | (exact absurd hq h)
      | (exact vals_bind fun x => vals_pure _)
theorem still_of_wp2 {o : Oper} {a : Act} {w : World} {p : Act → Prop} (hq : quietW o.op = true)
    (h : o.wp P a w (fun a' w' => AtW w (p a') w') (fun _ _ _ => False)) : o.still P a w p := by
  have hv := quietW_value (P := P) hq a.eval
  unfold Oper.wp at h
  unfold Oper.still
  cases hr : (execOp a.eval o).run P w with
  | ok n w' =>
    obtain ⟨v, rfl⟩ := hv w n w' hr
    rw [hr] at h
    exact h
  | halt x w' =>
    rw [hr] at h
    cases x <;> simp [Oper.upon] at h

theorem ws_q {i : Nat} {rest : List (Nat × Kd)} {a : Act} {w : World} {o : Oper} (ho : ops[i]? = some o) (hq : quietW o.op = true)
    (h : wpList P ops (Exit.then (fun a' w' => AtS w (WS P ops Q S rest a' w) w') (fun _ _ _ => False)) [o] a w) : WS P ops Q S ((i, .r) :: rest) a w := by
  refine ⟨?_⟩
  unfold wpList at h
  unfold wpSched stOp
  simp only [ho]
  split
  · rename_i hw
    rw [if_pos hw] at h
    rcases h with h | ⟨_, a', w', h⟩
    · exact still_of_wp2 hq (Go.Oper.wp_mono (fun _ _ h => ⟨h.1, h.2.out⟩) (Oper.wp_then h))
    · exact h.elim
  · rename_i hw
    rw [if_neg hw] at h
    exact h.2.out
theorem ws_e {i : Nat} {rest : List (Nat × Kd)} {a : Act} {w : World} {o : Oper} (ho : ops[i]? = some o)
    (h : wpList P ops (Exit.then (fun a' w' => MetT S (WS P ops Q S rest a' w') w') Q) [o] a w) : WS P ops Q S ((i, .e) :: rest) a w := by
  refine ⟨?_⟩
  unfold wpList at h
  unfold wpSched wpOp
  simp only [ho]
  split
  · rename_i hw
    rw [if_pos hw] at h
    exact h.imp (fun h => Go.Oper.wp_mono (fun _ _ h => ⟨h.1, h.2.out⟩) (Oper.wp_then h)) id
  · rename_i hw
    rw [if_neg hw] at h
    exact ⟨h.1, h.2.out⟩
theorem ws_h {i : Nat} {rest : List (Nat × Kd)} {a : Act} {w : World} {o : Oper} {v : Value} (ho : ops[i]? = some o)
    (hw : Region.wanted o (yielded ops a.tmps) = true) (hv : ∀ w', S w' → (execOp a.eval o).run P w' = .ok (.value v) w')
    (h : WS P ops Q S rest (a.put o.dst v) w) : WS P ops Q S ((i, .h) :: rest) a w := ⟨wpSched_h ho hw hv h.out⟩
theorem ws_nil {a : Act} {w : World} (h : Q .normal a w) : WS P ops Q S [] a w := ⟨h⟩
end
theorem ws_region {P : Program} {Q : Exit → Act → World → Prop} {id : Nat} {a : Act} {w : World} {l : List Oper} (S : World → Prop) (s : List (Nat × Kd)) (hm : P.follows .mixedOrders = true)
    (hB : okB l.toArray s = true) (hS : S w.drew) (hQ : ∀ c a x v w, Q (.panic c) (Act.put a x v) w → Q (.panic c) a w)
    (h : WS P l.toArray Q S s a w.drew) : (Code.region id l.toArray true).wp P Q a w := wp_region_sched S s hm hB hS hQ h.out
end Go.Rx
