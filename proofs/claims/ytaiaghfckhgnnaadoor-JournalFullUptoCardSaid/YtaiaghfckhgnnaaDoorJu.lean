/- journal.fault, given; api.Code. Conditions: the handle of the type 'error' lies as it was laid. -/
import Derived.Test.YtaiaghfckhgnnaaDoorJt
namespace Go.Proofs
open Go.RowKit Go.Hp Go.Dm Go.Dr Go.Jn
set_option linter.unusedVariables false
set_option maxRecDepth 10000
/-- an Errno as an error -/
def errV (e : Nat) : Value := .iface 25 (.int .i64 (e : Int))
/-- a fault as an error -/
def faultV (b : Nat) : Value := .iface 88 (.pointer (some ⟨b, 0, none⟩))
/-- what a fault holds -/
def faultO (nm : ByteArray) (at_ : Int) (e : Nat) : Obj := .cells #[.string nm, .int .i64 at_, errV e] 90
section
variable {w : World}
set_option maxHeartbeats 4000000 in
theorem fault_any (hg : Gl w) (nm : ByteArray) (at_ : Int) (e : Nat) :
    Calls Tryd.prog 26 #[.string nm, .int .i64 at_, errV e] w fun ev w' => ∃ b, ev = .returned (faultV b) ∧ w.heap.size ≤ b ∧ w'.heap[b]? = some (faultO nm at_ e) ∧ Chg (fun _ => False) w w' := by
  have ha := as_errno (w := w.alloc (.cells #[.int .i64 0] 25)) (hg.chg ((Chg.refl _ w).alloc _)) (e : Int) ⟨w.heap.size, 0, none⟩ (.int .i64 0) (by rw [hcell_of (halloc_at w _)]; rfl) (hfree_of (halloc_at w _) 0)
  have HA := Lib.hid ha
  clear ha hg
  unfold errV
  go_enter Tryd.func26, Tryd.ntmps26
  go_wp2_with (first | (go_at_call 37; refine stop ?_))
  refine go ?_
  refine HA.out.mono ?_
  rintro ev w2 ⟨rfl, w1, c1, rfl⟩
  have hb : (w1.setCell ⟨w.heap.size, 0, none⟩ (.int .i64 (e : Int))).heap[w.heap.size]? = some (.cells #[.int .i64 (e : Int)] 25) := by
    have h1 := c1.block w.heap.size (by simp) (fun h => h)
    rw [halloc_at] at h1
    exact hset_same h1 0 _
  have k0 := hcell_of hb 0
  simp only [List.getElem?_toArray, List.getElem?_cons_zero] at k0
  have hc : Chg (fun _ => False) w (w1.setCell ⟨w.heap.size, 0, none⟩ (.int .i64 (e : Int))) := (((Chg.refl (fun _ => False) w).alloc _).trans c1 fun _ h => h.elim).setCell (p := ⟨w.heap.size, 0, none⟩) (.inr (Nat.le_refl _)) _
  generalize w1.setCell ⟨w.heap.size, 0, none⟩ (.int .i64 (e : Int)) = w3 at hc k0 ⊢
  have HC := Lib.hid hc
  clear c1 hb hc
  go_wp2
  go_ret
  refine ⟨w3.heap.size, rfl, HC.out.size, ?_, HC.out.alloc _⟩
  exact halloc_at w3 _
theorem code_nil : Calls Tryd.prog 11 #[.nilIface] w fun ev w' => ev = .returned (.int .i64 0) ∧ w = w' := by
  go_enter Tryd.func11, Tryd.ntmps11
  go_wp2
  go_ret
  exact ⟨rfl, rfl⟩
set_option maxHeartbeats 4000000 in
theorem code_any (hg : Gl w) (f : Nat) (nm : ByteArray) (at_ : Int) (e : Nat) (hf : w.heap[f]? = some (faultO nm at_ e)) :
    Calls Tryd.prog 11 #[faultV f] w fun ev w' => ev = .returned (.int .i64 (e : Int)) ∧ Chg (fun _ => False) w w' := by
  have hfl : f < w.heap.size := hlt_of hf
  have ha := as_fault (w := w.alloc (.cells #[.int .i64 0] 25)) (hg.chg ((Chg.refl _ w).alloc _)) (e : Int) f (by
    have h1 : (w.alloc (.cells #[.int .i64 0] 25)).heap[f]? = _ := (halloc_lt hfl).trans hf
    exact hcell_of h1 2) ⟨w.heap.size, 0, none⟩ (.int .i64 0) (by rw [hcell_of (halloc_at w _)]; rfl) (hfree_of (halloc_at w _) 0)
  have HA := Lib.hid ha
  clear ha hg hf
  unfold faultV
  go_enter Tryd.func11, Tryd.ntmps11
  go_wp2_with (first | (go_at_call 37; refine stop ?_))
  refine go ?_
  refine HA.out.mono ?_
  rintro ev w2 ⟨rfl, w1, c1, rfl⟩
  have hb : (w1.setCell ⟨w.heap.size, 0, none⟩ (.int .i64 (e : Int))).heap[w.heap.size]? = some (.cells #[.int .i64 (e : Int)] 25) := by
    have h1 := c1.block w.heap.size (by simp) (fun h => h)
    rw [halloc_at] at h1
    exact hset_same h1 0 _
  have k0 := hcell_of hb 0
  simp only [List.getElem?_toArray, List.getElem?_cons_zero] at k0
  have hc : Chg (fun _ => False) w (w1.setCell ⟨w.heap.size, 0, none⟩ (.int .i64 (e : Int))) := (((Chg.refl (fun _ => False) w).alloc _).trans c1 fun _ h => h.elim).setCell (p := ⟨w.heap.size, 0, none⟩) (.inr (Nat.le_refl _)) _
  generalize w1.setCell ⟨w.heap.size, 0, none⟩ (.int .i64 (e : Int)) = w3 at hc k0 ⊢
  have HC := Lib.hid hc
  clear c1 hb hc
  go_wp2
  go_ret
  exact ⟨rfl, HC.out⟩
/-- an Errno as an error, or nil -/
def givenV (e : Nat) : Value := if e = 0 then .nilIface else errV e
theorem given_any (e : Nat) : Calls Tryd.prog 36 #[.int .i64 (e : Int)] w fun ev w' => ev = .returned (givenV e) ∧ w = w' := by
  by_cases he : e = 0
  · subst he
    go_enter Tryd.func36, Tryd.ntmps36
    go_wp2
    go_ret
    exact ⟨rfl, rfl⟩
  · have h1 : ((e : Int) == 0) = false := by rw [beq_eq_false_iff_ne]; omega
    unfold givenV
    rw [if_neg he]
    have HE := Lib.hid he
    clear he
    go_enter Tryd.func36, Tryd.ntmps36
    go_wp2
    go_ret
    exact ⟨rfl, rfl⟩
end
end Go.Proofs
