/- errors.As at a target of the type Errno: an Errno; a Fault that holds one. Conditions: the handle of the type 'error' lies as it was laid; the target's cell may be written. errors.As at a Fault; journal.fault, journal.given, api.Code. Conditions: each sentence's own. -/
import Derived.Test.YtaiaghfckhgnnaaDoorJe
import Derived.LaidEql
import Derived.Stop.Asserts
import Derived.RowKitTokens
import Derived.Test.YtaiaghfckhgnnaaDoorJm
namespace Go.Proofs
open Go.RowKit Go.Hp Go.Dm Go.Dr Go.Jn Go.Extern.Stop Go.Stop Go.Extern
set_option linter.unusedVariables false
set_option maxRecDepth 10000
/-! ### closed facts on the model's entries for internal/reflectlite, at Errno and its pointer -/
theorem as_valueOfP (t : Addr) (w : World) : (ReflectliteValue.unpack (.iface 71 (.pointer (some t)))).run Tryd.prog w
    = .ok (.agg #[.pointer (some ⟨3, 71, none⟩), .pointer (some ⟨w.heap.size, 0, none⟩), .int .u64 150]) (w.alloc (.cells #[.pointer (some t)] 71)) := by kernel_rfl
theorem as_typeP (a : Addr) (w : World) : (ReflectliteValue.methodAny (ReflectliteValue.valueError "reflectlite.Value.Type" 0) (fun t _ _ _ => ReflectliteType.toType t) #[.agg #[.pointer (some ⟨3, 71, none⟩), .pointer (some a), .int .u64 150]]).run Tryd.prog w
    = .ok (.iface 115 (.agg #[.pointer (some ⟨3, 71, none⟩)])) w := by kernel_rfl
theorem as_kindP (w : World) : ((ReflectliteType.abiMethod fun t => (fun a : Nat => Value.int IntKind.u8 (a : Int)) <$> Rtype.kind t) #[.pointer (some ⟨3, 71, none⟩)]).run Tryd.prog w = .ok (.int .u8 22) w := by kernel_rfl
theorem as_kindE (w : World) : ((ReflectliteType.abiMethod fun t => (fun a : Nat => Value.int IntKind.u8 (a : Int)) <$> Rtype.kind t) #[.pointer (some ⟨3, 25, none⟩)]).run Tryd.prog w = .ok (.int .u8 2) w := by kernel_rfl
theorem as_rlm (z : Sem Value) (f : TypeId → Addr → Nat → Nat → Sem Value) (v : Value) :
    ReflectliteValue.method z f #[v] = (do match ← ReflectliteValue.parts v with | none => z | some (t, a, fl) => f t a fl (fl % 32)) := rfl
theorem as_partsP (a : Addr) (w : World) : (ReflectliteValue.parts (.agg #[.pointer (some ⟨3, 71, none⟩), .pointer (some a), .int .u64 150])).run Tryd.prog w = .ok (some (71, a, 150)) w := by kernel_rfl
theorem as_isNilP (a p : Addr) (W : World) (ha : W.cell? a = some (.pointer (some p))) :
    (ReflectliteValue.method (ReflectliteValue.valueError "reflectlite.Value.IsNil" 0) ReflectliteValue.isNil #[.agg #[.pointer (some ⟨3, 71, none⟩), .pointer (some a), .int .u64 150]]).run Tryd.prog W = .ok (.bool false) W := by
  rw [as_rlm]
  simp only [Sem.run_bind, as_partsP, Result.andThen]
  simp [ReflectliteValue.isNil, loadVar, isAgg, underlying, Tryd.underlying71, ha, Result.andThen]
theorem as_elemP (w : World) : (ReflectliteType.method ReflectliteType.elem #[.agg #[.pointer (some ⟨3, 71, none⟩)]]).run Tryd.prog w = .ok (.iface 115 (.agg #[.pointer (some ⟨3, 25, none⟩)])) w := by kernel_rfl
theorem as_implE (w : World) : (ReflectliteType.relation "Implements" ReflectliteType.implements_ #[.agg #[.pointer (some ⟨3, 25, none⟩)], .iface 115 (.agg #[.pointer (some ⟨3, 30, none⟩)])]).run Tryd.prog w = .ok (.bool true) w := by kernel_rfl
theorem as_typeOfE (v : Value) (w : World) : (ReflectliteType.typeOf #[.iface 25 v]).run Tryd.prog w = .ok (.iface 115 (.agg #[.pointer (some ⟨3, 25, none⟩)])) w := by kernel_rfl
theorem as_typeOfF (v : Value) (w : World) : (ReflectliteType.typeOf #[.iface 88 v]).run Tryd.prog w = .ok (.iface 115 (.agg #[.pointer (some ⟨3, 88, none⟩)])) w := by kernel_rfl
theorem as_asgE (w : World) : (ReflectliteType.relation "AssignableTo" ReflectliteType.assignableTo #[.agg #[.pointer (some ⟨3, 25, none⟩)], .iface 115 (.agg #[.pointer (some ⟨3, 25, none⟩)])]).run Tryd.prog w = .ok (.bool true) w := by kernel_rfl
theorem as_asgF (w : World) : (ReflectliteType.relation "AssignableTo" ReflectliteType.assignableTo #[.agg #[.pointer (some ⟨3, 88, none⟩)], .iface 115 (.agg #[.pointer (some ⟨3, 25, none⟩)])]).run Tryd.prog w = .ok (.bool false) w := by kernel_rfl
theorem as_valueOfE (e : Int) (w : World) : (ReflectliteValue.unpack (.iface 25 (.int .i64 e))).run Tryd.prog w
    = .ok (.agg #[.pointer (some ⟨3, 25, none⟩), .pointer (some ⟨w.heap.size, 0, none⟩), .int .u64 130]) (w.alloc (.cells #[.int .i64 e] 25)) := by kernel_rfl
theorem as_elemOfP (w : World) : (Rtype.elem? 71).run Tryd.prog w = .ok (some 25) w := by kernel_rfl
theorem as_mkE (p : Addr) (w : World) : (ReflectliteValue.mk 25 p ReflectliteValue.flagAddr).run Tryd.prog w = .ok (.agg #[.pointer (some ⟨3, 25, none⟩), .pointer (some p), .int .u64 386]) w := by kernel_rfl
theorem as_elemVP (a p : Addr) (W : World) (ha : W.cell? a = some (.pointer (some p))) :
    (ReflectliteValue.method (ReflectliteValue.valueError "reflectlite.Value.Elem" 0) ReflectliteValue.elem #[.agg #[.pointer (some ⟨3, 71, none⟩), .pointer (some a), .int .u64 150]]).run Tryd.prog W
      = .ok (.agg #[.pointer (some ⟨3, 25, none⟩), .pointer (some p), .int .u64 386]) W := by
  rw [as_rlm]
  simp only [Sem.run_bind, as_partsP, Result.andThen]
  simp [ReflectliteValue.elem, loadVar, isAgg, underlying, Tryd.underlying71, ha, Result.andThen, as_elemOfP, as_mkE]
theorem as_rls (v x : Value) : ReflectliteValue.set #[v, x] = (do
    let (some (dst, a, fl), some (src, b, _)) := (← ReflectliteValue.parts v, ← ReflectliteValue.parts x)
      | unsupported (.noEntry "extern/(internal/reflectlite.Value).Set.zeroValue")
    if fl / ReflectliteValue.flagAddr % 2 == 0 then unsupported (.noEntry "extern/(internal/reflectlite.Value).Set.unaddressable")
    let val ← loadVar src b
    if ← Rtype.directlyAssignable dst src then storeVar dst a val
    else if ← Rtype.implements dst src then
      if (← Rtype.kind src) == 20 then
        match val with
        | .nilIface => unsupported (.noEntry "extern/reflectlite: a nil value of one interface type handed on as a value of another")
        | _ => storeVar dst a val
      else storeVar dst a (.iface src val)
    else panicString ("reflectlite.Set: value of type " ++ (← Rtype.spelt src) ++ " is not assignable to type " ++ (← Rtype.spelt dst))
    pure (.tuple #[])) := rfl
theorem as_partsEa (a : Addr) (w : World) : (ReflectliteValue.parts (.agg #[.pointer (some ⟨3, 25, none⟩), .pointer (some a), .int .u64 386])).run Tryd.prog w = .ok (some (25, a, 386)) w := by kernel_rfl
theorem as_partsE (a : Addr) (w : World) : (ReflectliteValue.parts (.agg #[.pointer (some ⟨3, 25, none⟩), .pointer (some a), .int .u64 130])).run Tryd.prog w = .ok (some (25, a, 130)) w := by kernel_rfl
theorem as_directE (w : World) : (Rtype.directlyAssignable 25 25).run Tryd.prog w = .ok true w := by kernel_rfl
theorem as_setE (ta b : Addr) (e : Int) (old : Value) (W : World) (hb : W.cell? b = some (.int .i64 e)) (ht : W.cell? ta = some old) (hf : W.frozen? ta = false) :
    (ReflectliteValue.set #[.agg #[.pointer (some ⟨3, 25, none⟩), .pointer (some ta), .int .u64 386], .agg #[.pointer (some ⟨3, 25, none⟩), .pointer (some b), .int .u64 130]]).run Tryd.prog W
      = .ok (.tuple #[]) (W.setCell ta (.int .i64 e)) := by
  rw [as_rls]
  simp only [Sem.run_bind, as_partsEa, as_partsE, Result.andThen]
  simp [ReflectliteValue.flagAddr, loadVar, isAgg, underlying, Tryd.underlying25, hb, Result.andThen, as_directE, storeVar, Value.cells, storeCells, Addr.add]
  rw [run_store Tryd.prog W ta _ _ (by rfl)]
  simp [ht, hf]
theorem as_methodKind (h : Value) (w : World) : (Go.method 282 115 (.agg #[h]) "Kind").run Tryd.prog w = .ok (103, h) w := by kernel_rfl
theorem as_methodElem (h : Value) (w : World) : (Go.method 282 115 (.agg #[h]) "Elem").run Tryd.prog w = .ok (116, .agg #[h]) w := by kernel_rfl
theorem as_methodImplements (h : Value) (w : World) : (Go.method 282 115 (.agg #[h]) "Implements").run Tryd.prog w = .ok (117, .agg #[h]) w := by kernel_rfl
theorem as_methodAssignableTo (h : Value) (w : World) : (Go.method 282 115 (.agg #[h]) "AssignableTo").run Tryd.prog w = .ok (114, .agg #[h]) w := by kernel_rfl
theorem as_methodUnwrap (h : Addr) (w : World) : (Go.method 282 88 (.pointer (some h)) "Unwrap").run Tryd.prog w = .ok (109, .pointer (some h)) w := by kernel_rfl
end Go.Proofs
namespace Go.Proofs
open Go.RowKit Go.Hp Go.Dm Go.Dr Go.Jn Go.Extern.Stop Go.Stop Go.Extern
set_option linter.unusedVariables false
set_option maxRecDepth 10000
set_option maxHeartbeats 8000000 in
theorem as_errno {w : World} (hg : Gl w) (e : Int) (t : Addr) (old : Value) (ht0 : w.cell? t = some old) (hf0 : w.frozen? t = false) :
    Calls Tryd.prog 37 #[.iface 25 (.int .i64 e), .iface 71 (.pointer (some t))] w fun ev w' => ev = .returned (.bool true) ∧ ∃ w1, Chg (fun _ => False) w w1 ∧ w' = w1.setCell t (.int .i64 e) := by
  have hgc := hg.err
  obtain ⟨W2, hW2⟩ : ∃ W2, W2 = (w.alloc (.cells #[.pointer (some t)] 71)).alloc (.cells #[.pointer (some ⟨3, 71, none⟩), .pointer (some ⟨w.heap.size, 0, none⟩), .int .u64 150] 96) := ⟨_, rfl⟩
  have n8 := as_isNilP ⟨w.heap.size, 0, none⟩ t ((w.alloc (.cells #[.pointer (some t)] 71)).alloc (.cells #[.pointer (some ⟨3, 71, none⟩), .pointer (some ⟨w.heap.size, 0, none⟩), .int .u64 150] 96)) (by simp)
  have hlt : 1 < w.heap.size := hg.lt
  have hg2 : ((w.alloc (.cells #[.pointer (some t)] 71)).alloc (.cells #[.pointer (some ⟨3, 71, none⟩), .pointer (some ⟨w.heap.size, 0, none⟩), .int .u64 150] 96)).cell? ⟨0, 0, none⟩ = some (.iface 115 (.agg #[.pointer (some ⟨3, 30, none⟩)])) := by
    rw [World.cell?_alloc_lt _ _ ⟨0, 0, none⟩ (by show 0 < _; simp; try omega), World.cell?_alloc_lt _ _ ⟨0, 0, none⟩ (by show 0 < w.heap.size; omega)]; exact hgc
  have htl : t.block < w.heap.size := by
    rcases Nat.lt_or_ge t.block w.heap.size with h | h
    · exact h
    · simp [World.cell?, Array.getElem?_eq_none h] at ht0
  have el := as_elemVP ⟨w.heap.size, 0, none⟩ t (((w.alloc (.cells #[.pointer (some t)] 71)).alloc (.cells #[.pointer (some ⟨3, 71, none⟩), .pointer (some ⟨w.heap.size, 0, none⟩), .int .u64 150] 96)).alloc (.cells #[.pointer (some ⟨3, 71, none⟩), .pointer (some ⟨w.heap.size, 0, none⟩), .int .u64 150] 96)) (by rw [World.cell?_alloc_lt _ _ ⟨w.heap.size, 0, none⟩ (by simp; omega)]; simp)
  have st := as_setE t ⟨w.heap.size + 1 + 1 + 1, 0, none⟩ e old ((((w.alloc (.cells #[.pointer (some t)] 71)).alloc (.cells #[.pointer (some ⟨3, 71, none⟩), .pointer (some ⟨w.heap.size, 0, none⟩), .int .u64 150] 96)).alloc (.cells #[.pointer (some ⟨3, 71, none⟩), .pointer (some ⟨w.heap.size, 0, none⟩), .int .u64 150] 96)).alloc (.cells #[.int .i64 e] 25))
    (by rw [World.cell?_alloc_at _ _ _ _ (by simp)]; rfl)
    (by rw [World.cell?_alloc_lt _ _ t (by simp; omega), World.cell?_alloc_lt _ _ t (by simp; omega), World.cell?_alloc_lt _ _ t (by simp; omega), World.cell?_alloc_lt _ _ t htl]; exact ht0)
    (by rw [World.frozen?_alloc_old _ _ t (by simp; omega), World.frozen?_alloc_old _ _ t (by simp; omega), World.frozen?_alloc_old _ _ t (by simp; omega), World.frozen?_alloc_old _ _ t (Nat.ne_of_lt htl)]; exact hf0)
  clear hW2
  have h49 := @run_callFunc_extern Tryd.prog 49 _ (fun args => ReflectliteValue.unpack (args.getD 0 (.tuple #[]))) Tryd.func49 (by kernel_rfl) (by kernel_rfl) (by kernel_rfl) (by kernel_rfl)
  have h50 := @run_callFunc_extern Tryd.prog 50 _ (ReflectliteValue.methodAny (ReflectliteValue.valueError "reflectlite.Value.Type" 0) (fun t _ _ _ => ReflectliteType.toType t)) Tryd.func50 (by kernel_rfl) (by kernel_rfl) (by kernel_rfl) (by kernel_rfl)
  have h51 := @run_callFunc_extern Tryd.prog 51 _ (ReflectliteValue.method (ReflectliteValue.valueError "reflectlite.Value.IsNil" 0) ReflectliteValue.isNil) Tryd.func51 (by kernel_rfl) (by kernel_rfl) (by kernel_rfl) (by kernel_rfl)
  have h103 := @run_callFunc_extern Tryd.prog 103 _ (ReflectliteType.abiMethod fun t => do pure (.int .u8 (← Rtype.kind t))) Tryd.func103 (by kernel_rfl) (by kernel_rfl) (by kernel_rfl) (by kernel_rfl)
  have h116 := @run_callFunc_extern Tryd.prog 116 _ (ReflectliteType.method ReflectliteType.elem) Tryd.func116 (by kernel_rfl) (by kernel_rfl) (by kernel_rfl) (by kernel_rfl)
  have h117 := @run_callFunc_extern Tryd.prog 117 _ (ReflectliteType.relation "Implements" ReflectliteType.implements_) Tryd.func117 (by kernel_rfl) (by kernel_rfl) (by kernel_rfl) (by kernel_rfl)
  have h58 := @run_callFunc_extern Tryd.prog 58 _ ReflectliteType.typeOf Tryd.func58 (by kernel_rfl) (by kernel_rfl) (by kernel_rfl) (by kernel_rfl)
  have h114 := @run_callFunc_extern Tryd.prog 114 _ (ReflectliteType.relation "AssignableTo" ReflectliteType.assignableTo) Tryd.func114 (by kernel_rfl) (by kernel_rfl) (by kernel_rfl) (by kernel_rfl)
  have h59 := @run_callFunc_extern Tryd.prog 59 _ (ReflectliteValue.method (ReflectliteValue.valueError "reflectlite.Value.Elem" 0) ReflectliteValue.elem) Tryd.func59 (by kernel_rfl) (by kernel_rfl) (by kernel_rfl) (by kernel_rfl)
  have h60 := @run_callFunc_extern Tryd.prog 60 _ ReflectliteValue.set Tryd.func60 (by kernel_rfl) (by kernel_rfl) (by kernel_rfl) (by kernel_rfl)
  have k1 := as_valueOfP
  have k2 := as_typeP
  have k3 := as_kindP
  have k4 := as_kindE
  have k5 := as_elemP
  have k6 := as_implE
  have k7 := as_typeOfE
  have k8 := as_asgE
  have k9 := as_valueOfE
  have q1 := as_methodKind
  have q2 := as_methodElem
  have q3 := as_methodImplements
  have q4 := as_methodAssignableTo
  go_enter Tryd.func37, Tryd.ntmps37
  go_wp2
  refine wp_loop_rounds 1 ?_
  rw [rounds_succ]
  go_wp2
  go_ret
  exact ⟨rfl, _, ((((Chg.refl (fun _ => False) w).alloc _).alloc _).alloc _).alloc _, rfl⟩
set_option maxHeartbeats 8000000 in
theorem as_fault {w : World} (hg : Gl w) (e : Int) (f : Nat) (hf : w.cell? ⟨f, 2, none⟩ = some (.iface 25 (.int .i64 e))) (t : Addr) (old : Value) (ht0 : w.cell? t = some old) (hf0 : w.frozen? t = false) :
    Calls Tryd.prog 37 #[.iface 88 (.pointer (some ⟨f, 0, none⟩)), .iface 71 (.pointer (some t))] w fun ev w' => ev = .returned (.bool true) ∧ ∃ w1, Chg (fun _ => False) w w1 ∧ w' = w1.setCell t (.int .i64 e) := by
  have hgc := hg.err
  obtain ⟨W2, hW2⟩ : ∃ W2, W2 = (w.alloc (.cells #[.pointer (some t)] 71)).alloc (.cells #[.pointer (some ⟨3, 71, none⟩), .pointer (some ⟨w.heap.size, 0, none⟩), .int .u64 150] 96) := ⟨_, rfl⟩
  have n8 := as_isNilP ⟨w.heap.size, 0, none⟩ t ((w.alloc (.cells #[.pointer (some t)] 71)).alloc (.cells #[.pointer (some ⟨3, 71, none⟩), .pointer (some ⟨w.heap.size, 0, none⟩), .int .u64 150] 96)) (by simp)
  have hlt : 1 < w.heap.size := hg.lt
  have hg2 : ((w.alloc (.cells #[.pointer (some t)] 71)).alloc (.cells #[.pointer (some ⟨3, 71, none⟩), .pointer (some ⟨w.heap.size, 0, none⟩), .int .u64 150] 96)).cell? ⟨0, 0, none⟩ = some (.iface 115 (.agg #[.pointer (some ⟨3, 30, none⟩)])) := by
    rw [World.cell?_alloc_lt _ _ ⟨0, 0, none⟩ (by show 0 < _; simp; try omega), World.cell?_alloc_lt _ _ ⟨0, 0, none⟩ (by show 0 < w.heap.size; omega)]; exact hgc
  have htl : t.block < w.heap.size := by
    rcases Nat.lt_or_ge t.block w.heap.size with h | h
    · exact h
    · simp [World.cell?, Array.getElem?_eq_none h] at ht0
  have el := as_elemVP ⟨w.heap.size, 0, none⟩ t (((w.alloc (.cells #[.pointer (some t)] 71)).alloc (.cells #[.pointer (some ⟨3, 71, none⟩), .pointer (some ⟨w.heap.size, 0, none⟩), .int .u64 150] 96)).alloc (.cells #[.pointer (some ⟨3, 71, none⟩), .pointer (some ⟨w.heap.size, 0, none⟩), .int .u64 150] 96)) (by rw [World.cell?_alloc_lt _ _ ⟨w.heap.size, 0, none⟩ (by simp; omega)]; simp)
  have st := as_setE t ⟨w.heap.size + 1 + 1 + 1, 0, none⟩ e old ((((w.alloc (.cells #[.pointer (some t)] 71)).alloc (.cells #[.pointer (some ⟨3, 71, none⟩), .pointer (some ⟨w.heap.size, 0, none⟩), .int .u64 150] 96)).alloc (.cells #[.pointer (some ⟨3, 71, none⟩), .pointer (some ⟨w.heap.size, 0, none⟩), .int .u64 150] 96)).alloc (.cells #[.int .i64 e] 25))
    (by rw [World.cell?_alloc_at _ _ _ _ (by simp)]; rfl)
    (by rw [World.cell?_alloc_lt _ _ t (by simp; omega), World.cell?_alloc_lt _ _ t (by simp; omega), World.cell?_alloc_lt _ _ t (by simp; omega), World.cell?_alloc_lt _ _ t htl]; exact ht0)
    (by rw [World.frozen?_alloc_old _ _ t (by simp; omega), World.frozen?_alloc_old _ _ t (by simp; omega), World.frozen?_alloc_old _ _ t (by simp; omega), World.frozen?_alloc_old _ _ t (Nat.ne_of_lt htl)]; exact hf0)
  clear hW2
  have h49 := @run_callFunc_extern Tryd.prog 49 _ (fun args => ReflectliteValue.unpack (args.getD 0 (.tuple #[]))) Tryd.func49 (by kernel_rfl) (by kernel_rfl) (by kernel_rfl) (by kernel_rfl)
  have h50 := @run_callFunc_extern Tryd.prog 50 _ (ReflectliteValue.methodAny (ReflectliteValue.valueError "reflectlite.Value.Type" 0) (fun t _ _ _ => ReflectliteType.toType t)) Tryd.func50 (by kernel_rfl) (by kernel_rfl) (by kernel_rfl) (by kernel_rfl)
  have h51 := @run_callFunc_extern Tryd.prog 51 _ (ReflectliteValue.method (ReflectliteValue.valueError "reflectlite.Value.IsNil" 0) ReflectliteValue.isNil) Tryd.func51 (by kernel_rfl) (by kernel_rfl) (by kernel_rfl) (by kernel_rfl)
  have h103 := @run_callFunc_extern Tryd.prog 103 _ (ReflectliteType.abiMethod fun t => do pure (.int .u8 (← Rtype.kind t))) Tryd.func103 (by kernel_rfl) (by kernel_rfl) (by kernel_rfl) (by kernel_rfl)
  have h116 := @run_callFunc_extern Tryd.prog 116 _ (ReflectliteType.method ReflectliteType.elem) Tryd.func116 (by kernel_rfl) (by kernel_rfl) (by kernel_rfl) (by kernel_rfl)
  have h117 := @run_callFunc_extern Tryd.prog 117 _ (ReflectliteType.relation "Implements" ReflectliteType.implements_) Tryd.func117 (by kernel_rfl) (by kernel_rfl) (by kernel_rfl) (by kernel_rfl)
  have h58 := @run_callFunc_extern Tryd.prog 58 _ ReflectliteType.typeOf Tryd.func58 (by kernel_rfl) (by kernel_rfl) (by kernel_rfl) (by kernel_rfl)
  have h114 := @run_callFunc_extern Tryd.prog 114 _ (ReflectliteType.relation "AssignableTo" ReflectliteType.assignableTo) Tryd.func114 (by kernel_rfl) (by kernel_rfl) (by kernel_rfl) (by kernel_rfl)
  have h59 := @run_callFunc_extern Tryd.prog 59 _ (ReflectliteValue.method (ReflectliteValue.valueError "reflectlite.Value.Elem" 0) ReflectliteValue.elem) Tryd.func59 (by kernel_rfl) (by kernel_rfl) (by kernel_rfl) (by kernel_rfl)
  have h60 := @run_callFunc_extern Tryd.prog 60 _ ReflectliteValue.set Tryd.func60 (by kernel_rfl) (by kernel_rfl) (by kernel_rfl) (by kernel_rfl)
  have k1 := as_valueOfP
  have k2 := as_typeP
  have k3 := as_kindP
  have k4 := as_kindE
  have k5 := as_elemP
  have k6 := as_implE
  have k7 := as_typeOfE
  have k8 := as_asgE
  have k9 := as_valueOfE
  have q1 := as_methodKind
  have q2 := as_methodElem
  have q3 := as_methodImplements
  have q4 := as_methodAssignableTo
  go_enter Tryd.func37, Tryd.ntmps37
  go_wp2
  have k10 := as_typeOfF
  have k11 := as_asgF
  have ta1 := run_typeAssert_lacksB (P := Tryd.prog) (z := .nilIface) (t := 88) Tryd.underlying120 (by kernel_rfl) (by kernel_rfl) (.pointer (some ⟨f, 0, none⟩)) 30
  have ta2 := run_typeAssert_hasB (P := Tryd.prog) (t := 88) Tryd.underlying123 (by kernel_rfl) (.pointer (some ⟨f, 0, none⟩)) 30
  have mU := as_methodUnwrap
  have hfl : f < w.heap.size := by
    rcases Nat.lt_or_ge f w.heap.size with h | h
    · exact h
    · simp [World.cell?, Array.getElem?_eq_none h] at hf
  have hf3 : (((w.alloc (.cells #[.pointer (some t)] 71)).alloc (.cells #[.pointer (some ⟨3, 71, none⟩), .pointer (some ⟨w.heap.size, 0, none⟩), .int .u64 150] 96)).alloc (.cells #[.pointer (some ⟨3, 71, none⟩), .pointer (some ⟨w.heap.size, 0, none⟩), .int .u64 150] 96)).cell? ⟨f, 2, none⟩ = some (.iface 25 (.int .i64 e)) := by
    rw [World.cell?_alloc_lt _ _ ⟨f, 2, none⟩ (by simp; omega), World.cell?_alloc_lt _ _ ⟨f, 2, none⟩ (by simp; omega), World.cell?_alloc_lt _ _ ⟨f, 2, none⟩ (by show f < w.heap.size; exact hfl)]; exact hf
  refine wp_loop_rounds 2 ?_
  rw [rounds_succ]
  go_wp2
  rw [rounds_succ]
  go_wp2
  go_ret
  exact ⟨rfl, _, ((((Chg.refl (fun _ => False) w).alloc _).alloc _).alloc _).alloc _, rfl⟩
end Go.Proofs
namespace Go.Proofs
open Go.RowKit Go.Hp Go.Dm Go.Dr Go.Jn
set_option linter.unusedVariables false
set_option maxRecDepth 10000
/-- an Errno as an error -/
def errV (e : Nat) : Value := .iface 25 (.int .i64 (e : Int))
/-- a fault as an error -/
def faultV (b : Nat) : Value := .iface 88 (.pointer (some ⟨b, 0, none⟩))
/-- what a fault holds -/
def faultO (nm : ByteArray) (at_ : Int) (e : Nat) : Obj := .cells #[.string nm, .int .i64 at_, errV e] 90
section
variable {w : World}
set_option maxHeartbeats 4000000 in
theorem fault_any (hg : Gl w) (nm : ByteArray) (at_ : Int) (e : Nat) :
    Calls Tryd.prog 26 #[.string nm, .int .i64 at_, errV e] w fun ev w' => ∃ b, ev = .returned (faultV b) ∧ w.heap.size ≤ b ∧ w'.heap[b]? = some (faultO nm at_ e) ∧ Chg (fun _ => False) w w' := by
  have ha := as_errno (w := w.alloc (.cells #[.int .i64 0] 25)) (hg.chg ((Chg.refl _ w).alloc _)) (e : Int) ⟨w.heap.size, 0, none⟩ (.int .i64 0) (by rw [hcell_of (halloc_at w _)]; rfl) (hfree_of (halloc_at w _) 0)
  have HA := Lib.hid ha
  clear ha hg
  unfold errV
  go_enter Tryd.func26, Tryd.ntmps26
  go_wp2_with (first | (go_at_call 37; refine stop ?_))
  refine go ?_
  refine HA.out.mono ?_
  rintro ev w2 ⟨rfl, w1, c1, rfl⟩
  have hb : (w1.setCell ⟨w.heap.size, 0, none⟩ (.int .i64 (e : Int))).heap[w.heap.size]? = some (.cells #[.int .i64 (e : Int)] 25) := by
    have h1 := c1.block w.heap.size (by simp) (fun h => h)
    rw [halloc_at] at h1
    exact hset_same h1 0 _
  have k0 := hcell_of hb 0
  simp only [List.getElem?_toArray, List.getElem?_cons_zero] at k0
  have hc : Chg (fun _ => False) w (w1.setCell ⟨w.heap.size, 0, none⟩ (.int .i64 (e : Int))) := (((Chg.refl (fun _ => False) w).alloc _).trans c1 fun _ h => h.elim).setCell (p := ⟨w.heap.size, 0, none⟩) (.inr (Nat.le_refl _)) _
  generalize w1.setCell ⟨w.heap.size, 0, none⟩ (.int .i64 (e : Int)) = w3 at hc k0 ⊢
  have HC := Lib.hid hc
  clear c1 hb hc
  go_wp2
  go_ret
  refine ⟨w3.heap.size, rfl, HC.out.size, ?_, HC.out.alloc _⟩
  exact halloc_at w3 _
theorem code_nil : Calls Tryd.prog 11 #[.nilIface] w fun ev w' => ev = .returned (.int .i64 0) ∧ w = w' := by
  go_enter Tryd.func11, Tryd.ntmps11
  go_wp2
  go_ret
  exact ⟨rfl, rfl⟩
set_option maxHeartbeats 4000000 in
theorem code_any (hg : Gl w) (f : Nat) (nm : ByteArray) (at_ : Int) (e : Nat) (hf : w.heap[f]? = some (faultO nm at_ e)) :
    Calls Tryd.prog 11 #[faultV f] w fun ev w' => ev = .returned (.int .i64 (e : Int)) ∧ Chg (fun _ => False) w w' := by
  have hfl : f < w.heap.size := hlt_of hf
  have ha := as_fault (w := w.alloc (.cells #[.int .i64 0] 25)) (hg.chg ((Chg.refl _ w).alloc _)) (e : Int) f (by
    have h1 : (w.alloc (.cells #[.int .i64 0] 25)).heap[f]? = _ := (halloc_lt hfl).trans hf
    exact hcell_of h1 2) ⟨w.heap.size, 0, none⟩ (.int .i64 0) (by rw [hcell_of (halloc_at w _)]; rfl) (hfree_of (halloc_at w _) 0)
  have HA := Lib.hid ha
  clear ha hg hf
  unfold faultV
  go_enter Tryd.func11, Tryd.ntmps11
  go_wp2_with (first | (go_at_call 37; refine stop ?_))
  refine go ?_
  refine HA.out.mono ?_
  rintro ev w2 ⟨rfl, w1, c1, rfl⟩
  have hb : (w1.setCell ⟨w.heap.size, 0, none⟩ (.int .i64 (e : Int))).heap[w.heap.size]? = some (.cells #[.int .i64 (e : Int)] 25) := by
    have h1 := c1.block w.heap.size (by simp) (fun h => h)
    rw [halloc_at] at h1
    exact hset_same h1 0 _
  have k0 := hcell_of hb 0
  simp only [List.getElem?_toArray, List.getElem?_cons_zero] at k0
  have hc : Chg (fun _ => False) w (w1.setCell ⟨w.heap.size, 0, none⟩ (.int .i64 (e : Int))) := (((Chg.refl (fun _ => False) w).alloc _).trans c1 fun _ h => h.elim).setCell (p := ⟨w.heap.size, 0, none⟩) (.inr (Nat.le_refl _)) _
  generalize w1.setCell ⟨w.heap.size, 0, none⟩ (.int .i64 (e : Int)) = w3 at hc k0 ⊢
  have HC := Lib.hid hc
  clear c1 hb hc
  go_wp2
  go_ret
  exact ⟨rfl, HC.out⟩
/-- an Errno as an error, or nil -/
def givenV (e : Nat) : Value := if e = 0 then .nilIface else errV e
theorem given_any (e : Nat) : Calls Tryd.prog 36 #[.int .i64 (e : Int)] w fun ev w' => ev = .returned (givenV e) ∧ w = w' := by
  by_cases he : e = 0
  · subst he
    go_enter Tryd.func36, Tryd.ntmps36
    go_wp2
    go_ret
    exact ⟨rfl, rfl⟩
  · have h1 : ((e : Int) == 0) = false := by rw [beq_eq_false_iff_ne]; omega
    unfold givenV
    rw [if_neg he]
    have HE := Lib.hid he
    clear he
    go_enter Tryd.func36, Tryd.ntmps36
    go_wp2
    go_ret
    exact ⟨rfl, rfl⟩
end
end Go.Proofs
