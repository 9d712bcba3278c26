/- Files laid in a slice, and slices.SortFunc over them by name. Conditions: the slice lies in a block of its own. -/
import Derived.Test.YtaiaghfckhgnnaaGreatDoorD8
import Derived.Shelf.SlSortCmp.WholeK
import Derived.Shelf.SlSortCmp.NoneTotal
import Derived.Test.YtaiaghfckhgnnaaGreatDoorSort
import Derived.Ground.SlsfProg
namespace Go.Proofs
open Go.Shelf Go.RowKit Go.Hp Go.Dm Go.Dr
set_option linter.unusedVariables false
set_option maxRecDepth 10000

/-- a file as it lies in a slice of files -/
structure LF where
  name : ByteArray
  p : Option Addr
  cap : Nat
  bytes : List UInt8
  sure : Nat
deriving Inhabited
def LF.sv (x : LF) : Value := .slice x.p x.bytes.length x.cap
def LF.enc (x : LF) : List Value := [.string x.name, x.sv, .int .i64 (x.sure : Int)]
def LF.fl (x : LF) : Fl := ⟨x.name, x.bytes, x.sure⟩

theorem cmp_lt : ∀ a b : List UInt8, Lib.compareBytes a b < 0 ↔ a < b
  | [], [] => by simp [Lib.compareBytes]
  | [], _ :: _ => by simp [Lib.compareBytes]
  | _ :: _, [] => by simp [Lib.compareBytes]
  | a :: l, b :: l' => by
    have ih := cmp_lt l l'
    unfold Lib.compareBytes
    rw [List.cons_lt_cons_iff]
    by_cases h1 : a < b
    · simp [h1]
    · rw [if_neg h1]
      by_cases h2 : b < a
      · rw [if_pos h2]
        have hne : a ≠ b := fun e => by subst e; exact h1 h2
        simp [h1, hne]
      · rw [if_neg h2]
        have e : a = b := UInt8.le_antisymm (UInt8.not_lt.1 h2) (UInt8.not_lt.1 h1)
        simp [e, ih]

def LF.cf (x y : LF) : Int := Lib.compareBytes x.name.data.toList y.name.data.toList
theorem LF.lt_iff (x y : LF) : ltOf LF.cf x y = decide (nlt x.name y.name) := by
  unfold ltOf LF.cf
  exact decide_eq_decide.2 (cmp_lt _ _)
theorem LF.swo : Sort.SWO (ltOf LF.cf) where
  irrefl x := by rw [LF.lt_iff]; simp [nlt_irrefl]
  trans x y z h1 h2 := by
    rw [LF.lt_iff] at *
    simp only [decide_eq_true_eq] at *
    exact nlt_trans h1 h2
  ntrans x y z h1 h2 := by
    rw [LF.lt_iff] at *
    simp only [decide_eq_false_iff_not] at *
    intro h
    rcases nlt_tri y.name x.name with h' | h' | h'
    · exact h2 (nlt_trans h' h)
    · exact h2 (h' ▸ h)
    · exact h1 h'

theorem isAgg_file (w : World) : (isAgg 99).run Tryz.prog w = .ok true w := by
  unfold isAgg
  rw [Sem.run_bind, run_underlying Tryz.underlying99]
  rfl
theorem info_file : (Tryz.prog.info? 99).map (fun i => (i.zero, i.size, i.bytes)) = some (some (.agg #[.string ⟨#[]⟩, .slice none 0 0, .int .i64 0]), 3, 48) := by kernel_rfl
theorem sizeOf_file (w : World) : (Go.sizeOf 99).run Tryz.prog w = .ok 3 w := by
  obtain ⟨i0, hi, hz0, hz1, hz2⟩ := info_parts info_file
  rw [run_sizeOf w hi]
  unfold Program.cellsOf
  simp [hi, hz1]

set_option maxHeartbeats 1000000 in
theorem files_cmp (x y : LF) (W : World) : Calls Tryz.prog 53 #[.agg #[.string x.name, x.sv, .int .i64 (x.sure : Int)], .agg #[.string y.name, y.sv, .int .i64 (y.sure : Int)]] W fun e w' => e = .returned (.int .i64 (LF.cf x y)) ∧ ∃ q os', w' = Sort.grow (W.drewN q) os' := by
  have hcon := fun W' => Tryz.strings_Compare x.name y.name W'
  change ∀ W', Calls Tryz.prog 54 _ _ _ at hcon
  unfold LF.cf LF.sv
  generalize Lib.compareBytes x.name.data.toList y.name.data.toList = r at hcon ⊢
  go_enter Tryz.func53, Tryz.ntmps53
  go_wp2_with (go_at_call 54; refine (hcon _).mono ?_; rintro e w' ⟨rfl, rfl⟩)
  go_ret
  exact ⟨rfl, 0, _, by rw [Sort.alloc_eq_grow, Sort.alloc_eq_grow, Sort.grow_grow]; rfl⟩

theorem flat_list {α : Type} [Inhabited α] (enc : α → List Value) (k : Nat) (hk0 : 0 < k) (hk : ∀ x, (enc x).length = k) : ∀ l : List α, (List.range (l.length * k)).map (fun t => (enc l[t / k]!)[t % k]!) = l.flatMap enc
  | [] => by simp
  | x :: l => by
    have ih := flat_list enc k hk0 hk l
    rw [List.length_cons, Nat.add_mul, Nat.one_mul, Nat.add_comm, List.range_add, List.map_append, List.flatMap_cons, List.map_map]
    congr 1
    · refine List.ext_getElem (by simp [hk]) fun i h1 h2 => ?_
      have hi : i < k := by simpa using h1
      simp only [List.getElem_map, List.getElem_range, Nat.div_eq_of_lt hi, Nat.mod_eq_of_lt hi]
      rw [List.getElem!_cons_zero, getElem!_pos _ i (by rw [hk]; exact hi)]
    · rw [← ih]
      refine List.map_congr_left fun t ht => ?_
      simp only [Function.comp]
      rw [Nat.add_div_left _ hk0, Nat.add_mod_left, List.getElem!_cons_succ]

theorem flatK_list {α : Type} [Inhabited α] (enc : α → List Value) (k : Nat) (hk0 : 0 < k) (hk : ∀ x, (enc x).length = k) (l : List α) : (Sort.flatK enc k l.toArray).toList = l.flatMap enc := by
  rw [← flat_list enc k hk0 hk l]
  unfold Sort.flatK
  simp

/-- a slice in a block of its own, its elements laid anew -/
theorem sorted_world {w : World} {E : TypeId} {b n c : Nat} {l l' : List LF} {m : Nat} {os : Array Obj} (h : OC w 3 E (.slice (some ⟨b, 0, none⟩) n c) l.length (l.flatMap LF.enc)) (hc : c ≠ 0) (hp : l'.length = l.length) :
    OC (sortWorldK LF.enc 3 w b 0 m l'.toArray os) 3 E (.slice (some ⟨b, 0, none⟩) n c) l'.length (l'.flatMap LF.enc) ∧ Chg (· = b) w (sortWorldK LF.enc 3 w b 0 m l'.toArray os) := by
  obtain ⟨p0, c0, he, h1, h2, h3, h4⟩ := h
  obtain ⟨hp0, hn, hc0⟩ : p0 = some ⟨b, 0, none⟩ ∧ n = l.length ∧ c0 = c := by simp only [Value.slice.injEq] at he; exact ⟨he.1.symm, he.2.1, he.2.2.symm⟩
  subst hp0 hn hc0
  obtain ⟨b', arr, he', hb, hs, ht⟩ := h4 hc
  have hbb : b' = b := by simpa using he'.symm
  subst hbb
  have hlt : b' < w.heap.size := hlt_of hb
  have hF : (Sort.flatK LF.enc 3 l'.toArray).toList = l'.flatMap LF.enc := flatK_list LF.enc 3 (by omega) (fun _ => rfl) l'
  have hFs : (Sort.flatK LF.enc 3 l'.toArray).size = l'.length * 3 := by simp
  have hblk : ∀ k, k < w.heap.size → k ≠ b' → (sortWorldK LF.enc 3 w b' 0 m l'.toArray os).heap[k]? = w.heap[k]? := fun k hk hkb => by
    show (((Sort.ahead w m).heap.modify b' _) ++ os)[k]? = _
    rw [Array.getElem?_append_left (by simpa [Sort.ahead] using hk), Array.getElem?_modify, if_neg (Ne.symm hkb)]
    rfl
  refine ⟨⟨_, c0, by rw [hp], by omega, h2, ?_, fun _ => ⟨b', Sort.putCells id 0 (Sort.flatK LF.enc 3 l'.toArray) arr, rfl, ?_, ?_, ?_⟩⟩, ⟨rfl, rfl, rfl, ?_, hblk⟩⟩
  · rw [← hF]; simp
  · show (((Sort.ahead w m).heap.modify b' _) ++ os)[b']? = _
    rw [Array.getElem?_append_left (by simpa [Sort.ahead] using hlt), Array.getElem?_modify, if_pos rfl]
    show Option.map _ w.heap[b']? = _
    rw [hb]
    rfl
  · simp [Sort.putCells, hs]
  · rw [← hF]
    have hle : l'.length * 3 ≤ arr.size := by rw [hs, hp]; omega
    apply List.ext_getElem?
    intro i
    rw [List.getElem?_take]
    by_cases hi : i < l'.length * 3
    · rw [if_pos hi]
      simp only [Array.getElem?_toList, Sort.putCells, Array.getElem?_mapIdx]
      rw [Array.getElem?_eq_getElem (show i < arr.size by omega), Option.map_some, if_pos ⟨Nat.zero_le _, by rw [hFs]; omega⟩, Array.getElem?_eq_getElem (by rw [hFs]; exact hi)]
      rw [Nat.sub_zero, getElem!_pos _ i (by rw [hFs]; exact hi)]; rfl
    · rw [if_neg hi]
      symm
      rw [Array.getElem?_toList, Array.getElem?_eq_none]
      rw [hFs]; omega
  · show _ ≤ (((Sort.ahead w m).heap.modify b' _) ++ os).size
    simp [Sort.ahead]

set_option maxHeartbeats 1000000 in
/-- the files by name, rising -/
theorem sort_any {w : World} {v : Value} {l : List LF} (h : OC w 3 99 v l.length (l.flatMap LF.enc)) (hsz : l.length < 4611686018427387904) :
    Calls Tryz.prog 52 #[v, .func (.func 53) #[] #[]] w fun e w' => e = .returned (.tuple #[]) ∧
      ∃ l' : List LF, l'.Perm l ∧ l'.Pairwise (fun x y => ¬ nlt y.name x.name) ∧ OC w' 3 99 v l'.length (l'.flatMap LF.enc) ∧ Chg (fun k => sblk v = some k) w w' := by
  have h0 := h
  obtain ⟨p, c, rfl, h1, h2, h3, h4⟩ := h
  by_cases hl : l = []
  · subst hl
    refine (AnyF.slices_SortFunc_none Tryz.sortFiles p c _ w).mono ?_
    rintro e w' ⟨rfl, rfl⟩
    exact ⟨rfl, [], .nil, .nil, h0, Chg.refl _ _⟩
  · have hpos : 0 < l.length := List.length_pos_iff.2 hl
    obtain ⟨b, arr, rfl, hb, hs, ht⟩ := h4 (by omega)
    have hF : (Sort.flatK LF.enc 3 l.toArray).toList = l.flatMap LF.enc := flatK_list LF.enc 3 (by omega) (fun _ => rfl) l
    have hFs : (Sort.flatK LF.enc 3 l.toArray).size = l.length * 3 := by simp
    have hH : Sort.HoldsK LF.enc 3 w b 0 l.toArray := fun j hj => by
      rw [hFs] at hj
      refine ⟨?_, hfree_of hb _⟩
      rw [hcell_of hb, Nat.zero_add]
      have hj' : (l.flatMap LF.enc)[j]? = arr[j]? := by rw [← ht, List.getElem?_take, if_pos hj, Array.getElem?_toList]
      rw [← hj', ← hF, Array.getElem?_toList, Array.getElem?_eq_getElem (by rw [hFs]; exact hj), getElem!_pos _ j (by rw [hFs]; exact hj)]
      rfl
    have eg : ∀ args w, (callFunc 53 args).run Tryz.prog w = .ok (.enter 53 args) w := enters_of Tryz.func53 (by kernel_rfl) rfl
    refine (AnyQ.slices_SortFunc Tryz.sortFiles 3 isAgg_file sizeOf_file LF.enc (fun _ => rfl) (fun x v hv => by simp [LF.enc, LF.sv] at hv; rcases hv with rfl | rfl | rfl <;> rfl) LF.cf LF.swo 53 #[] b 0 c l.toArray w eg (fun _ _ _ _ x y => files_cmp x y _) hH (hlt_of hb) (by simpa using hsz)).mono ?_
    rintro e w' ⟨rfl, d', n, os, hp, hs', rfl⟩
    obtain ⟨q1, q2, q3⟩ := hp
    have hd : d'.toList.toArray = d' := by simp
    have hlen : d'.toList.length = l.length := by simpa using q1
    rw [← hd]
    obtain ⟨r1, r2⟩ := sorted_world (m := n) (os := os) h0 (by omega) hlen
    have hcn : c ≠ 0 := by omega
    refine ⟨rfl, d'.toList, ?_, ?_, r1, r2.mono fun k hk => .inl (by subst hk; cases c with | zero => exact absurd rfl hcn | succ c => rfl)⟩
    · have := q3
      rw [Array.extract_eq_self_of_le (by simp [q1]), Array.extract_eq_self_of_le (by simp)] at this
      simpa using this
    · rw [List.pairwise_iff_getElem]
      intro i j hi hj hij
      have := hs' i j (Nat.zero_le _) hij (by simpa [q1] using hj)
      rw [LF.lt_iff, decide_eq_false_iff_not] at this
      simpa [getElem!_pos, show i < d'.size by simpa using hi, show j < d'.size by simpa using hj] using this
end Go.Proofs
