/- Files laid in a slice, and slices.SortFunc over them by name. Conditions: the slice lies in a block of its own. Package disk's Files: all files by name, rising, in memory of their own. Conditions: the disk lies as DRep says; it has at most 2^40 files. -/
import Derived.Test.YtaiaghfckhgnnaaDoorD8
import Derived.Shelf.SlSortCmp.WholeK
import Derived.Shelf.SlSortCmp.NoneTotal
import Derived.Test.YtaiaghfckhgnnaaDoorSort
import Derived.Ground.SlsfProg
namespace Go.Proofs
open Go.Shelf Go.RowKit Go.Hp Go.Dm Go.Dr
set_option linter.unusedVariables false
set_option maxRecDepth 10000

/-- a file as it lies in a slice of files -/
structure LF where
  name : ByteArray
  p : Option Addr
  cap : Nat
  bytes : List UInt8
  sure : Nat
deriving Inhabited
def LF.sv (x : LF) : Value := .slice x.p x.bytes.length x.cap
def LF.enc (x : LF) : List Value := [.string x.name, x.sv, .int .i64 (x.sure : Int)]
def LF.fl (x : LF) : Fl := ⟨x.name, x.bytes, x.sure⟩

theorem cmp_lt : ∀ a b : List UInt8, Lib.compareBytes a b < 0 ↔ a < b
  | [], [] => by simp [Lib.compareBytes]
  | [], _ :: _ => by simp [Lib.compareBytes]
  | _ :: _, [] => by simp [Lib.compareBytes]
  | a :: l, b :: l' => by
    have ih := cmp_lt l l'
    unfold Lib.compareBytes
    rw [List.cons_lt_cons_iff]
    by_cases h1 : a < b
    · simp [h1]
    · rw [if_neg h1]
      by_cases h2 : b < a
      · rw [if_pos h2]
        have hne : a ≠ b := fun e => by subst e; exact h1 h2
        simp [h1, hne]
      · rw [if_neg h2]
        have e : a = b := UInt8.le_antisymm (UInt8.not_lt.1 h2) (UInt8.not_lt.1 h1)
        simp [e, ih]

def LF.cf (x y : LF) : Int := Lib.compareBytes x.name.data.toList y.name.data.toList
theorem LF.lt_iff (x y : LF) : ltOf LF.cf x y = decide (nlt x.name y.name) := by
  unfold ltOf LF.cf
  exact decide_eq_decide.2 (cmp_lt _ _)
theorem LF.swo : Sort.SWO (ltOf LF.cf) where
  irrefl x := by rw [LF.lt_iff]; simp [nlt_irrefl]
  trans x y z h1 h2 := by
    rw [LF.lt_iff] at *
    simp only [decide_eq_true_eq] at *
    exact nlt_trans h1 h2
  ntrans x y z h1 h2 := by
    rw [LF.lt_iff] at *
    simp only [decide_eq_false_iff_not] at *
    intro h
    rcases nlt_tri y.name x.name with h' | h' | h'
    · exact h2 (nlt_trans h' h)
    · exact h2 (h' ▸ h)
    · exact h1 h'

theorem isAgg_file (w : World) : (isAgg 106).run Tryd.prog w = .ok true w := by
  unfold isAgg
  rw [Sem.run_bind, run_underlying Tryd.underlying106]
  rfl
theorem info_file : (Tryd.prog.info? 106).map (fun i => (i.zero, i.size, i.bytes)) = some (some (.agg #[.string ⟨#[]⟩, .slice none 0 0, .int .i64 0]), 3, 48) := by kernel_rfl
theorem sizeOf_file (w : World) : (Go.sizeOf 106).run Tryd.prog w = .ok 3 w := by
  obtain ⟨i0, hi, hz0, hz1, hz2⟩ := info_parts info_file
  rw [run_sizeOf w hi]
  unfold Program.cellsOf
  simp [hi, hz1]

set_option maxHeartbeats 1000000 in
theorem files_cmp (x y : LF) (W : World) : Calls Tryd.prog 55 #[.agg #[.string x.name, x.sv, .int .i64 (x.sure : Int)], .agg #[.string y.name, y.sv, .int .i64 (y.sure : Int)]] W fun e w' => e = .returned (.int .i64 (LF.cf x y)) ∧ ∃ q os', w' = Sort.grow (W.drewN q) os' := by
  have hcon := fun W' => Tryd.strings_Compare x.name y.name W'
  change ∀ W', Calls Tryd.prog 56 _ _ _ at hcon
  unfold LF.cf LF.sv
  generalize Lib.compareBytes x.name.data.toList y.name.data.toList = r at hcon ⊢
  go_enter Tryd.func55, Tryd.ntmps55
  go_wp2_with (go_at_call 56; refine (hcon _).mono ?_; rintro e w' ⟨rfl, rfl⟩)
  go_ret
  exact ⟨rfl, 0, _, by rw [Sort.alloc_eq_grow, Sort.alloc_eq_grow, Sort.grow_grow]; rfl⟩

theorem flat_list {α : Type} [Inhabited α] (enc : α → List Value) (k : Nat) (hk0 : 0 < k) (hk : ∀ x, (enc x).length = k) : ∀ l : List α, (List.range (l.length * k)).map (fun t => (enc l[t / k]!)[t % k]!) = l.flatMap enc
  | [] => by simp
  | x :: l => by
    have ih := flat_list enc k hk0 hk l
    rw [List.length_cons, Nat.add_mul, Nat.one_mul, Nat.add_comm, List.range_add, List.map_append, List.flatMap_cons, List.map_map]
    congr 1
    · refine List.ext_getElem (by simp [hk]) fun i h1 h2 => ?_
      have hi : i < k := by simpa using h1
      simp only [List.getElem_map, List.getElem_range, Nat.div_eq_of_lt hi, Nat.mod_eq_of_lt hi]
      rw [List.getElem!_cons_zero, getElem!_pos _ i (by rw [hk]; exact hi)]
    · rw [← ih]
      refine List.map_congr_left fun t ht => ?_
      simp only [Function.comp]
      rw [Nat.add_div_left _ hk0, Nat.add_mod_left, List.getElem!_cons_succ]

theorem flatK_list {α : Type} [Inhabited α] (enc : α → List Value) (k : Nat) (hk0 : 0 < k) (hk : ∀ x, (enc x).length = k) (l : List α) : (Sort.flatK enc k l.toArray).toList = l.flatMap enc := by
  rw [← flat_list enc k hk0 hk l]
  unfold Sort.flatK
  simp

/-- a slice in a block of its own, its elements laid anew -/
theorem sorted_world {w : World} {E : TypeId} {b n c : Nat} {l l' : List LF} {m : Nat} {os : Array Obj} (h : OC w 3 E (.slice (some ⟨b, 0, none⟩) n c) l.length (l.flatMap LF.enc)) (hc : c ≠ 0) (hp : l'.length = l.length) :
    OC (sortWorldK LF.enc 3 w b 0 m l'.toArray os) 3 E (.slice (some ⟨b, 0, none⟩) n c) l'.length (l'.flatMap LF.enc) ∧ Chg (· = b) w (sortWorldK LF.enc 3 w b 0 m l'.toArray os) := by
  obtain ⟨p0, c0, he, h1, h2, h3, h4⟩ := h
  obtain ⟨hp0, hn, hc0⟩ : p0 = some ⟨b, 0, none⟩ ∧ n = l.length ∧ c0 = c := by simp only [Value.slice.injEq] at he; exact ⟨he.1.symm, he.2.1, he.2.2.symm⟩
  subst hp0 hn hc0
  obtain ⟨b', arr, he', hb, hs, ht⟩ := h4 hc
  have hbb : b' = b := by simpa using he'.symm
  subst hbb
  have hlt : b' < w.heap.size := hlt_of hb
  have hF : (Sort.flatK LF.enc 3 l'.toArray).toList = l'.flatMap LF.enc := flatK_list LF.enc 3 (by omega) (fun _ => rfl) l'
  have hFs : (Sort.flatK LF.enc 3 l'.toArray).size = l'.length * 3 := by simp
  have hblk : ∀ k, k < w.heap.size → k ≠ b' → (sortWorldK LF.enc 3 w b' 0 m l'.toArray os).heap[k]? = w.heap[k]? := fun k hk hkb => by
    show (((Sort.ahead w m).heap.modify b' _) ++ os)[k]? = _
    rw [Array.getElem?_append_left (by simpa [Sort.ahead] using hk), Array.getElem?_modify, if_neg (Ne.symm hkb)]
    rfl
  refine ⟨⟨_, c0, by rw [hp], by omega, h2, ?_, fun _ => ⟨b', Sort.putCells id 0 (Sort.flatK LF.enc 3 l'.toArray) arr, rfl, ?_, ?_, ?_⟩⟩, ⟨rfl, rfl, rfl, ?_, hblk⟩⟩
  · rw [← hF]; simp
  · show (((Sort.ahead w m).heap.modify b' _) ++ os)[b']? = _
    rw [Array.getElem?_append_left (by simpa [Sort.ahead] using hlt), Array.getElem?_modify, if_pos rfl]
    show Option.map _ w.heap[b']? = _
    rw [hb]
    rfl
  · simp [Sort.putCells, hs]
  · rw [← hF]
    have hle : l'.length * 3 ≤ arr.size := by rw [hs, hp]; omega
    apply List.ext_getElem?
    intro i
    rw [List.getElem?_take]
    by_cases hi : i < l'.length * 3
    · rw [if_pos hi]
      simp only [Array.getElem?_toList, Sort.putCells, Array.getElem?_mapIdx]
      rw [Array.getElem?_eq_getElem (show i < arr.size by omega), Option.map_some, if_pos ⟨Nat.zero_le _, by rw [hFs]; omega⟩, Array.getElem?_eq_getElem (by rw [hFs]; exact hi)]
      rw [Nat.sub_zero, getElem!_pos _ i (by rw [hFs]; exact hi)]; rfl
    · rw [if_neg hi]
      symm
      rw [Array.getElem?_toList, Array.getElem?_eq_none]
      rw [hFs]; omega
  · show _ ≤ (((Sort.ahead w m).heap.modify b' _) ++ os).size
    simp [Sort.ahead]

set_option maxHeartbeats 1000000 in
/-- the files by name, rising -/
theorem sort_any {w : World} {v : Value} {l : List LF} (h : OC w 3 106 v l.length (l.flatMap LF.enc)) (hsz : l.length < 4611686018427387904) :
    Calls Tryd.prog 54 #[v, .func (.func 55) #[] #[]] w fun e w' => e = .returned (.tuple #[]) ∧
      ∃ l' : List LF, l'.Perm l ∧ l'.Pairwise (fun x y => ¬ nlt y.name x.name) ∧ OC w' 3 106 v l'.length (l'.flatMap LF.enc) ∧ Chg (fun k => sblk v = some k) w w' := by
  have h0 := h
  obtain ⟨p, c, rfl, h1, h2, h3, h4⟩ := h
  by_cases hl : l = []
  · subst hl
    refine (AnyF.slices_SortFunc_none Tryd.sortFiles p c _ w).mono ?_
    rintro e w' ⟨rfl, rfl⟩
    exact ⟨rfl, [], .nil, .nil, h0, Chg.refl _ _⟩
  · have hpos : 0 < l.length := List.length_pos_iff.2 hl
    obtain ⟨b, arr, rfl, hb, hs, ht⟩ := h4 (by omega)
    have hF : (Sort.flatK LF.enc 3 l.toArray).toList = l.flatMap LF.enc := flatK_list LF.enc 3 (by omega) (fun _ => rfl) l
    have hFs : (Sort.flatK LF.enc 3 l.toArray).size = l.length * 3 := by simp
    have hH : Sort.HoldsK LF.enc 3 w b 0 l.toArray := fun j hj => by
      rw [hFs] at hj
      refine ⟨?_, hfree_of hb _⟩
      rw [hcell_of hb, Nat.zero_add]
      have hj' : (l.flatMap LF.enc)[j]? = arr[j]? := by rw [← ht, List.getElem?_take, if_pos hj, Array.getElem?_toList]
      rw [← hj', ← hF, Array.getElem?_toList, Array.getElem?_eq_getElem (by rw [hFs]; exact hj), getElem!_pos _ j (by rw [hFs]; exact hj)]
      rfl
    have eg : ∀ args w, (callFunc 55 args).run Tryd.prog w = .ok (.enter 55 args) w := enters_of Tryd.func55 (by kernel_rfl) rfl
    refine (AnyQ.slices_SortFunc Tryd.sortFiles 3 isAgg_file sizeOf_file LF.enc (fun _ => rfl) (fun x v hv => by simp [LF.enc, LF.sv] at hv; rcases hv with rfl | rfl | rfl <;> rfl) LF.cf LF.swo 55 #[] b 0 c l.toArray w eg (fun _ _ _ _ x y => files_cmp x y _) hH (hlt_of hb) (by simpa using hsz)).mono ?_
    rintro e w' ⟨rfl, d', n, os, hp, hs', rfl⟩
    obtain ⟨q1, q2, q3⟩ := hp
    have hd : d'.toList.toArray = d' := by simp
    have hlen : d'.toList.length = l.length := by simpa using q1
    rw [← hd]
    obtain ⟨r1, r2⟩ := sorted_world (m := n) (os := os) h0 (by omega) hlen
    have hcn : c ≠ 0 := by omega
    refine ⟨rfl, d'.toList, ?_, ?_, r1, r2.mono fun k hk => .inl (by subst hk; cases c with | zero => exact absurd rfl hcn | succ c => rfl)⟩
    · have := q3
      rw [Array.extract_eq_self_of_le (by simp [q1]), Array.extract_eq_self_of_le (by simp)] at this
      simpa using this
    · rw [List.pairwise_iff_getElem]
      intro i j hi hj hij
      have := hs' i j (Nat.zero_le _) hij (by simpa [q1] using hj)
      rw [LF.lt_iff, decide_eq_false_iff_not] at this
      simpa [getElem!_pos, show i < d'.size by simpa using hi, show j < d'.size by simpa using hj] using this
end Go.Proofs
namespace Go.Proofs
open Go.RowKit Go.Hp Go.Dm Go.Dr
set_option linter.unusedVariables false
set_option maxRecDepth 10000

def LF.blk (x : LF) : List Nat := (sblk x.sv).toList
def lblks (v : Value) (l : List LF) : List Nat := (sblk v).toList ++ l.flatMap LF.blk

/-- a slice of files of its own: what it says, its blocks -/
structure FilesAt (w : World) (v : Value) (l : List LF) : Prop where
  sl : OC w 3 106 v l.length (l.flatMap LF.enc)
  each : ∀ x ∈ l, OB w 5 x.sv x.bytes
  nodup : (lblks v l).Nodup

theorem mem_lblks {v : Value} {l : List LF} {k : Nat} (h : sblk v = some k) : k ∈ lblks v l := by simp [lblks, h]

theorem filter_add {α : Type} {p q : α → Bool} {r : α} (f : α → Nat) : ∀ {l : List α}, (l.map f).Nodup → r ∈ l → p r = false → (∀ y ∈ l, q y = (p y || f y == f r)) → (l.filter q).Perm (l.filter p ++ [r])
  | [], _, hr, _, _ => by cases hr
  | z :: l, hn, hr, hp, hq => by
    simp only [List.map_cons, List.nodup_cons] at hn
    by_cases hz : f z = f r
    · have hrz : r = z := by
        rcases List.mem_cons.1 hr with h | h
        · exact h
        · exact absurd (hz ▸ List.mem_map_of_mem h) hn.1
      subst hrz
      have e : l.filter q = l.filter p := List.filter_congr fun y hy => by
        rw [hq y (by simp [hy])]
        have : (f y == f r) = false := by simpa using fun e : f y = f r => hn.1 (e ▸ List.mem_map_of_mem hy)
        simp [this]
      rw [List.filter_cons_of_pos (by rw [hq r (by simp)]; simp), List.filter_cons_of_neg (by simp [hp]), e]
      exact (List.perm_append_singleton r _).symm
    · have hr' : r ∈ l := by
        rcases List.mem_cons.1 hr with h | h
        · exact absurd (h ▸ rfl) hz
        · exact h
      have ih := filter_add f hn.2 hr' hp fun y hy => hq y (by simp [hy])
      have e : q z = p z := by rw [hq z (by simp)]; simp [hz]
      by_cases hpz : p z = true
      · rw [List.filter_cons_of_pos (by rw [e]; exact hpz), List.filter_cons_of_pos hpz]
        exact ih.cons z
      · rw [List.filter_cons_of_neg (by rw [e]; exact hpz), List.filter_cons_of_neg hpz]
        exact ih

/-- the files gathered so far -/
structure FGot (w wr : World) (m it clock : Nat) (L : List Raw) (v : Value) (seen : Array Nat) (l : List LF) : Prop where
  chg : Chg (fun _ => False) w wr
  iter : wr.heap[it]? = some (.mapIter (some m) clock seen clock)
  at_ : FilesAt wr v l
  low : ∀ k ∈ lblks v l, it < k
  perm : (l.map LF.fl).Perm ((L.filter fun r => seen.contains r.born).map Raw.fl)

theorem unseen_iter {w : World} {it m clock : Nat} {seen : Array Nat} {L : List Raw} (h : w.heap[it]? = some (.mapIter (some m) clock seen clock)) : unseen w it L = (L.filter fun r => !seen.contains r.born).length := by
  unfold unseen; rw [h]

theorem FGot.step {w wr w1 w2 w3 w4 W' : World} {m it clock : Nat} {L : List Raw} {v v' pv : Value} {seen : Array Nat} {l : List LF} {r : Raw} (h : FGot w wr m it clock L v seen l) (hit : w.heap.size ≤ it) (hst : (L.map (·.born)).Nodup)
    (hr : r ∈ L) (hun : seen.contains r.born = false) (h1 : Chg (· = it) wr w1) (hi1 : w1.heap[it]? = some (.mapIter (some m) clock (seen.push r.born) clock))
    {p : Option Addr} {n c : Nat} (hpv : pv = .slice p n c) (h2 : OB w2 5 pv r.bytes) (c2 : Chg (fun _ => False) w1 w2) (b2 : ∀ b, sblk pv = some b → w1.heap.size ≤ b)
    (c3 : Chg (fun _ => False) w2 w3)
    (h4 : OC w4 3 106 v' (l.length + 1) (l.flatMap LF.enc ++ [.string r.name, pv, .int .i64 (r.sure : Int)])) (c4 : Chg (fun b => sblk v = some b) w3 w4) (b4 : ∀ b, sblk v' = some b → sblk v = some b ∨ w3.heap.size ≤ b)
    (hW : ∀ k : Nat, W'.heap[k]? = w4.heap[k]?) (cW : Chg (fun _ => False) w4 W') :
    (∃ seen l, FGot w W' m it clock L v' seen l) ∧ unseen W' it L < unseen wr it L := by
  have hitlt : it < w1.heap.size := hlt_of hi1
  obtain ⟨pp, cc, hpe, hn1, hn2, -⟩ := id h2
  have hx : pv = (⟨r.name, pp, cc, r.bytes, r.sure⟩ : LF).sv := hpe
  have s12 := c2.size
  have s23 := c3.size
  have s34 := c4.size
  have s01 := h1.size
  have hvlt : ∀ b, sblk v = some b → b < wr.heap.size := fun b hb => OC.lt h.at_.sl hb
  have hlow : ∀ b, sblk v = some b → it < b := fun b hb => h.low b (by simp [lblks, hb])
  have hitv : sblk v ≠ some it := fun e => by have := hlow it e; omega
  have hi4 : W'.heap[it]? = some (.mapIter (some m) clock (seen.push r.born) clock) := by
    rw [hW, c4.block it (by omega) hitv, c3.block it (by omega) (fun h => h), c2.block it (by omega) (fun h => h)]; exact hi1
  have hb4 : ∀ b, b < w1.heap.size → b ≠ it → sblk v ≠ some b → b < wr.heap.size → W'.heap[b]? = wr.heap[b]? := fun b hb hbi hbv hbr => by
    rw [hW, c4.block b (by omega) hbv, c3.block b (by omega) (fun h => h), c2.block b hb (fun h => h), h1.block b hbr hbi]
  have hnd := h.at_.nodup
  have hxlt : ∀ x ∈ l, ∀ b ∈ x.blk, b < wr.heap.size := fun x hx b hb => OC.lt (h.at_.each x hx) (by simpa [LF.blk] using hb)
  have hvx : ∀ x ∈ l, ∀ b ∈ x.blk, sblk v ≠ some b := fun x hx b hb e => by
    unfold lblks at hnd
    rw [List.nodup_append] at hnd
    exact hnd.2.2 b (by simp [e]) b (List.mem_flatMap.2 ⟨x, hx, hb⟩) rfl
  have hpvlt : ∀ b, sblk pv = some b → b < w2.heap.size := fun b hb => OC.lt h2 hb
  have hpvv : ∀ b, sblk pv = some b → sblk v ≠ some b := fun b hb e => by have := b2 b hb; have := hvlt b e; omega
  refine ⟨⟨seen.push r.born, l ++ [⟨r.name, pp, cc, r.bytes, r.sure⟩], ?_, hi4, ⟨?_, ?_, ?_⟩, ?_, ?_⟩, ?_⟩
  · refine (((h.chg.trans h1 (G := (· = it)) (fun k hk => .inr (by omega))).trans c2 (fun k hk => hk.elim)).trans c3 (fun k hk => hk.elim)).trans ?_ (G := fun b => sblk v = some b) (fun k hk => .inr (by have := hlow k hk; omega))
    exact c4.trans cW (fun k hk => hk.elim)
  · have : OC w4 3 106 v' (l ++ [(⟨r.name, pp, cc, r.bytes, r.sure⟩ : LF)]).length ((l ++ [(⟨r.name, pp, cc, r.bytes, r.sure⟩ : LF)]).flatMap LF.enc) := by
      rw [List.length_append, List.flatMap_append]
      simpa [LF.enc, ← hx] using h4
    exact OC.keep this fun b hb => hW b
  · intro x hx'
    rcases List.mem_append.1 hx' with hx' | hx'
    · refine OC.keep (h.at_.each x hx') fun b hb => ?_
      have hb' : b ∈ x.blk := by simp [LF.blk, hb]
      have hl := hxlt x hx' b hb'
      have := h.low b (by unfold lblks; exact List.mem_append.2 (.inr (List.mem_flatMap.2 ⟨x, hx', hb'⟩)))
      exact hb4 b (by omega) (by omega) (hvx x hx' b hb') hl
    · obtain rfl : x = ⟨r.name, pp, cc, r.bytes, r.sure⟩ := by simpa using hx'
      refine OC.keep (v := (⟨r.name, pp, cc, r.bytes, r.sure⟩ : LF).sv) (w := w2) (by rw [← hx]; exact h2) fun b hb => ?_
      rw [← hx] at hb
      rw [hW, c4.block b (by have := hpvlt b hb; omega) (hpvv b hb), c3.block b (hpvlt b hb) (fun h => h)]
  · unfold lblks at hnd ⊢
    rw [List.flatMap_append, List.nodup_append, List.nodup_append]
    rw [List.nodup_append] at hnd
    have hl1 : ∀ b ∈ l.flatMap LF.blk, b < wr.heap.size := fun b hb => by obtain ⟨x, hx', hb⟩ := List.mem_flatMap.1 hb; exact hxlt x hx' b hb
    have hl2 : ∀ b ∈ [(⟨r.name, pp, cc, r.bytes, r.sure⟩ : LF)].flatMap LF.blk, w1.heap.size ≤ b ∧ b < w2.heap.size := fun b hb => by
      have hb' : sblk pv = some b := by rw [hx]; simpa [LF.blk] using hb
      exact ⟨b2 b hb', hpvlt b hb'⟩
    refine ⟨by cases sblk v' <;> simp, ⟨hnd.2.1, by simp [LF.blk]; cases sblk (⟨r.name, pp, cc, r.bytes, r.sure⟩ : LF).sv <;> simp, fun a ha b hb e => ?_⟩, fun a ha b hb e => ?_⟩
    · have := hl1 a ha; have := (hl2 b hb).1; omega
    · subst e
      have ha' : sblk v' = some a := by simpa using ha
      rcases b4 a ha' with h' | h'
      · rcases List.mem_append.1 hb with hb | hb
        · exact hnd.2.2 a (by simp [h']) a hb rfl
        · have := (hl2 a hb).1; have := hvlt a h'; omega
      · rcases List.mem_append.1 hb with hb | hb
        · have := hl1 a hb; omega
        · have := (hl2 a hb).2; omega
  · intro k hk
    unfold lblks at hk
    rw [List.flatMap_append] at hk
    rcases List.mem_append.1 hk with hk | hk
    · have hk' : sblk v' = some k := by simpa using hk
      rcases b4 k hk' with h' | h'
      · exact hlow k h'
      · omega
    · rcases List.mem_append.1 hk with hk | hk
      · exact h.low k (by unfold lblks; exact List.mem_append.2 (.inr hk))
      · have hb' : sblk pv = some k := by rw [hx]; simpa [LF.blk] using hk
        have := b2 k hb'; omega
  · rw [List.map_append]
    have := (filter_add (p := fun x : Raw => seen.contains x.born) (q := fun x => (seen.push r.born).contains x.born) (fun x : Raw => x.born) hst hr hun (fun y _ => contains_push seen r.born y.born)).map Raw.fl
    rw [List.map_append] at this
    exact (h.perm.append_right _).trans this.symm
  · rw [unseen_iter hi4, unseen_iter h.iter]
    refine Go.Dr.filter_lt (x := r) (fun y hy hq => ?_) hr (by simpa using hun) (by simp)
    rw [contains_push] at hq
    simp at hq ⊢
    exact hq.1
section
variable {w : World} {d m : Nat} {D : Dk} {L : List Raw} {clock : Nat} {r : Raw} {F : List Nat}

theorem left_mem' {e : En} {seen : Array Nat} (he : e ∈ left (L.map Raw.en) seen) : ∃ r ∈ L, r.en = e ∧ seen.contains r.born = false := by
  unfold left at he
  obtain ⟨h1, h2⟩ := List.mem_filter.1 he
  obtain ⟨r, hr, rfl⟩ := List.mem_map.1 h1
  exact ⟨r, hr, rfl, by simpa [Raw.en] using h2⟩
theorem left_none' {seen : Array Nat} (h : left (L.map Raw.en) seen = []) : ∀ r ∈ L, seen.contains r.born = true := fun r hr => by
  unfold left at h
  have := (List.filter_eq_nil_iff.1 h) r.en (List.mem_map_of_mem hr)
  simpa [Raw.en] using this

theorem got_start (w : World) (m clock : Nat) (L : List Raw) : FGot w (w.alloc (.mapIter (some m) clock #[] clock)) m w.heap.size clock L (.slice none 0 0) #[] [] :=
  ⟨(Chg.refl _ w).alloc _, halloc_at w _, ⟨OC_nil _ _ _, fun x hx => (by cases hx), by simp [lblks]⟩, fun k hk => by simp [lblks] at hk, by
    have : (L.filter fun r => (#[] : Array Nat).contains r.born) = [] := List.filter_eq_nil_iff.2 fun r _ => by simp
    rw [this]; exact .nil⟩

theorem files_close {w wr w1 w2 w3 w4 W' : World} {m clock : Nat} {L : List Raw} {pv' : Option Addr} {nv' cv' : Nat} {v pv : Value} {seen : Array Nat} {l : List LF} {r : Raw} (h : FGot w wr m w.heap.size clock L v seen l) (hst : (L.map (·.born)).Nodup)
    (hr : r ∈ L) (hun : seen.contains r.born = false) (h1 : Chg (· = w.heap.size) wr w1) (hi1 : w1.heap[w.heap.size]? = some (.mapIter (some m) clock (seen.push r.en.born) clock))
    {p : Option Addr} {n c : Nat} (hpv : pv = .slice p n c) (h2 : OB w2 5 pv ([] ++ r.bytes)) (c2 : Chg (fun _ => False) w1 w2) (b2 : ∀ b, sblk pv = some b → w1.heap.size ≤ b)
    (c3 : Chg (fun _ => False) w2 w3)
    (h4 : OC w4 3 106 (.slice pv' nv' cv') (l.length + 1) (l.flatMap LF.enc ++ [.string r.name, pv, .int .i64 (r.sure : Int)])) (c4 : Chg (fun b => sblk v = some b) w3 w4) (b4 : ∀ b, sblk (.slice pv' nv' cv') = some b → sblk v = some b ∨ w3.heap.size ≤ b)
    (hW : ∀ k : Nat, W'.heap[k]? = w4.heap[k]?) (cW : Chg (fun _ => False) w4 W') :
    (∃ p1 n1 c1, Value.slice pv' nv' cv' = .slice p1 n1 c1 ∧ ∃ seen l, FGot w W' m w.heap.size clock L (.slice pv' nv' cv') seen l) ∧ unseen W' w.heap.size L < unseen wr w.heap.size L := by
  obtain ⟨e1, e2⟩ := h.step (Nat.le_refl _) hst hr hun h1 hi1 hpv (by simpa using h2) c2 b2 c3 h4 c4 b4 hW cW
  exact ⟨⟨_, _, _, rfl, e1⟩, e2⟩

theorem files_done {w wr w1 : World} {m clock : Nat} {v : Value} {seen : Array Nat} {l l' : List LF} (ok : D.Ok) (hlt : ∀ k ∈ d :: m :: blks L, k < w.heap.size) (hG : FGot w wr m w.heap.size clock L v seen l)
    (hpl : (l.map LF.fl).Perm D.files) (hp : l'.Perm l) (hs : l'.Pairwise (fun x y => ¬ nlt y.name x.name)) (ho : OC w1 3 106 v l'.length (l'.flatMap LF.enc)) (hc : Chg (fun k => sblk v = some k) wr w1) :
    ∃ v' l, (Ending.returned v) = .returned v' ∧ FilesAt w1 v' l ∧ l.map LF.fl = D.files ∧ (∀ k ∈ lblks v' l, w.heap.size ≤ k) ∧ Chg (fun _ => False) w w1 := by
  have hnd : (lblks v l).Nodup := hG.at_.nodup
  have hperm : (lblks v l').Perm (lblks v l) := (hp.flatMap_right _).append_left _
  have hlow : ∀ k ∈ lblks v l', w.heap.size < k := fun k hk => hG.low k (hperm.subset hk)
  refine ⟨v, l', rfl, ⟨ho, fun x hx => ?_, hperm.nodup_iff.2 hnd⟩, ?_, fun k hk => Nat.le_of_lt (hlow k hk), ?_⟩
  · have hx' := hp.subset hx
    refine OC.chg (hG.at_.each x hx') hc fun b hb e => ?_
    unfold lblks at hnd
    rw [List.nodup_append] at hnd
    exact hnd.2.2 b (by simp [e]) b (List.mem_flatMap.2 ⟨x, hx', by simp [LF.blk, hb]⟩) rfl
  · have h1 : (l'.map LF.fl).Perm D.files := (hp.map _).trans hpl
    refine sorted_unique ?_ ok.sorted h1
    have hn : (l'.map (·.name)).Nodup := by
      have := (h1.map (·.name)).nodup_iff.2 ok.sorted.nodup
      simpa [List.map_map, Function.comp_def, LF.fl] using this
    unfold Sorted
    rw [List.pairwise_map]
    have hn' : l'.Pairwise (fun x y => x.name ≠ y.name) := by simpa [List.Nodup, List.pairwise_map] using hn
    refine (hs.and hn').imp fun {x y} ⟨h1, h2⟩ => ?_
    rcases nlt_tri x.name y.name with h | h | h
    · exact h
    · exact absurd h h2
    · exact absurd h h1
  · exact hG.chg.trans hc fun k hk => .inr (by have := hG.low k (by simp [lblks, hk]); omega)

set_option maxHeartbeats 4000000 in
/-- all files, by name, rising, in memory of their own -/
theorem files_any (hN : D.files.length ≤ 1099511627776) (h : DRep w d D F) :
    Calls Tryd.prog 40 #[.pointer (some ⟨d, 0, none⟩)] w fun e w' => ∃ v l, e = .returned v ∧ FilesAt w' v l ∧ l.map LF.fl = D.files ∧ (∀ k ∈ lblks v l, w.heap.size ≤ k) ∧ Chg (fun _ => False) w w' := by
  obtain ⟨m, L, clock, h, rfl⟩ := h
  obtain ⟨c0, c1, c2, c3, c4, c5, fz⟩ := h.cells
  have HM := Lib.hid h.map
  have HD := Lib.hid h
  have HN := Lib.hid hN
  clear c0 c1 c3 c4 c5 h hN fz
  go_enter Tryd.func40, Tryd.ntmps40
  go_wp2_with (first | (at_range; refine wpList_range_map rfl _ _ rfl Tryd.underlying54 rfl HM.out ?_))
  go_frame
  clear c2
  go_loopw [3] (fun v wr => ∃ pv nv cv, v = .slice pv nv cv ∧ ∃ seen l, FGot w wr m w.heap.size clock L v seen l) (fun _ wr => unseen wr w.heap.size L)
  case atStart =>
    exact ⟨none, 0, 0, rfl, #[], [], got_start w m clock L⟩
  case round =>
    obtain ⟨pv, nv, cv, rfl, seen, l, hG⟩ := hrel
    have hm1 : wr.heap[m]? = some (.map (ents (L.map Raw.en)) clock) := by rw [hG.chg.block m (HD.out.lt m (by simp)) (fun h => h)]; exact HD.out.map
    have HG := Lib.hid hG
    have HM1 := Lib.hid hm1
    have hb : ∀ e ∈ L.map Raw.en, e.born < clock := by
      intro e he
      obtain ⟨r, hr, rfl⟩ := List.mem_map.1 he
      exact HD.out.young r hr
    have HB := Lib.hid hb
    clear hG hm1 hb
    go_wp2_with (at_next; refine stop ?_)
    refine go ?_
    refine wpList_next_map rfl _ rfl rfl HM1.out HG.out.iter HB.out ?_ ?_
    · intro h0
      have H0 := Lib.hid (left_none' h0)
      clear h0 HB
      go_wp2_with (first | (go_at_call 54; refine stop ?_))
      refine go ?_
      have hpl : (l.map LF.fl).Perm D.files := by
        have h1 := HG.out.perm
        rw [List.filter_eq_self.2 H0.out] at h1
        exact h1.trans HD.out.perm
      have hll : l.length = D.files.length := by have := hpl.length_eq; simpa using this
      have HPL := Lib.hid hpl
      refine (sort_any HG.out.at_.sl (by have := HN.out; omega)).mono ?_
      rintro e w1 ⟨rfl, l', hp, hs, ho, hc⟩
      have HP := Lib.hid hp
      have HS := Lib.hid hs
      have HO := Lib.hid ho
      have HC := Lib.hid hc
      clear hpl hll hp hs ho hc
      go_wp2
      go_ret
      refine files_done HD.out.ok HD.out.lt HG.out HPL.out HP.out HS.out HO.out HC.out
    · intro e w1 he hc1 hi1 hs1
      obtain ⟨r, hr, hre, hun⟩ := left_mem' he
      subst hre
      have hD := HD.out
      have hit : ∀ x ∈ d :: m :: blks L, x ≠ w.heap.size := fun x hx e => by have := hD.lt x hx; omega
      have hb1 : ∀ x ∈ d :: m :: blks L, w1.heap[x]? = w.heap[x]? := fun x hx => (hc1.block x (by have := hD.lt x hx; have := HG.out.chg.size; omega) (hit x hx)).trans (HG.out.chg.block x (hD.lt x hx) (fun h => h))
      have hrb : ∀ x ∈ r.blks, x ∈ d :: m :: blks L := fun x hx => by simp only [List.mem_cons]; exact .inr (.inr (List.mem_flatMap.2 ⟨r, hr, hx⟩))
      have hrok : RawOk w1 r := (hD.raws r hr).keep fun x hx => hb1 x (hrb x hx)
      have hent : (Instr.entry (.pointer (some ⟨w.heap.size, 0, none⟩))).run Tryd.prog w1 = .ok (.tuple #[.string r.name, .pointer (some ⟨r.f, 0, none⟩)]) w1 := Hp.run_entry_map (P := Tryd.prog) w1 (m := m) (r := w.heap.size) (e := r.en) (by rw [hb1 m (by simp)]; exact hD.map) hi1 (List.mem_map_of_mem hr) (by
        rw [List.map_map]; exact hD.stamps)
      have q0 := hrok.cell0
      have q1 := hrok.cell1
      obtain ⟨p, c, hsv, hnc, hcm, hlen, hown⟩ := hrok.own
      rw [hsv] at q0
      have hrbb : RB w1 (.slice p r.bytes.length c) r.bytes := by rw [← hsv]; exact hrok.own.rb
      have hlb : r.bytes.length ≤ 1099511627776 := by
        have h1 := get_le (hD.get_of hr)
        have h1 : r.bytes.length ≤ total D.files := h1
        have h2 := hD.ok.used
        have h3 := hD.ok.limit
        have h4 : D.used = total D.files := rfl
        omega
      have hflt : r.f < w1.heap.size := hlt_of hrok.cells
      have hll : l.length ≤ 1099511627776 := by
        have h1 := HG.out.perm.length_eq
        have h2 := (HD.out.perm).length_eq
        have h3 : (L.filter fun r => seen.contains r.born).length ≤ L.length := List.length_filter_le _ _
        have h4 := HN.out
        simp only [List.length_map] at h1 h2
        omega
      have hne : w.heap.size < wr.heap.size := hlt_of HG.out.iter
      have HNE := Lib.hid hne
      have hrfw : r.f < w.heap.size := hD.lt r.f (hrb r.f (by simp [Raw.blks]))
      have HRFW := Lib.hid hrfw
      clear hrfw
      have HLL := Lib.hid hll
      have HFLT := Lib.hid hflt
      have HLB := Lib.hid hlb
      have HRBB := Lib.hid hrbb
      have HROK := Lib.hid hrok
      have HC1 := Lib.hid hc1
      have HI1 := Lib.hid hi1
      have HS1 := Lib.hid hs1
      have HUN := Lib.hid hun
      clear hD hit hb1 hrb hrok hsv hnc hcm hlen hown he hc1 hi1 hs1 hun HB hrbb hlb hflt hll hne
      go_wp2
      clear hent
      refine Rx.wp_region_sched (fun w' => w'.cell? ⟨r.f, 1, none⟩ = some (.int .i64 (r.sure : Int))) [(2, .r), (3, .r), (4, .r), (5, .r), (0, .h), (1, .h), (7, .h), (8, .h), (9, .h), (10, .h), (6, .e), (11, .r), (12, .e), (13, .e), (14, .r)] (by kernel_rfl) (by kernel_rfl) q1 (fun _ _ x _ _ h => (by cases x <;> exact h)) ?_
      iterate 4 (refine Rx.wpSched_q rfl rfl ?_; go_wp2; refine ⟨rfl, ?_⟩)
      iterate 6 (refine Rx.wpSched_h (v := ?_) rfl rfl ?_ ?_; rotate_left; (intro w' hS'; go_simp; try with_reducible rfl))
      refine Rx.wpSched_e rfl ?_
      refine wpList_append_bytes rfl _ _ rfl (v := .slice none 0 0) rfl rfl (OB_nil _ _) HRBB.out (by have := HLB.out; simp; omega) ?_
      intro pb lb cb w2 a1 a2 a3 a4
      have a2 : Chg (fun _ => False) w1 w2 := Chg.trans (Chg.refl (fun _ => False) w1).drew a2 (fun k hk => by simp at hk)
      have q2 : w2.cell? ⟨r.f, 1, none⟩ = some (.int .i64 (r.sure : Int)) := (a2.cell HFLT.out (fun h => h)).trans q1
      have A1 := Lib.hid a1
      have A2 := Lib.hid a2
      have A3 := Lib.hid a3
      clear a1 a2 a3 a4
      have hf2 : r.f < w2.heap.size := Nat.lt_of_lt_of_le HFLT.out A2.out.size
      have q3 := (World.cell?_of_block (a := ⟨r.f, 1, none⟩) (w := w2) (halloc_lt (o := .cells #[.string r.name, .slice pb lb cb, .int .i64 (r.sure : Int)] 106) hf2)).trans q2
      have Q3 := Lib.hid q3
      have HSL2 : Hid (OC (w2.alloc (.cells #[.string r.name, .slice pb lb cb, .int .i64 (r.sure : Int)] 106)) 3 106 (.slice pv nv cv) l.length (l.flatMap LF.enc)) := Lib.hid (OC.keep HG.out.at_.sl fun b hb => by
        have h1 := OC.lt HG.out.at_.sl hb
        have h2 := HG.out.low b (mem_lblks hb)
        have h3 := HS1.out
        rw [halloc_lt (by have := A2.out.size; omega), A2.out.block b (by omega) (fun h => h), HC1.out.block b h1 (by omega)])
      have HRC : Hid (RC (w2.alloc (.cells #[.string r.name, .slice pb lb cb, .int .i64 (r.sure : Int)] 106)) 3 (.slice (some ⟨w2.heap.size, 0, none⟩) 1 1) 1 [.string r.name, .slice pb lb cb, .int .i64 (r.sure : Int)]) :=
        Lib.hid (OC_new w2 3 106 #[.string r.name, .slice pb lb cb, .int .i64 (r.sure : Int)] 1 1 (by decide) (by unfold maxLen; decide) rfl).rc
      clear q3 hf2
      go_wp2
      refine ⟨(by exact q2), ?_⟩
      (refine Rx.wpSched_q rfl rfl ?_; go_wp2; refine ⟨rfl, ?_⟩)
      refine Rx.wpSched_e rfl ?_
      go_wp2
      refine ⟨(by exact Q3.out), ?_⟩
      refine Rx.wpSched_e rfl ?_
      (obtain ⟨i0, hi, hz0, hz1, hz2⟩ := info_parts info_file)
      refine wpList_append_oc rfl _ _ 74 rfl 106 i0 _ 3 48 Tryd.underlying74 hi hz0 hz1 hz2 rfl (by decide) rfl rfl HSL2.out HRC.out (by intro u hu; simp at hu; rcases hu with rfl | rfl | rfl <;> rfl) (by decide) (by have := HLL.out; omega) ?_
      intro v' w4 b1 b2 b3 b4
      obtain ⟨pv', cv', rfl, -⟩ := id b1
      have B1 := Lib.hid b1
      have B2 := Lib.hid b2
      have B3 := Lib.hid b3
      clear b1 b2 b3 b4 hi hz0 hz1 hz2
      have q4 : w4.cell? ⟨r.f, 1, none⟩ = some (.int .i64 (r.sure : Int)) := (B2.out.cell (by have := HFLT.out; have := A2.out.size; simp; omega) (fun e => by have h1 := HG.out.low r.f (mem_lblks e); have h2 := HRFW.out; omega)).trans Q3.out
      go_wp2
      refine ⟨(by exact q4), ?_⟩
      (refine Rx.wpSched_q rfl rfl ?_; go_wp2; refine ⟨rfl, ?_⟩)
      refine Rx.wpSched_nil ?_
      go_wp2
      refine files_close HG.out HD.out.stamps hr HUN.out HC1.out HI1.out rfl A1.out A2.out (fun b hb => (A3.out b hb).elim (fun h => by simp at h) id) ((Chg.refl (fun _ => False) w2).alloc _) B1.out B2.out B3.out ?_ ?_
      · intro k; first | rfl | (simp only [heap_drew])
      · first | exact Chg.refl _ _ | exact (Chg.refl _ _).drew
end
end Go.Proofs
