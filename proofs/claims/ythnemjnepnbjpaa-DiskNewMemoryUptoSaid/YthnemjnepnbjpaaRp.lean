/- The document's disk, plainly: what 'store' makes of a rising list of files; a crash file by file. No program in sight. -/
import Derived.Test.YthnemjnepnbjpaaDp
namespace Go.Proofs
open Go.Dm
set_option linter.unusedVariables false

/-- one file of the old list is passed on: f is put ahead of the first greater one, or in the place of its like -/
def stGo {α : Type} (nm : α → ByteArray) (f : α) : List α → Bool → List α
  | [], d => if d then [] else [f]
  | g :: l, true => if nm g = nm f then stGo nm f l true else g :: stGo nm f l true
  | g :: l, false => if nlt (nm f) (nm g) then f :: (if nm g = nm f then stGo nm f l true else g :: stGo nm f l true) else if nm g = nm f then f :: stGo nm f l true else g :: stGo nm f l false
/-- the same, step by step -/
def stStep {α : Type} (nm : α → ByteArray) (f : α) (st : List α × Bool) (g : α) : List α × Bool :=
  if st.2 then (if nm g = nm f then st else (st.1 ++ [g], true))
  else if nlt (nm f) (nm g) then ((if nm g = nm f then st.1 ++ [f] else st.1 ++ [f] ++ [g]), true)
  else if nm g = nm f then (st.1 ++ [f], true) else (st.1 ++ [g], false)
def stFold {α : Type} (nm : α → ByteArray) (f : α) (d : Bool) (l : List α) : List α × Bool := l.foldl (stStep nm f) ([], d)

theorem stFold_snoc {α : Type} (nm : α → ByteArray) (f : α) (d : Bool) (l : List α) (g : α) : stFold nm f d (l ++ [g]) = stStep nm f (stFold nm f d l) g := by simp [stFold]
theorem stFold_go {α : Type} (nm : α → ByteArray) (f : α) : ∀ (l : List α) (acc : List α) (d : Bool),
    (let st := l.foldl (stStep nm f) (acc, d); st.1 ++ (if st.2 then [] else [f])) = acc ++ stGo nm f l d
  | [], acc, d => by cases d <;> rfl
  | g :: l, acc, true => by
    show (let st := l.foldl (stStep nm f) (stStep nm f (acc, true) g); st.1 ++ (if st.2 then [] else [f])) = _
    by_cases h : nm g = nm f
    · have e : stStep nm f (acc, true) g = (acc, true) := by simp [stStep, h]
      have e2 : stGo nm f (g :: l) true = stGo nm f l true := by simp [stGo, h]
      rw [e, e2]; exact stFold_go nm f l acc true
    · have e : stStep nm f (acc, true) g = (acc ++ [g], true) := by simp [stStep, h]
      have e2 : stGo nm f (g :: l) true = g :: stGo nm f l true := by simp [stGo, h]
      rw [e, e2, stFold_go nm f l (acc ++ [g]) true]; simp
  | g :: l, acc, false => by
    show (let st := l.foldl (stStep nm f) (stStep nm f (acc, false) g); st.1 ++ (if st.2 then [] else [f])) = _
    by_cases h1 : nlt (nm f) (nm g)
    · by_cases h : nm g = nm f
      · exact absurd h1 (by rw [h]; exact nlt_irrefl _)
      · have e : stStep nm f (acc, false) g = (acc ++ [f] ++ [g], true) := by simp [stStep, h, h1]
        have e2 : stGo nm f (g :: l) false = f :: g :: stGo nm f l true := by simp [stGo, h, h1]
        rw [e, e2, stFold_go nm f l (acc ++ [f] ++ [g]) true]; simp
    · by_cases h : nm g = nm f
      · have e : stStep nm f (acc, false) g = (acc ++ [f], true) := by
          unfold stStep; rw [if_neg (by simp), if_neg h1, if_pos h]
        have e2 : stGo nm f (g :: l) false = f :: stGo nm f l true := by
          show (if nlt (nm f) (nm g) then _ else if nm g = nm f then f :: stGo nm f l true else g :: stGo nm f l false) = _
          rw [if_neg h1, if_pos h]
        rw [e, e2, stFold_go nm f l (acc ++ [f]) true]; simp
      · have e : stStep nm f (acc, false) g = (acc ++ [g], false) := by
          unfold stStep; rw [if_neg (by simp), if_neg h1, if_neg h]
        have e2 : stGo nm f (g :: l) false = g :: stGo nm f l false := by
          show (if nlt (nm f) (nm g) then _ else if nm g = nm f then f :: stGo nm f l true else g :: stGo nm f l false) = _
          rw [if_neg h1, if_neg h]
        rw [e, e2, stFold_go nm f l (acc ++ [g]) false]; simp
theorem stFold_all {α : Type} (nm : α → ByteArray) (f : α) (d : Bool) (l : List α) : (stFold nm f d l).1 ++ (if (stFold nm f d l).2 then [] else [f]) = stGo nm f l d := by
  have := stFold_go nm f l [] d
  rw [List.nil_append] at this
  exact this
theorem stGo_map {α β : Type} {nm : α → ByteArray} {nm' : β → ByteArray} {h : α → β} (hn : ∀ x, nm' (h x) = nm x) (f : α) : ∀ (l : List α) (d : Bool), (stGo nm f l d).map h = stGo nm' (h f) (l.map h) d
  | [], d => by cases d <;> rfl
  | g :: l, true => by
    simp only [stGo, List.map_cons, hn]
    split <;> simp [stGo_map hn f l]
  | g :: l, false => by
    simp only [stGo, List.map_cons, hn]
    split
    · split <;> simp [stGo_map hn f l]
    · split <;> simp [stGo_map hn f l]

/-- the list with f in its place (or without it) -/
def storeL (f : Fl) (there : Bool) (l : List Fl) : List Fl := stGo Fl.name f l (!there)
theorem stGo_del (f : Fl) : ∀ l : List Fl, stGo Fl.name f l true = del f.name l
  | [] => rfl
  | g :: l => by
    unfold del
    by_cases h : g.name = f.name
    · rw [List.filter_cons_of_neg (by simpa using h)]
      have e : stGo Fl.name f (g :: l) true = stGo Fl.name f l true := by simp [stGo, h]
      rw [e]; exact stGo_del f l
    · rw [List.filter_cons_of_pos (by simpa using h)]
      have e : stGo Fl.name f (g :: l) true = g :: stGo Fl.name f l true := by simp [stGo, h]
      rw [e, stGo_del f l]; rfl
theorem del_none {nm : ByteArray} {l : List Fl} (h : ∀ g ∈ l, g.name ≠ nm) : del nm l = l := by
  unfold del
  exact List.filter_eq_self.2 fun g hg => by simpa using h g hg
theorem storeL_gone (f : Fl) (l : List Fl) : storeL f false l = del f.name l := stGo_del f l
theorem storeL_there (f : Fl) : ∀ {l : List Fl}, Sorted l → storeL f true l = (match Dm.get l f.name with | some _ => upd f.name (fun _ => f) l | none => ins f l)
  | [], _ => rfl
  | g :: l, hs => by
    have hs2 := List.pairwise_cons.1 hs
    unfold storeL
    by_cases h1 : nlt f.name g.name
    · have hne : ∀ x ∈ g :: l, x.name ≠ f.name := fun x hx e => by
        rcases List.mem_cons.1 hx with rfl | hx
        · rw [e] at h1; exact nlt_irrefl _ h1
        · have := nlt_trans h1 (hs2.1 x hx)
          rw [e] at this; exact nlt_irrefl _ this
      have hg : Dm.get (g :: l) f.name = none := by
        unfold Dm.get
        rw [List.find?_eq_none]
        intro x hx e
        exact hne x hx ((MapKept.bytes_beq _ _).1 e)
      have e : stGo Fl.name f (g :: l) (!true) = f :: g :: stGo Fl.name f l true := by
        show (if nlt f.name g.name then _ else _) = _
        rw [if_pos h1, if_neg (hne g (by simp))]
      rw [e, hg, stGo_del, del_none fun x hx => hne x (by simp [hx])]
      show _ = ins f (g :: l)
      unfold ins
      rw [if_pos h1]
    · by_cases h : g.name = f.name
      · have hne : ∀ x ∈ l, x.name ≠ f.name := fun x hx e => by
          have := hs2.1 x hx
          rw [h, e] at this; exact nlt_irrefl _ this
        have hg : Dm.get (g :: l) f.name = some g := by
          unfold Dm.get
          rw [List.find?_cons, (MapKept.bytes_beq _ _).2 h]
        have e : stGo Fl.name f (g :: l) (!true) = f :: stGo Fl.name f l true := by
          show (if nlt f.name g.name then _ else if g.name = f.name then f :: stGo Fl.name f l true else _) = _
          rw [if_neg h1, if_pos h]
        rw [e, hg, stGo_del, del_none hne]
        show _ = upd f.name (fun _ => f) (g :: l)
        unfold upd
        rw [List.map_cons, if_pos h]
        congr 1
        conv => lhs; rw [← List.map_id l]
        exact List.map_congr_left fun x hx => by rw [if_neg (hne x hx)]; rfl
      · have hb : (g.name == f.name) = false := by
          cases hb : g.name == f.name with
          | false => rfl
          | true => exact absurd ((MapKept.bytes_beq _ _).1 hb) h
        have hg : Dm.get (g :: l) f.name = Dm.get l f.name := by
          unfold Dm.get
          rw [List.find?_cons, hb]
        have e : stGo Fl.name f (g :: l) (!true) = g :: stGo Fl.name f l false := by
          show (if nlt f.name g.name then _ else if g.name = f.name then _ else g :: stGo Fl.name f l false) = _
          rw [if_neg h1, if_neg h]
        have ih := storeL_there f hs2.2
        unfold storeL at ih
        rw [e, hg]
        have ih : stGo Fl.name f l false = _ := ih
        rw [ih]
        cases Dm.get l f.name with
        | none =>
          show g :: ins f l = ins f (g :: l)
          rw [show ins f (g :: l) = if nlt f.name g.name then f :: g :: l else g :: ins f l from rfl, if_neg h1]
        | some x =>
          show g :: upd f.name (fun _ => f) l = upd f.name (fun _ => f) (g :: l)
          unfold upd
          rw [List.map_cons, if_neg h]

/-! ### a crash, file by file -/
def survF (k : Nat) (f : Fl) : Fl := ⟨f.name, f.bytes.take (f.sure + k), (f.bytes.take (f.sure + k)).length⟩
theorem surv_eq (k : Nat) (f : Fl) : surv k f = if 0 < (survF k f).bytes.length then some (survF k f) else none := by
  unfold surv survF
  simp only
  by_cases h : f.bytes.take (f.sure + k) = []
  · rw [if_pos h, h]; rfl
  · rw [if_neg h, if_pos (List.length_pos_iff.2 h)]
/-- behind i files: those are crashed, the others not yet -/
def crashCur (k : Nat) (old : List Fl) (i : Nat) : List Fl := (old.take i).filterMap (surv k) ++ old.drop i
theorem surv_names (k : Nat) : ∀ l : List Fl, ((l.filterMap (surv k)).map (·.name)).Sublist (l.map (·.name))
  | [] => List.Sublist.refl _
  | f :: l => by
    rw [List.filterMap_cons]
    cases h : surv k f with
    | none => simp only; exact (surv_names k l).cons _
    | some g => simp only [List.map_cons]; rw [surv_name h]; exact (surv_names k l).cons_cons _
theorem cur_names (k : Nat) (old : List Fl) (i : Nat) : ((crashCur k old i).map (·.name)).Sublist (old.map (·.name)) := by
  unfold crashCur
  rw [List.map_append]
  have h := (surv_names k (old.take i)).append (List.Sublist.refl ((old.drop i).map (·.name)))
  have e : (old.take i).map (·.name) ++ (old.drop i).map (·.name) = old.map (·.name) := by rw [← List.map_append, List.take_append_drop]
  rw [e] at h
  exact h
theorem sorted_iff (l : List Fl) : Sorted l ↔ (l.map (·.name)).Pairwise nlt := by unfold Sorted; rw [List.pairwise_map]
theorem cur_sorted {old : List Fl} (h : Sorted old) (k i : Nat) : Sorted (crashCur k old i) := by
  rw [sorted_iff] at *
  exact h.sublist (cur_names k old i)
theorem cur_total (k : Nat) (old : List Fl) (i : Nat) : total (crashCur k old i) ≤ total old := by
  have h1 : ∀ a b : List Fl, total (a ++ b) = total a + total b := fun a b => by simp [total]
  have h2 : total old = total (old.take i) + total (old.drop i) := by rw [← h1, List.take_append_drop]
  have h3 : total ((old.take i).filterMap (surv k)) ≤ total (old.take i) := total_lose k (old.take i)
  unfold crashCur
  rw [h1, h2]
  omega
theorem cur_len (k : Nat) (old : List Fl) (i : Nat) : (crashCur k old i).length ≤ old.length := by
  have := (cur_names k old i).length_le
  simpa using this
theorem cur_sure {old : List Fl} (h : ∀ f ∈ old, f.sure ≤ f.bytes.length) (k i : Nat) : ∀ f ∈ crashCur k old i, f.sure ≤ f.bytes.length := fun f hf => by
  rcases List.mem_append.1 hf with hf | hf
  · obtain ⟨x, -, hx⟩ := List.mem_filterMap.1 hf
    exact (surv_len hx).2
  · exact h f (List.mem_of_mem_drop hf)
theorem cur_zero (k : Nat) (old : List Fl) : crashCur k old 0 = old := by simp [crashCur]
theorem cur_all (k : Nat) (old : List Fl) {i : Nat} (h : old.length ≤ i) : crashCur k old i = loseL k old := by
  unfold crashCur loseL
  rw [List.take_of_length_le h, List.drop_of_length_le h, List.append_nil]

theorem upd_mid {nm : ByteArray} {g : Fl → Fl} {A B : List Fl} {x : Fl} (hA : ∀ a ∈ A, a.name ≠ nm) (hx : x.name = nm) (hB : ∀ b ∈ B, b.name ≠ nm) : upd nm g (A ++ x :: B) = A ++ g x :: B := by
  have e : ∀ l : List Fl, (∀ a ∈ l, a.name ≠ nm) → l.map (fun f => if f.name = nm then g f else f) = l := fun l hl => by
    conv => rhs; rw [← List.map_id l]
    exact List.map_congr_left fun y hy => by rw [if_neg (hl y hy)]; rfl
  unfold upd
  rw [List.map_append, List.map_cons, e A hA, e B hB, if_pos hx]
theorem del_mid {nm : ByteArray} {A B : List Fl} {x : Fl} (hA : ∀ a ∈ A, a.name ≠ nm) (hx : x.name = nm) (hB : ∀ b ∈ B, b.name ≠ nm) : del nm (A ++ x :: B) = A ++ B := by
  unfold del
  rw [List.filter_append, List.filter_cons_of_neg (by simpa using hx)]
  have e : ∀ l : List Fl, (∀ a ∈ l, a.name ≠ nm) → l.filter (fun f => decide (f.name ≠ nm)) = l := fun l hl => List.filter_eq_self.2 fun y hy => by simpa using hl y hy
  rw [e A hA, e B hB]

theorem crash_step {old : List Fl} (h : Sorted old) {k i : Nat} {x : Fl} (hx : old[i]? = some x) :
    storeL (survF k x) (decide (0 < (survF k x).bytes.length)) (crashCur k old i) = crashCur k old (i + 1) := by
  obtain ⟨hi, hxi⟩ := List.getElem?_eq_some_iff.1 hx
  have e1 : crashCur k old i = (old.take i).filterMap (surv k) ++ x :: old.drop (i + 1) := by
    unfold crashCur
    rw [List.drop_eq_getElem_cons hi, hxi]
  have e2 : crashCur k old (i + 1) = (old.take i).filterMap (surv k) ++ ((match surv k x with | none => [] | some y => [y]) ++ old.drop (i + 1)) := by
    unfold crashCur
    rw [List.take_succ_eq_append_getElem hi, hxi, List.filterMap_append, List.append_assoc]
    congr 2
    rw [List.filterMap_cons]
    cases surv k x <;> rfl
  have hsrt := cur_sorted h k i
  rw [e1] at hsrt
  have hnd := hsrt.nodup
  rw [List.map_append, List.map_cons, List.nodup_append] at hnd
  have hA : ∀ a ∈ (old.take i).filterMap (surv k), a.name ≠ x.name := fun a ha => hnd.2.2 a.name (List.mem_map_of_mem ha) x.name (by simp)
  have hB : ∀ b ∈ old.drop (i + 1), b.name ≠ x.name := fun b hb e => (List.nodup_cons.1 hnd.2.1).1 (e ▸ List.mem_map_of_mem hb)
  have hnx : (survF k x).name = x.name := rfl
  rw [e2, surv_eq]
  by_cases hp : 0 < (survF k x).bytes.length
  · rw [if_pos hp, decide_eq_true hp, e1, storeL_there _ hsrt]
    have hg : Dm.get ((old.take i).filterMap (surv k) ++ x :: old.drop (i + 1)) (survF k x).name = some x := by
      rw [hnx]
      exact get_of_mem hsrt.nodup (by simp)
    rw [hg]
    show upd (survF k x).name (fun _ => survF k x) _ = _
    rw [hnx, upd_mid hA rfl hB]
    rfl
  · rw [if_neg hp, decide_eq_false hp, e1, storeL_gone, hnx, del_mid hA rfl hB]
    rfl

/-! ### deeds -/
theorem upd_get {l : List Fl} (hn : (l.map (·.name)).Nodup) {nm : ByteArray} {f : Fl} (hg : Dm.get l nm = some f) (g : Fl → Fl) : upd nm (fun _ => g f) l = upd nm g l := by
  unfold upd
  refine List.map_congr_left fun x hx => ?_
  by_cases h : x.name = nm
  · rw [if_pos h, if_pos h]
    have h1 := get_of_mem hn hx
    rw [h, hg] at h1
    rw [Option.some.inj h1]
  · rw [if_neg h, if_neg h]
/-- a file that is there, turned -/
theorem storeL_upd {l : List Fl} (hs : Sorted l) {nm : ByteArray} {f : Fl} (hg : Dm.get l nm = some f) (g : Fl → Fl) (hn : (g f).name = nm) : storeL (g f) true l = upd nm g l := by
  rw [storeL_there _ hs, hn, hg]
  exact upd_get hs.nodup hg g
theorem storeL_put {l : List Fl} (hs : Sorted l) (nm : ByteArray) (b : List UInt8) : storeL ⟨nm, bytesOf l nm ++ b, sureOf l nm⟩ true l = putB nm b l := by
  unfold putB bytesOf sureOf
  cases hg : Dm.get l nm with
  | none => rw [storeL_there _ hs]; simp only; rw [hg]; rfl
  | some f =>
    simp only
    have hn := (get_some hg).2
    have := storeL_upd hs hg (fun f => { f with bytes := f.bytes ++ b }) hn
    rw [← this, ← hn]

theorem total_upd_le (nm : ByteArray) (g : Fl → Fl) (hg : ∀ f, (g f).bytes.length ≤ f.bytes.length) : ∀ l : List Fl, total (upd nm g l) ≤ total l
  | [] => Nat.le_refl _
  | x :: l => by
    have ih := total_upd_le nm g hg l
    have e : upd nm g (x :: l) = (if x.name = nm then g x else x) :: upd nm g l := rfl
    rw [e, total_cons, total_cons]
    have : (if x.name = nm then g x else x).bytes.length ≤ x.bytes.length := by
      by_cases h : x.name = nm
      · rw [if_pos h]; exact hg x
      · rw [if_neg h]; exact Nat.le_refl _
    omega
section
variable {D : Dk}
theorem deed_ok (h : D.Ok) (nm : ByteArray) (g : Fl → Fl) (hn : ∀ f, (g f).name = f.name) (hl : ∀ f, (g f).bytes.length ≤ f.bytes.length) (hs : ∀ f, f.sure ≤ f.bytes.length → (g f).sure ≤ (g f).bytes.length) :
    ({ D with files := upd nm g D.files } : Dk).Ok :=
  h.upd hn (fun f hf _ => hs f (h.sure f hf)) (Nat.le_trans (total_upd_le nm g hl D.files) h.used)
theorem put_ok (h : D.Ok) (nm : ByteArray) (b : List UInt8) (hb : b.length ≤ D.limit - D.used) : ({ D with files := putB nm b D.files } : Dk).Ok := by
  have ht := total_putB h nm b
  have hu := h.used
  have e : D.used = total D.files := rfl
  have hlim : total (putB nm b D.files) ≤ D.limit := by omega
  unfold putB at hlim ⊢
  cases hg : Dm.get D.files nm with
  | some f =>
    rw [hg] at hlim
    simp only at hlim ⊢
    exact h.upd (fun _ => rfl) (fun f hf _ => by have := h.sure f hf; simp; omega) hlim
  | none =>
    rw [hg] at hlim
    simp only at hlim ⊢
    exact { h with
      sorted := ins_sorted h.sorted (fun g hg' => get_none hg g hg')
      sure := fun f hf => by
        rcases List.mem_cons.1 ((ins_perm _ _).subset hf) with rfl | hf
        · exact Nat.zero_le _
        · exact h.sure f hf
      used := hlim }
end
end Go.Proofs
