/- The disk, plainly: a list of files by name, rising, each with its bytes and how many of them are durable; what every call does to it and answers. No program in sight. -/
import Derived.WalkKit
namespace Go.Dm
set_option linter.unusedVariables false

/-- a name's order: as strings are compared -/
def nlt (a b : ByteArray) : Prop := a.data.toList < b.data.toList
instance (a b : ByteArray) : Decidable (nlt a b) := inferInstanceAs (Decidable (a.data.toList < b.data.toList))

theorem bytes_ext {a b : ByteArray} (h : a.data.toList = b.data.toList) : a = b := by
  cases a; cases b; simp at h; congr

theorem nlt_irrefl (a : ByteArray) : ¬ nlt a a := List.lt_irrefl _
theorem nlt_trans {a b c : ByteArray} (h : nlt a b) (k : nlt b c) : nlt a c := List.lt_trans h k
theorem nlt_asymm {a b : ByteArray} (h : nlt a b) : ¬ nlt b a := fun k => nlt_irrefl a (nlt_trans h k)
theorem nlt_tri (a b : ByteArray) : nlt a b ∨ a = b ∨ nlt b a := by
  by_cases h1 : nlt a b
  · exact .inl h1
  · by_cases h2 : nlt b a
    · exact .inr (.inr h2)
    · exact .inr (.inl (bytes_ext (List.le_antisymm (List.not_lt.1 h2) (List.not_lt.1 h1))))
theorem nlt_ne {a b : ByteArray} (h : nlt a b) : a ≠ b := fun e => nlt_irrefl b (e ▸ h)

structure Fl where
  name : ByteArray
  bytes : List UInt8
  sure : Nat
deriving DecidableEq

def isNameByte (b : UInt8) : Bool := (97 ≤ b && b ≤ 122) || (48 ≤ b && b ≤ 57) || b == 46 || b == 95 || b == 45
def okName (s : ByteArray) : Bool := 1 ≤ s.size && s.size ≤ 32 && s.data.toList.all isNameByte

structure Dk where
  limit : Nat
  files : List Fl
  down : Bool
  steps : Nat
  keep : Int

def total (l : List Fl) : Nat := (l.map fun f => f.bytes.length).sum
def Dk.used (D : Dk) : Nat := total D.files

/-- rising by name -/
def Sorted (l : List Fl) : Prop := l.Pairwise fun a b => nlt a.name b.name

/-- what is always so -/
structure Dk.Ok (D : Dk) : Prop where
  sorted : Sorted D.files
  sure : ∀ f ∈ D.files, f.sure ≤ f.bytes.length
  used : D.used ≤ D.limit
  limit : D.limit ≤ 1099511627776
  steps : D.steps ≤ 9223372036854775807
  keepLo : -9223372036854775808 ≤ D.keep
  keepHi : D.keep ≤ 9223372036854775807
  armed : D.steps ≠ 0 → 0 ≤ D.keep

def get (l : List Fl) (nm : ByteArray) : Option Fl := l.find? fun f => f.name == nm
/-- a file changed -/
def upd (nm : ByteArray) (g : Fl → Fl) (l : List Fl) : List Fl := l.map fun f => if f.name = nm then g f else f
/-- a new file, in its place -/
def ins (f : Fl) : List Fl → List Fl
  | [] => [f]
  | g :: r => if nlt f.name g.name then f :: g :: r else g :: ins f r
def del (nm : ByteArray) (l : List Fl) : List Fl := l.filter fun f => f.name ≠ nm
/-- what a crash leaves of a file -/
def surv (k : Nat) (f : Fl) : Option Fl :=
  let b := f.bytes.take (f.sure + k)
  if b = [] then none else some ⟨f.name, b, b.length⟩
def loseL (k : Nat) (l : List Fl) : List Fl := l.filterMap (surv k)
def Dk.lose (D : Dk) (k : Nat) : Dk := { D with files := loseL k D.files, down := true, steps := 0 }

/-- the error of a call that names a file: 0, or what refuses it -/
def Dk.look (D : Dk) (nm : ByteArray) : Nat :=
  if D.down then 110 else if okName nm then (match get D.files nm with | some _ => 0 | none => 112) else 113

/-- a changing call is counted: does it crash? and the disk behind -/
def Dk.fires (D : Dk) : Bool := D.steps == 1
def Dk.tick (D : Dk) : Dk := { D with steps := D.steps - 1 }

def putB (nm : ByteArray) (b : List UInt8) (l : List Fl) : List Fl :=
  match get l nm with
  | some _ => upd nm (fun f => { f with bytes := f.bytes ++ b }) l
  | none => ins ⟨nm, b, 0⟩ l

def Dk.append (D : Dk) (nm : ByteArray) (b : List UInt8) : (Nat × Nat) × Dk :=
  let e := D.look nm
  if e = 0 ∨ e = 112 then
    let n := min b.length (D.limit - D.used)
    let D1 := { D with files := putB nm (b.take n) D.files }
    if D1.fires then ((0, 110), D1.tick.lose D.keep.toNat)
    else ((n, if n < b.length then 111 else 0), D1.tick)
  else ((0, e), D)

/-- Sync, Cut, Remove: a change that nothing has refused -/
def Dk.change (D : Dk) (g : List Fl → List Fl) : Nat × Dk :=
  if D.fires then (110, D.tick.lose D.keep.toNat) else (0, { D.tick with files := g D.files })

def Dk.sync (D : Dk) (nm : ByteArray) : Nat × Dk :=
  if D.look nm = 0 then D.change (upd nm fun f => { f with sure := f.bytes.length }) else (D.look nm, D)

def lenOf (l : List Fl) (nm : ByteArray) : Nat := match get l nm with | some f => f.bytes.length | none => 0

def Dk.cut (D : Dk) (nm : ByteArray) (n : Int) : Nat × Dk :=
  if D.look nm = 0 then
    if n < 0 ∨ (lenOf D.files nm : Int) < n then (12, D)
    else D.change (upd nm fun f => { f with bytes := f.bytes.take n.toNat, sure := min f.sure n.toNat })
  else (D.look nm, D)

def Dk.remove (D : Dk) (nm : ByteArray) : Nat × Dk :=
  if D.look nm = 0 then D.change (del nm) else (D.look nm, D)

def bytesOf (l : List Fl) (nm : ByteArray) : List UInt8 := match get l nm with | some f => f.bytes | none => []
def sureOf (l : List Fl) (nm : ByteArray) : Nat := match get l nm with | some f => f.sure | none => 0

def Dk.read (D : Dk) (nm : ByteArray) (off n : Int) : List UInt8 × Nat :=
  if D.look nm = 0 then
    if off < 0 ∨ n < 0 ∨ (lenOf D.files nm : Int) < off ∨ (lenOf D.files nm : Int) - off < n then ([], 12)
    else (((bytesOf D.files nm).drop off.toNat).take n.toNat, 0)
  else ([], D.look nm)

def Dk.size (D : Dk) (nm : ByteArray) : Nat × Nat × Nat :=
  if D.look nm = 0 then (lenOf D.files nm, sureOf D.files nm, 0) else (0, 0, D.look nm)

def Dk.arm (D : Dk) (steps keep : Int) : Nat × Dk :=
  if D.down then (110, D)
  else if steps < 0 ∨ (0 < steps ∧ keep < 0) then (12, D)
  else (0, { D with steps := steps.toNat, keep := keep })

def Dk.crash (D : Dk) (keep : Int) : Nat × Dk :=
  if D.down then (110, D) else if keep < 0 then (12, D) else (0, D.lose keep.toNat)

def Dk.up (D : Dk) : Dk := { D with down := false, steps := 0 }

def Dk.turn (D : Dk) (nm : ByteArray) (at_ : Int) (mask : UInt8) : Nat × Dk :=
  if D.look nm = 0 then
    if at_ < 0 ∨ (lenOf D.files nm : Int) ≤ at_ then (12, D)
    else (0, { D with files := upd nm (fun f => { f with bytes := f.bytes.modify at_.toNat (· ^^^ mask) }) D.files })
  else (D.look nm, D)

/-! ### plain laws -/
theorem Sorted.nodup {l : List Fl} (h : Sorted l) : (l.map (·.name)).Nodup := by
  unfold Sorted at h
  rw [List.nodup_iff_pairwise_ne, List.pairwise_map]
  exact h.imp fun h => nlt_ne h

theorem get_some {l : List Fl} {nm : ByteArray} {f : Fl} (h : get l nm = some f) : f ∈ l ∧ f.name = nm := by
  unfold get at h
  exact ⟨List.mem_of_find?_eq_some h, by
    have := List.find?_some h
    exact (MapKept.bytes_beq _ _).1 this⟩
theorem get_none {l : List Fl} {nm : ByteArray} (h : get l nm = none) : ∀ f ∈ l, f.name ≠ nm := by
  intro f hf e
  unfold get at h
  rw [List.find?_eq_none] at h
  exact h f hf ((MapKept.bytes_beq _ _).2 e)
theorem get_of_mem {l : List Fl} (hn : (l.map (·.name)).Nodup) {f : Fl} (hf : f ∈ l) : get l f.name = some f := by
  cases h : get l f.name with
  | none => exact absurd rfl (get_none h f hf)
  | some g =>
    obtain ⟨hg, he⟩ := get_some h
    clear h
    congr 1
    induction l with
    | nil => cases hf
    | cons x l ih =>
      simp only [List.map_cons, List.nodup_cons] at hn
      rcases List.mem_cons.1 hf with rfl | hf' <;> rcases List.mem_cons.1 hg with rfl | hg'
      · rfl
      · exact absurd (he ▸ List.mem_map_of_mem hg') hn.1
      · exact absurd (he ▸ List.mem_map_of_mem hf') hn.1
      · exact ih hn.2 hf' hg'
theorem get_perm {l l' : List Fl} (hp : l.Perm l') (hn : (l.map (·.name)).Nodup) (nm : ByteArray) : get l nm = get l' nm := by
  have hn' : (l'.map (·.name)).Nodup := (hp.map _).nodup_iff.1 hn
  cases h : get l nm with
  | none =>
    cases h' : get l' nm with
    | none => rfl
    | some f => obtain ⟨h1, h2⟩ := get_some h'; exact absurd h2 (get_none h f (hp.symm.subset h1))
  | some f =>
    obtain ⟨h1, h2⟩ := get_some h
    have := get_of_mem hn' (hp.subset h1)
    rw [h2] at this; exact this.symm

theorem total_perm {l l' : List Fl} (hp : l.Perm l') : total l = total l' := (hp.map _).sum_nat

theorem ins_perm (f : Fl) : ∀ l : List Fl, (ins f l).Perm (f :: l)
  | [] => List.Perm.refl _
  | g :: r => by
    unfold ins
    split
    · exact List.Perm.refl _
    · exact ((ins_perm f r).cons g).trans (List.Perm.swap f g r)
theorem ins_sorted {f : Fl} : ∀ {l : List Fl}, Sorted l → (∀ g ∈ l, g.name ≠ f.name) → Sorted (ins f l)
  | [], _, _ => List.pairwise_singleton _ _
  | g :: r, h, hn => by
    unfold ins
    split
    · rename_i hlt
      refine List.pairwise_cons.2 ⟨fun x hx => ?_, h⟩
      rcases List.mem_cons.1 hx with rfl | hx
      · exact hlt
      · exact nlt_trans hlt ((List.pairwise_cons.1 h).1 x hx)
    · rename_i hlt
      have hg : nlt g.name f.name := (nlt_tri g.name f.name).elim id fun h => h.elim (fun e => absurd e (hn g (by simp))) (fun h => absurd h hlt)
      refine List.pairwise_cons.2 ⟨fun x hx => ?_, ins_sorted (List.pairwise_cons.1 h).2 fun x hx => hn x (by simp [hx])⟩
      rcases List.mem_cons.1 ((ins_perm f r).subset hx) with rfl | hx
      · exact hg
      · exact (List.pairwise_cons.1 h).1 x hx

theorem upd_names (nm : ByteArray) (g : Fl → Fl) (hg : ∀ f, (g f).name = f.name) (l : List Fl) : (upd nm g l).map (·.name) = l.map (·.name) := by
  simp only [upd, List.map_map]
  refine List.map_congr_left fun f _ => ?_
  simp only [Function.comp]
  split
  · exact hg f
  · rfl
theorem upd_sorted {nm : ByteArray} {g : Fl → Fl} (hg : ∀ f, (g f).name = f.name) {l : List Fl} (h : Sorted l) : Sorted (upd nm g l) := by
  have e : ∀ l : List Fl, Sorted l ↔ (l.map (·.name)).Pairwise nlt := fun l => by unfold Sorted; rw [List.pairwise_map]
  rw [e, upd_names nm g hg, ← e]; exact h
theorem del_sorted {nm : ByteArray} {l : List Fl} (h : Sorted l) : Sorted (del nm l) := List.Pairwise.filter _ h
theorem surv_name {k : Nat} {f g : Fl} (h : surv k f = some g) : g.name = f.name := by
  unfold surv at h
  simp only at h
  split at h
  · cases h
  · cases h; rfl
theorem lose_sorted {k : Nat} {l : List Fl} (h : Sorted l) : Sorted (loseL k l) := by
  unfold Sorted loseL at *
  rw [List.pairwise_filterMap]
  exact h.imp fun {a b} hab x hx y hy => by rw [surv_name hx, surv_name hy]; exact hab

theorem surv_len {k : Nat} {f g : Fl} (h : surv k f = some g) : g.bytes.length ≤ f.bytes.length ∧ g.sure ≤ g.bytes.length := by
  unfold surv at h
  simp only at h
  split at h
  · cases h
  · cases h
    exact ⟨by simp; omega, Nat.le_refl _⟩
theorem total_cons (f : Fl) (l : List Fl) : total (f :: l) = f.bytes.length + total l := by simp [total]
theorem total_lose (k : Nat) : ∀ l : List Fl, total (loseL k l) ≤ total l
  | [] => Nat.le_refl _
  | f :: l => by
    have ih := total_lose k l
    have e : loseL k (f :: l) = match surv k f with | none => loseL k l | some g => g :: loseL k l := by
      unfold loseL; rw [List.filterMap_cons]; cases surv k f <;> rfl
    rw [e]
    cases hs : surv k f with
    | none => rw [total_cons]; simp only; omega
    | some g => simp only; rw [total_cons, total_cons]; have := (surv_len hs).1; omega

theorem total_upd {nm : ByteArray} {g : Fl → Fl} : ∀ {l : List Fl} {f : Fl}, (l.map (·.name)).Nodup → get l nm = some f → total (upd nm g l) + f.bytes.length = total l + (g f).bytes.length
  | [], f, _, h => by simp [get] at h
  | x :: l, f, hn, h => by
    simp only [List.map_cons, List.nodup_cons] at hn
    have hu : upd nm g (x :: l) = (if x.name = nm then g x else x) :: upd nm g l := rfl
    rw [hu, total_cons, total_cons]
    by_cases hx : x.name = nm
    · have hf : f = x := by
        unfold get at h
        rw [List.find?_cons, (MapKept.bytes_beq _ _).2 hx] at h
        cases h; rfl
      subst hf
      have hrest : upd nm g l = l := by
        conv => rhs; rw [← List.map_id l]
        exact List.map_congr_left fun y hy => by rw [if_neg (fun e : y.name = nm => hn.1 (hx ▸ e ▸ List.mem_map_of_mem hy))]; rfl
      rw [if_pos hx, hrest]; omega
    · have h' : get l nm = some f := by
        unfold get at h ⊢
        rw [List.find?_cons] at h
        have : (x.name == nm) = false := by
          cases hb : x.name == nm with
          | false => rfl
          | true => exact absurd ((MapKept.bytes_beq _ _).1 hb) hx
        rw [this] at h; exact h
      have ih := total_upd (g := g) hn.2 h'
      rw [if_neg hx]; omega
theorem total_del {nm : ByteArray} : ∀ {l : List Fl} {f : Fl}, (l.map (·.name)).Nodup → get l nm = some f → total (del nm l) + f.bytes.length = total l
  | [], f, _, h => by simp [get] at h
  | x :: l, f, hn, h => by
    simp only [List.map_cons, List.nodup_cons] at hn
    by_cases hx : x.name = nm
    · have hf : f = x := by
        unfold get at h
        rw [List.find?_cons, (MapKept.bytes_beq _ _).2 hx] at h
        cases h; rfl
      subst hf
      have hd : del nm (f :: l) = l := by
        unfold del
        rw [List.filter_cons, if_neg (by simpa using hx)]
        exact List.filter_eq_self.2 fun y hy => by
          simpa using fun e : y.name = nm => hn.1 (hx ▸ e ▸ List.mem_map_of_mem hy)
      rw [hd, total_cons]; omega
    · have h' : get l nm = some f := by
        unfold get at h ⊢
        rw [List.find?_cons] at h
        have : (x.name == nm) = false := by
          cases hb : x.name == nm with
          | false => rfl
          | true => exact absurd ((MapKept.bytes_beq _ _).1 hb) hx
        rw [this] at h; exact h
      have ih := total_del hn.2 h'
      have hd : del nm (x :: l) = x :: del nm l := by
        unfold del
        rw [List.filter_cons, if_pos (by simpa using hx)]
      rw [hd, total_cons, total_cons]; omega
theorem total_ins (f : Fl) (l : List Fl) : total (ins f l) = f.bytes.length + total l := by rw [total_perm (ins_perm f l), total_cons]
theorem get_le {l : List Fl} {nm : ByteArray} {f : Fl} (h : get l nm = some f) : f.bytes.length ≤ total l := by
  obtain ⟨hm, _⟩ := get_some h
  clear h
  induction l with
  | nil => cases hm
  | cons x l ih =>
    rw [total_cons]
    rcases List.mem_cons.1 hm with rfl | hm
    · omega
    · have := ih hm; omega

theorem Dk.Ok.tick {D : Dk} (h : D.Ok) : D.tick.Ok :=
  { h with steps := (by have := h.steps; show D.steps - 1 ≤ _; omega), armed := fun hne => h.armed fun e => hne (by show D.steps - 1 = 0; omega) }
/-- a file is changed: still a disk -/
theorem Dk.Ok.upd {D : Dk} (h : D.Ok) {nm : ByteArray} {g : Fl → Fl} (hg : ∀ f, (g f).name = f.name) (hs : ∀ f ∈ D.files, f.name = nm → (g f).sure ≤ (g f).bytes.length)
    (hu : total (upd nm g D.files) ≤ D.limit) : ({ D with files := upd nm g D.files } : Dk).Ok :=
  { h with
    sorted := upd_sorted hg h.sorted
    used := hu
    sure := (by
      intro f hf
      obtain ⟨x, hx, rfl⟩ := List.mem_map.1 hf
      split
      · rename_i e; exact hs x hx e
      · exact h.sure x hx) }
theorem Dk.Ok.del {D : Dk} (h : D.Ok) (nm : ByteArray) : ({ D with files := del nm D.files } : Dk).Ok :=
  { h with
    sorted := del_sorted h.sorted
    sure := fun f hf => h.sure f (List.mem_filter.1 hf).1
    used := (by
      have : total (Dm.del nm D.files) ≤ total D.files := by
        generalize D.files = l
        induction l with
        | nil => exact Nat.le_refl _
        | cons x l ih =>
          unfold Dm.del at *
          rw [List.filter_cons, total_cons]
          split
          · rw [total_cons]; omega
          · omega
      exact Nat.le_trans this h.used) }

/-- two rising lists of the same files are one -/
theorem sorted_unique : ∀ {l l' : List Fl}, Sorted l → Sorted l' → l.Perm l' → l = l'
  | [], l', _, _, hp => (List.Perm.nil_eq hp)
  | a :: l, [], _, _, hp => absurd hp.length_eq (by simp)
  | a :: l, b :: l', h, h', hp => by
    have ha : a ∈ b :: l' := hp.subset (by simp)
    have hb : b ∈ a :: l := hp.symm.subset (by simp)
    have : a = b := by
      rcases List.mem_cons.1 ha with e | ha
      · exact e
      · rcases List.mem_cons.1 hb with e | hb
        · exact e.symm
        · exact absurd ((List.pairwise_cons.1 h).1 b hb) (nlt_asymm ((List.pairwise_cons.1 h').1 a ha))
    subst this
    rw [sorted_unique (List.pairwise_cons.1 h).2 (List.pairwise_cons.1 h').2 (List.Perm.cons_inv hp)]
end Go.Dm
