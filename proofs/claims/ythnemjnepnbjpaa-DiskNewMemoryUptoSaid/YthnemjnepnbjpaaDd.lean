/- does, in one contract: what a call of any kind answers and leaves. Conditions: the disk lies as DRep says; the op's bytes are read and lie apart; the numbers are ints; at most 2^40 files. -/
import Derived.Test.YthnemjnepnbjpaaDc
namespace Go.Dm
/-- all that a call may answer -/
structure Ans where
  e : Nat := 0
  n : Nat := 0
  m : Nat := 0
  b : List UInt8 := []
  files : List Fl := []
  down : Bool := false
end Go.Dm
namespace Go.Proofs
open Go.RowKit Go.Hp Go.Dm Go.Dr
set_option linter.unusedVariables false
set_option maxRecDepth 10000

/-- one call of a script -/
structure OpP where
  kind : Int
  name : ByteArray
  b : List UInt8
  n : Int
  m : Int

def Dk.does (D : Dk) (o : OpP) : Ans × Dk :=
  if o.kind = 1 then ({ e := (D.append o.name o.b).1.2, n := (D.append o.name o.b).1.1 }, (D.append o.name o.b).2)
  else if o.kind = 2 then ({ e := (D.sync o.name).1 }, (D.sync o.name).2)
  else if o.kind = 3 then ({ e := (D.cut o.name o.n).1 }, (D.cut o.name o.n).2)
  else if o.kind = 4 then ({ e := (D.remove o.name).1 }, (D.remove o.name).2)
  else if o.kind = 5 then ({ e := (D.read o.name o.n o.m).2, b := (D.read o.name o.n o.m).1 }, D)
  else if o.kind = 6 then ({ e := (D.size o.name).2.2, n := (D.size o.name).1, m := (D.size o.name).2.1 }, D)
  else if o.kind = 7 then ({ n := D.used, files := D.files, down := D.down }, D)
  else if o.kind = 8 then ({ e := (D.arm o.n o.m).1 }, (D.arm o.n o.m).2)
  else if o.kind = 9 then ({ e := (D.crash o.n).1 }, (D.crash o.n).2)
  else if o.kind = 10 then ({}, D.up)
  else if o.kind = 11 then ({ e := (D.turn o.name o.n (maskOf o.m)).1 }, (D.turn o.name o.n (maskOf o.m)).2)
  else ({}, D)

/-- the answer a lies in v, its memory in the blocks A -/
def AnsIn (w : World) (a : Ans) (v : Value) (A : List Nat) : Prop :=
  ∃ bv fv l, v = ansV (a.e : Int) (a.n : Int) (a.m : Int) bv fv a.down ∧ OB w 5 bv a.b ∧ FilesAt w fv l ∧ l.map LF.fl = a.files ∧ A = (sblk bv).toList ++ lblks fv l
theorem FilesAt.lt {w : World} {v : Value} {l : List LF} (h : FilesAt w v l) : ∀ k ∈ lblks v l, k < w.heap.size := fun k hk => by
  rcases List.mem_append.1 hk with hk | hk
  · exact OC.lt h.sl (by simpa using hk)
  · obtain ⟨x, hx, hk⟩ := List.mem_flatMap.1 hk
    exact OC.lt (h.each x hx) (by simpa [LF.blk] using hk)
theorem AnsIn.lt {w : World} {a : Ans} {v : Value} {A : List Nat} (h : AnsIn w a v A) : ∀ k ∈ A, k < w.heap.size := by
  obtain ⟨bv, fv, l, -, h1, h2, -, rfl⟩ := h
  intro k hk
  rcases List.mem_append.1 hk with hk | hk
  · exact OC.lt h1 (by simpa using hk)
  · exact h2.lt k hk
theorem AnsIn.chg {w w' : World} {a : Ans} {v : Value} {A : List Nat} {G : Nat → Prop} (h : AnsIn w a v A) (hc : Chg G w w') (hG : ∀ k ∈ A, ¬ G k) : AnsIn w' a v A := by
  obtain ⟨bv, fv, l, hv, h1, h2, h3, rfl⟩ := h
  exact ⟨bv, fv, l, hv, OC.chg h1 hc fun b hb => hG b (by simp [hb]), h2.chg hc fun k hk => hG k (List.mem_append.2 (.inr hk)), h3, rfl⟩
/-- a call was made: the answer a lies in v, in memory of its own; the disk is D' behind; nothing else has changed -/
def Did (w : World) (d : Nat) (F : List Nat) (D' : Dk) (a : Ans) (v : Value) (w' : World) : Prop :=
  ∃ F' A, DRep w' d D' F' ∧ Ev F F' w w' ∧ AnsIn w' a v A ∧ ∀ k ∈ A, w.heap.size ≤ k ∧ k ∉ F'

theorem files_nil (w : World) : FilesAt w (.slice none 0 0) [] := ⟨OC_nil _ _ _, fun x hx => (by cases hx), by simp [lblks]⟩

section
variable {w : World} {d : Nat} {D : Dk} {F : List Nat} {bv : Value} {o : OpP}

/-- the op o is handed in, its bytes lying at bv -/
def OpP.val (o : OpP) (bv : Value) : Value := opV o.kind o.name bv o.n o.m

structure OpP.Ok (o : OpP) : Prop where
  name : o.name.size ≤ maxLen
  b : o.b.length ≤ 140737488355328
  nLo : -9223372036854775808 ≤ o.n
  nHi : o.n ≤ 9223372036854775807
  mLo : -9223372036854775808 ≤ o.m
  mHi : o.m ≤ 9223372036854775807

theorem does_any (ok : o.Ok) (hN : D.files.length ≤ 1099511627776) (h : DRep w d D F) (hrb : RB w bv o.b) :
    Calls Try.prog 29 #[.pointer (some ⟨d, 0, none⟩), o.val bv] w fun e w' => ∃ v, e = .returned v ∧ Did w d F (Dk.does D o).2 (Dk.does D o).1 v w' := by
  have hb : ∃ p l c, bv = .slice p l c := by obtain ⟨p, c, e, -⟩ := hrb; exact ⟨p, _, c, e⟩
  have plain : ∀ (e n m : Nat) {D' : Dk} {w' : World}, Left w d F D' w' → Did w d F D' { e := e, n := n, m := m } (ansV (e : Int) (n : Int) (m : Int) (.slice none 0 0) (.slice none 0 0) false) w' := fun e n m {D' w'} ⟨F', h1, h2⟩ =>
    ⟨F', [], h1, h2, ⟨_, _, [], rfl, OB_nil _ _, files_nil w', rfl, rfl⟩, fun k hk => by cases hk⟩
  obtain ⟨k, nm, bs, n, m⟩ := o
  obtain ⟨a1, a2, a3, a4, a5, a6⟩ := ok
  simp only at a1 a2 a3 a4 a5 a6 hrb
  unfold Dk.does OpP.val
  simp only
  by_cases h1 : k = 1
  · subst h1
    simp only [if_true]
    exact (does_append n m a2 a1 h hrb hb).mono fun e w' ⟨e1, e2⟩ => ⟨_, e1, plain _ _ 0 e2⟩
  by_cases h2 : k = 2
  · subst h2
    simp only [if_neg h1, if_true]
    exact (does_sync n m a1 h hb).mono fun e w' ⟨e1, e2⟩ => ⟨_, e1, plain _ 0 0 e2⟩
  by_cases h3 : k = 3
  · subst h3
    simp only [if_neg h1, if_neg h2, if_true]
    exact (does_cut n m a1 h hb).mono fun e w' ⟨e1, e2⟩ => ⟨_, e1, plain _ 0 0 e2⟩
  by_cases h4 : k = 4
  · subst h4
    simp only [if_neg h1, if_neg h2, if_neg h3, if_true]
    exact (does_remove n m a1 h hb).mono fun e w' ⟨e1, e2⟩ => ⟨_, e1, plain _ 0 0 e2⟩
  by_cases h5 : k = 5
  · subst h5
    simp only [if_neg h1, if_neg h2, if_neg h3, if_neg h4, if_true]
    exact (does_read n m a1 h hb).mono fun e w' ⟨v, e1, e2, e3, e4, e5⟩ => ⟨_, e1, F, _, e4, ⟨e5.mono (fun k hk => hk.elim), fun k hk => .inl hk⟩, ⟨_, _, [], rfl, e2, files_nil w', rfl, rfl⟩, fun k hk => by
      have h1 : w.heap.size ≤ k := e3 k (by simpa [lblks] using hk)
      exact ⟨h1, fun hF => by have := h.lt k hF; omega⟩⟩
  by_cases h6 : k = 6
  · subst h6
    simp only [if_neg h1, if_neg h2, if_neg h3, if_neg h4, if_neg h5, if_true]
    exact (does_size n m a1 h hb).mono fun e w' ⟨e1, e2⟩ => ⟨_, e1, plain _ _ _ e2⟩
  by_cases h7 : k = 7
  · subst h7
    simp only [if_neg h1, if_neg h2, if_neg h3, if_neg h4, if_neg h5, if_neg h6, if_true]
    exact (does_files n m hN h hb).mono fun e w' ⟨v, l, e1, e2, e3, e4, e5, e6⟩ => ⟨_, e1, F, _, e5, ⟨e6.mono (fun k hk => hk.elim), fun k hk => .inl hk⟩, ⟨_, _, l, rfl, OB_nil _ _, e2, e3, rfl⟩, fun k hk => by
      have h1 : w.heap.size ≤ k := e4 k (by simpa using hk)
      exact ⟨h1, fun hF => by have := h.lt k hF; omega⟩⟩
  by_cases h8 : k = 8
  · subst h8
    simp only [if_neg h1, if_neg h2, if_neg h3, if_neg h4, if_neg h5, if_neg h6, if_neg h7, if_true]
    exact (does_arm n m a4 a5 a6 a1 h hb).mono fun e w' ⟨e1, e2⟩ => ⟨_, e1, plain _ 0 0 e2⟩
  by_cases h9 : k = 9
  · subst h9
    simp only [if_neg h1, if_neg h2, if_neg h3, if_neg h4, if_neg h5, if_neg h6, if_neg h7, if_neg h8, if_true]
    exact (does_crash n m a4 a1 h hb).mono fun e w' ⟨e1, e2⟩ => ⟨_, e1, plain _ 0 0 e2⟩
  by_cases h10 : k = 10
  · subst h10
    simp only [if_neg h1, if_neg h2, if_neg h3, if_neg h4, if_neg h5, if_neg h6, if_neg h7, if_neg h8, if_neg h9, if_true]
    exact (does_up n m a1 h hb).mono fun e w' ⟨e1, e2⟩ => ⟨_, e1, plain 0 0 0 e2⟩
  by_cases h11 : k = 11
  · subst h11
    simp only [if_neg h1, if_neg h2, if_neg h3, if_neg h4, if_neg h5, if_neg h6, if_neg h7, if_neg h8, if_neg h9, if_neg h10, if_true]
    exact (does_turn n m a1 h hb).mono fun e w' ⟨e1, e2⟩ => ⟨_, e1, plain _ 0 0 e2⟩
  simp only [if_neg h1, if_neg h2, if_neg h3, if_neg h4, if_neg h5, if_neg h6, if_neg h7, if_neg h8, if_neg h9, if_neg h10, if_neg h11]
  exact (does_none k n m (by omega) h hb).mono fun e w' ⟨e1, e2⟩ => ⟨_, e1, plain 0 0 0 e2⟩
end
end Go.Proofs
