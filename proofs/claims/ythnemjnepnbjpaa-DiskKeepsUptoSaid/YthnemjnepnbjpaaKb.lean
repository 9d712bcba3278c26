/- A book beside the disk, plainly: what was written and synced; what a crash leaves of it. No program in sight. -/
import Derived.Test.YthnemjnepnbjpaaDp
namespace Go.Dm
set_option linter.unusedVariables false

/-- bytes at the end of a book's page; a new page stands last -/
def bput (nm : ByteArray) (b : List UInt8) (B : List Fl) : List Fl :=
  match get B nm with
  | some _ => upd nm (fun f => { f with bytes := f.bytes ++ b }) B
  | none => B ++ [⟨nm, b, 0⟩]

theorem upd_perm {nm : ByteArray} {g : Fl → Fl} {l l' : List Fl} (h : l.Perm l') : (upd nm g l).Perm (upd nm g l') := h.map _
theorem del_perm {nm : ByteArray} {l l' : List Fl} (h : l.Perm l') : (del nm l).Perm (del nm l') := h.filter _
theorem perm_nodup {l l' : List Fl} (h : l.Perm l') (hn : (l'.map (·.name)).Nodup) : (l.map (·.name)).Nodup := (h.map _).nodup_iff.2 hn
theorem bput_perm {nm : ByteArray} {b : List UInt8} {B l : List Fl} (h : B.Perm l) (hn : (l.map (·.name)).Nodup) : (bput nm b B).Perm (putB nm b l) := by
  have hg := get_perm h (perm_nodup h hn) nm
  unfold bput putB
  rw [hg]
  cases get l nm with
  | some _ => exact upd_perm h
  | none => exact (List.perm_append_comm.trans (h.cons _)).trans (ins_perm _ _).symm
theorem lenOf_perm {B l : List Fl} (h : B.Perm l) (hn : (l.map (·.name)).Nodup) (nm : ByteArray) : get B nm = get l nm := get_perm h (perm_nodup h hn) nm
end Go.Dm
namespace Go.Proofs
open Go.Dm
set_option linter.unusedVariables false

/-- what a call that was answered makes of the book -/
def entered (B : List Fl) (o : OpP) (a : Ans) : List Fl :=
  if o.kind = 1 then bput o.name (o.b.take a.n) B
  else if o.kind = 2 then upd o.name (fun f => { f with sure := f.bytes.length }) B
  else if o.kind = 3 then upd o.name (fun f => { f with bytes := f.bytes.take o.n.toNat, sure := min f.sure o.n.toNat }) B
  else if o.kind = 4 then del o.name B
  else if o.kind = 11 then upd o.name (fun f => { f with bytes := f.bytes.modify o.n.toNat (· ^^^ maskOf o.m) }) B
  else B
structure EntersOk (B : List Fl) (o : OpP) (a : Ans) : Prop where
  put : o.kind = 1 → a.n ≤ o.b.length ∧ (a.e = 0 ↔ a.n = o.b.length)
  there : o.kind = 2 ∨ o.kind = 3 ∨ o.kind = 4 ∨ o.kind = 11 → ∃ f, Dm.get B o.name = some f ∧ (o.kind = 3 → 0 ≤ o.n ∧ o.n ≤ (f.bytes.length : Int)) ∧ (o.kind = 11 → 0 ≤ o.n ∧ o.n < (f.bytes.length : Int))

/-- the book beside the disk; what an armed crash keeps -/
structure Kept (D : Dk) (B : List Fl) (keep : Int) : Prop where
  perm : B.Perm D.files
  keep : D.steps ≠ 0 → keep = D.keep

/-- the keep behind a call -/
def keepNext (keep : Int) (o : OpP) (a : Ans) : Int := if o.kind = 9 ∧ a.e = 0 then o.n else if o.kind = 8 ∧ a.e = 0 then o.m else keep
/-- the book, as a crash within the call finds it -/
def met (B : List Fl) (lim : Nat) (o : OpP) : List Fl := if o.kind = 1 then bput o.name (o.b.take (min o.b.length (lim - total B))) B else B

/-- what a call did to the disk, and what the book has to do -/
inductive KeepPost (D : Dk) (B : List Fl) (keep : Int) (o : OpP) (r : Ans × Dk) : Prop
  | crash (S : List Fl) (d0 : D.down = false) (d1 : r.2.down = true) (hS : Sorted S) (p : (met B D.limit o).Perm S) (k0 : 0 ≤ keepNext keep o r.1) (f : r.2.files = loseL (keepNext keep o r.1).toNat S) (st : r.2.steps = 0)
  | enter (d0 : D.down = false) (d1 : r.2.down = false) (e : r.1.e = 0 ∨ r.1.e = 111) (ok : EntersOk B o r.1) (k : Kept r.2 (entered B o r.1) (keepNext keep o r.1))
  | none (d : D.down = true ∨ r.2.down = false) (e : D.down = true ∨ (r.1.e ≠ 0 ∧ r.1.e ≠ 111)) (k : Kept r.2 B (keepNext keep o r.1))

section
variable {D : Dk} {B : List Fl} {keep : Int}

theorem look_ne {D : Dk} {nm : ByteArray} (h : D.look nm ≠ 0) : D.look nm ≠ 111 := by rcases look_cases D nm with h | h | h | h <;> rw [h] <;> simp
theorem look_up {D : Dk} {nm : ByteArray} (h : D.look nm = 0 ∨ D.look nm = 112) : D.down = false := by
  unfold Dk.look at h
  by_cases hd : D.down = true
  · rw [if_pos hd] at h; simp at h
  · simpa using hd
theorem look_get {D : Dk} {nm : ByteArray} (h : D.look nm = 0) : ∃ f, Dm.get D.files nm = some f := by
  unfold Dk.look at h
  by_cases hd : D.down = true
  · rw [if_pos hd] at h; simp at h
  · rw [if_neg hd] at h
    by_cases hk : okName nm = true
    · rw [if_pos hk] at h
      cases hg : Dm.get D.files nm with
      | some f => exact ⟨f, rfl⟩
      | none => rw [hg] at h; simp at h
    · rw [if_neg hk] at h; simp at h
theorem lenOf_get {l : List Fl} {nm : ByteArray} {f : Fl} (h : Dm.get l nm = some f) : lenOf l nm = f.bytes.length := by unfold lenOf; rw [h]

theorem keep_plain {o : OpP} {a : Ans} (h : o.kind ≠ 8) (h' : o.kind ≠ 9) : keepNext keep o a = keep := by unfold keepNext; rw [if_neg (fun e => h' e.1), if_neg (fun e => h e.1)]

/-- Sync, Cut, Remove -/
theorem keeps_change (ok : D.Ok) (h : Kept D B keep) {o : OpP} {g : List Fl → List Fl} (h1 : o.kind ≠ 1) (h8 : o.kind ≠ 8) (h9 : o.kind ≠ 9) (hl : D.look o.name = 0)
    (he : ∀ n, entered B o { e := n } = g B) (hg : ∀ {l l' : List Fl}, l.Perm l' → (g l).Perm (g l'))
    (hk : EntersOk B o { e := 0 }) : KeepPost D B keep o ({ e := (D.change g).1 }, (D.change g).2) := by
  have hd := look_up (.inl hl)
  unfold Dk.change
  by_cases hf : D.fires = true
  · rw [if_pos hf]
    have hs : D.steps = 1 := by unfold Dk.fires at hf; simpa using hf
    have hkp : keep = D.keep := h.keep (by omega)
    have h0 : 0 ≤ D.keep := ok.armed (by omega)
    refine .crash D.files hd rfl ok.sorted ?_ ?_ ?_ rfl
    · unfold met; rw [if_neg h1]; exact h.perm
    · rw [keep_plain h8 h9, hkp]; exact h0
    · rw [keep_plain h8 h9, hkp]; rfl
  · rw [if_neg hf]
    have hs : D.steps ≠ 1 := by unfold Dk.fires at hf; simpa using hf
    refine .enter hd hd (.inl rfl) hk ⟨?_, fun hn => ?_⟩
    · rw [he]; exact hg h.perm
    · rw [keep_plain h8 h9]; exact h.keep fun e => hn (by show D.steps - 1 = 0; omega)

theorem keeps_same (h : Kept D B keep) {o : OpP} {a : Ans} (h8 : o.kind ≠ 8) (h9 : o.kind ≠ 9) (he : D.down = true ∨ (a.e ≠ 0 ∧ a.e ≠ 111)) : KeepPost D B keep o (a, D) := by
  refine .none ?_ he ⟨h.perm, fun hn => by rw [keep_plain h8 h9]; exact h.keep hn⟩
  by_cases hd : D.down = true
  · exact .inl hd
  · exact .inr (by simpa using hd)

/-- a call that only tells -/
theorem keeps_tell (h : Kept D B keep) {o : OpP} {a : Ans} (h8 : o.kind ≠ 8) (h9 : o.kind ≠ 9) (hk : o.kind ≠ 1 ∧ o.kind ≠ 2 ∧ o.kind ≠ 3 ∧ o.kind ≠ 4 ∧ o.kind ≠ 11) (he : a.e ≠ 111) : KeepPost D B keep o (a, D) := by
  by_cases hd : D.down = true
  · exact keeps_same h h8 h9 (.inl hd)
  · by_cases h0 : a.e = 0
    · have hd' : D.down = false := by simpa using hd
      refine .enter hd' hd' (.inl h0) ⟨fun e => absurd e hk.1, fun e => ?_⟩ ⟨?_, fun hn => by rw [keep_plain h8 h9]; exact h.keep hn⟩
      · rcases e with e | e | e | e
        · exact absurd e hk.2.1
        · exact absurd e hk.2.2.1
        · exact absurd e hk.2.2.2.1
        · exact absurd e hk.2.2.2.2
      · unfold entered
        rw [if_neg hk.1, if_neg hk.2.1, if_neg hk.2.2.1, if_neg hk.2.2.2.1, if_neg hk.2.2.2.2]
        exact h.perm
    · exact keeps_same h h8 h9 (.inr ⟨h0, he⟩)

theorem keeps_append (ok : D.Ok) (h : Kept D B keep) {o : OpP} (h1 : o.kind = 1) : KeepPost D B keep o ({ e := (D.append o.name o.b).1.2, n := (D.append o.name o.b).1.1 }, (D.append o.name o.b).2) := by
  have h8 : o.kind ≠ 8 := by omega
  have h9 : o.kind ≠ 9 := by omega
  have hn := ok.sorted.nodup
  have hnd := perm_nodup h.perm hn
  have hu : total B = D.used := total_perm h.perm
  by_cases hl : D.look o.name = 0 ∨ D.look o.name = 112
  · have hd := look_up hl
    have hlim : total B ≤ D.limit := by rw [hu]; exact ok.used
    unfold Dk.append
    simp only
    rw [if_pos hl]
    by_cases hf : ({ D with files := putB o.name (o.b.take (min o.b.length (D.limit - D.used))) D.files } : Dk).fires = true
    · rw [if_pos hf]
      have hs : D.steps = 1 := by unfold Dk.fires at hf; simpa using hf
      have hkp : keep = D.keep := h.keep (by omega)
      have h0 : 0 ≤ D.keep := ok.armed (by omega)
      refine .crash (putB o.name (o.b.take (min o.b.length (D.limit - D.used))) D.files) hd rfl ?_ ?_ ?_ ?_ rfl
      · unfold putB
        cases hg : Dm.get D.files o.name with
        | some f => dsimp only; refine upd_sorted ?_ ok.sorted; intro f; rfl
        | none => exact ins_sorted ok.sorted (get_none hg)
      · unfold met; rw [if_pos h1, hu]; exact bput_perm h.perm hn
      · rw [keep_plain h8 h9, hkp]; exact h0
      · rw [keep_plain h8 h9, hkp]; rfl
    · rw [if_neg hf]
      have hs : D.steps ≠ 1 := by unfold Dk.fires at hf; simpa using hf
      have hm : min o.b.length (D.limit - D.used) ≤ o.b.length := Nat.min_le_left _ _
      refine .enter hd hd ?_ ⟨fun _ => ⟨hm, ?_⟩, fun e => by omega⟩ ⟨?_, fun hn => ?_⟩
      · show (if min o.b.length (D.limit - D.used) < o.b.length then 111 else 0) = 0 ∨ (if min o.b.length (D.limit - D.used) < o.b.length then 111 else 0) = 111
        split <;> simp
      · show (if min o.b.length (D.limit - D.used) < o.b.length then 111 else 0) = 0 ↔ min o.b.length (D.limit - D.used) = o.b.length
        split <;> omega
      · unfold entered; rw [if_pos h1]; exact bput_perm h.perm hn
      · rw [keep_plain h8 h9]; exact h.keep fun e => hn (by show D.steps - 1 = 0; omega)
  · have e : D.append o.name o.b = ((0, D.look o.name), D) := by unfold Dk.append; simp only; rw [if_neg hl]
    rw [e]
    refine keeps_same h h8 h9 (.inr ⟨fun h0 => hl (.inl h0), look_ne fun h0 => hl (.inl h0)⟩)

theorem keeps_does (ok : D.Ok) (h : Kept D B keep) (o : OpP) : KeepPost D B keep o (Dk.does D o) := by
  have hn := ok.sorted.nodup
  have hget : Dm.get B o.name = Dm.get D.files o.name := get_perm h.perm (perm_nodup h.perm hn) o.name
  unfold Dk.does
  by_cases h1 : o.kind = 1
  · rw [if_pos h1]; exact keeps_append ok h h1
  rw [if_neg h1]
  by_cases h2 : o.kind = 2
  · rw [if_pos h2]
    have h8 : o.kind ≠ 8 := by omega
    have h9 : o.kind ≠ 9 := by omega
    unfold Dk.sync
    by_cases hl : D.look o.name = 0
    · rw [if_pos hl]
      obtain ⟨f, hf⟩ := look_get hl
      refine keeps_change ok h h1 h8 h9 hl (fun n => ?_) upd_perm ⟨fun e => absurd e h1, fun _ => ⟨f, hget.trans hf, fun e => by omega, fun e => by omega⟩⟩
      unfold entered; rw [if_neg h1, if_pos h2]
    · rw [if_neg hl]; exact keeps_same h h8 h9 (.inr ⟨hl, look_ne hl⟩)
  rw [if_neg h2]
  by_cases h3 : o.kind = 3
  · rw [if_pos h3]
    have h8 : o.kind ≠ 8 := by omega
    have h9 : o.kind ≠ 9 := by omega
    unfold Dk.cut
    by_cases hl : D.look o.name = 0
    · rw [if_pos hl]
      obtain ⟨f, hf⟩ := look_get hl
      by_cases hb : o.n < 0 ∨ (lenOf D.files o.name : Int) < o.n
      · rw [if_pos hb]; exact keeps_same h h8 h9 (.inr ⟨by simp, by simp⟩)
      · rw [if_neg hb]
        rw [lenOf_get hf] at hb
        refine keeps_change ok h h1 h8 h9 hl (fun n => ?_) upd_perm ⟨fun e => absurd e h1, fun _ => ⟨f, hget.trans hf, fun e => by omega, fun e => by omega⟩⟩
        unfold entered; rw [if_neg h1, if_neg h2, if_pos h3]
    · rw [if_neg hl]; exact keeps_same h h8 h9 (.inr ⟨hl, look_ne hl⟩)
  rw [if_neg h3]
  by_cases h4 : o.kind = 4
  · rw [if_pos h4]
    have h8 : o.kind ≠ 8 := by omega
    have h9 : o.kind ≠ 9 := by omega
    unfold Dk.remove
    by_cases hl : D.look o.name = 0
    · rw [if_pos hl]
      obtain ⟨f, hf⟩ := look_get hl
      refine keeps_change ok h h1 h8 h9 hl (fun n => ?_) del_perm ⟨fun e => absurd e h1, fun _ => ⟨f, hget.trans hf, fun e => by omega, fun e => by omega⟩⟩
      unfold entered; rw [if_neg h1, if_neg h2, if_neg h3, if_pos h4]
    · rw [if_neg hl]; exact keeps_same h h8 h9 (.inr ⟨hl, look_ne hl⟩)
  rw [if_neg h4]
  by_cases h5 : o.kind = 5
  · rw [if_pos h5]
    refine keeps_tell h (by omega) (by omega) ⟨by omega, by omega, by omega, by omega, by omega⟩ ?_
    show (D.read o.name o.n o.m).2 ≠ 111
    unfold Dk.read
    by_cases hl : D.look o.name = 0
    · rw [if_pos hl]; split <;> simp
    · rw [if_neg hl]; exact look_ne hl
  rw [if_neg h5]
  by_cases h6 : o.kind = 6
  · rw [if_pos h6]
    refine keeps_tell h (by omega) (by omega) ⟨by omega, by omega, by omega, by omega, by omega⟩ ?_
    show (D.size o.name).2.2 ≠ 111
    unfold Dk.size
    by_cases hl : D.look o.name = 0
    · rw [if_pos hl]; simp
    · rw [if_neg hl]; exact look_ne hl
  rw [if_neg h6]
  by_cases h7 : o.kind = 7
  · rw [if_pos h7]
    exact keeps_tell h (by omega) (by omega) ⟨by omega, by omega, by omega, by omega, by omega⟩ (by simp)
  rw [if_neg h7]
  by_cases h8 : o.kind = 8
  · rw [if_pos h8]
    unfold Dk.arm
    by_cases hd : D.down = true
    · rw [if_pos hd]
      refine .none (.inl hd) (.inl hd) ⟨h.perm, fun hn => ?_⟩
      unfold keepNext
      rw [if_neg (by simp), if_neg (by simp)]; exact h.keep hn
    · rw [if_neg hd]
      have hd' : D.down = false := by simpa using hd
      by_cases hb : o.n < 0 ∨ (0 < o.n ∧ o.m < 0)
      · rw [if_pos hb]
        refine .none (.inr hd') (.inr (by simp)) ⟨h.perm, fun hn => ?_⟩
        unfold keepNext
        rw [if_neg (by simp), if_neg (by simp)]; exact h.keep hn
      · rw [if_neg hb]
        refine .enter hd' hd' (.inl rfl) ⟨fun e => by omega, fun e => by omega⟩ ⟨?_, fun hn => ?_⟩
        · unfold entered; rw [if_neg h1, if_neg h2, if_neg h3, if_neg h4, if_neg (by omega)]; exact h.perm
        · unfold keepNext; rw [if_neg (by omega), if_pos ⟨h8, rfl⟩]
  rw [if_neg h8]
  by_cases h9 : o.kind = 9
  · rw [if_pos h9]
    unfold Dk.crash
    by_cases hd : D.down = true
    · rw [if_pos hd]
      refine .none (.inl hd) (.inl hd) ⟨h.perm, fun hn => ?_⟩
      unfold keepNext
      rw [if_neg (by simp), if_neg (by simp)]; exact h.keep hn
    · rw [if_neg hd]
      have hd' : D.down = false := by simpa using hd
      by_cases hb : o.n < 0
      · rw [if_pos hb]
        refine .none (.inr hd') (.inr (by simp)) ⟨h.perm, fun hn => ?_⟩
        unfold keepNext
        rw [if_neg (by simp), if_neg (by simp)]; exact h.keep hn
      · rw [if_neg hb]
        have hk : keepNext keep o { e := 0 } = o.n := by unfold keepNext; rw [if_pos ⟨h9, rfl⟩]
        refine .crash D.files hd' rfl ok.sorted ?_ ?_ ?_ rfl
        · unfold met; rw [if_neg h1]; exact h.perm
        · show 0 ≤ keepNext keep o { e := 0 }
          rw [hk]; omega
        · show loseL o.n.toNat D.files = loseL (keepNext keep o { e := 0 }).toNat D.files
          rw [hk]
  rw [if_neg h9]
  have k8 : ∀ a, keepNext keep o a = keep := fun a => keep_plain h8 h9
  by_cases h10 : o.kind = 10
  · rw [if_pos h10]
    by_cases hd : D.down = true
    · exact .none (.inl hd) (.inl hd) ⟨h.perm, fun hn => absurd rfl hn⟩
    · have hd' : D.down = false := by simpa using hd
      refine .enter hd' rfl (.inl rfl) ⟨fun e => by omega, fun e => by omega⟩ ⟨?_, fun hn => absurd rfl hn⟩
      unfold entered; rw [if_neg h1, if_neg h2, if_neg h3, if_neg h4, if_neg (by omega)]; exact h.perm
  rw [if_neg h10]
  by_cases h11 : o.kind = 11
  · rw [if_pos h11]
    unfold Dk.turn
    by_cases hl : D.look o.name = 0
    · rw [if_pos hl]
      obtain ⟨f, hf⟩ := look_get hl
      have hd := look_up (.inl hl)
      by_cases hb : o.n < 0 ∨ (lenOf D.files o.name : Int) ≤ o.n
      · rw [if_pos hb]; exact keeps_same h h8 h9 (.inr ⟨by simp, by simp⟩)
      · rw [if_neg hb]
        rw [lenOf_get hf] at hb
        refine .enter hd hd (.inl rfl) ⟨fun e => absurd e h1, fun _ => ⟨f, hget.trans hf, fun e => by omega, fun e => by omega⟩⟩ ⟨?_, fun hn => ?_⟩
        · unfold entered; rw [if_neg h1, if_neg h2, if_neg h3, if_neg h4, if_pos h11]; exact upd_perm h.perm
        · rw [k8]; exact h.keep hn
    · rw [if_neg hl]; exact keeps_same h h8 h9 (.inr ⟨hl, look_ne hl⟩)
  rw [if_neg h11]
  exact keeps_tell h h8 h9 ⟨h1, h2, h3, h4, h11⟩ (by simp)
end
end Go.Proofs
