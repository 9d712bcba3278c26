/- How package disk's value lies in memory, and that it lies so still behind each change. Conditions: each law's own. -/
import Derived.Test.YtaiaghfckhgnnaaGreatDoorMp
import Derived.Test.YtaiaghfckhgnnaaGreatDoorDm
namespace Go.Dr
open Go Go.RowKit Go.Hp Go.Dm
set_option linter.unusedVariables false

/-- a file as it lies: its name, its block, its slice, the bytes, how many are durable, the entry's stamp -/
structure Raw where
  name : ByteArray
  f : Nat
  sv : Value
  bytes : List UInt8
  sure : Nat
  born : Nat

def Raw.fl (r : Raw) : Fl := ⟨r.name, r.bytes, r.sure⟩
def Raw.en (r : Raw) : En := ⟨r.name, .pointer (some ⟨r.f, 0, none⟩), r.born⟩
def Raw.blks (r : Raw) : List Nat := r.f :: (sblk r.sv).toList
def blks (L : List Raw) : List Nat := L.flatMap Raw.blks

structure RawOk (w : World) (r : Raw) : Prop where
  cells : w.heap[r.f]? = some (.cells #[r.sv, .int .i64 (r.sure : Int)] 117 (0, 0))
  own : OB w 5 r.sv r.bytes

def headCells (m : Nat) (D : Dk) : Array Value := #[.int .i64 (D.limit : Int), .int .i64 (D.used : Int), .map (some m), .bool D.down, .int .i64 (D.steps : Int), .int .i64 D.keep]

structure DRaw (w : World) (d m : Nat) (D : Dk) (L : List Raw) (clock : Nat) : Prop where
  head : w.heap[d]? = some (.cells (headCells m D) 114 (0, 0))
  map : w.heap[m]? = some (.map (ents (L.map Raw.en)) clock)
  raws : ∀ r ∈ L, RawOk w r
  nodup : (d :: m :: blks L).Nodup
  perm : (L.map Raw.fl).Perm D.files
  stamps : (L.map (·.born)).Nodup
  young : ∀ r ∈ L, r.born < clock
  ok : D.Ok

/-- the disk D lies at block d, its blocks are F -/
def DRep (w : World) (d : Nat) (D : Dk) (F : List Nat) : Prop := ∃ m L clock, DRaw w d m D L clock ∧ F = d :: m :: blks L

section
variable {w w' : World} {d m : Nat} {D : Dk} {L : List Raw} {clock : Nat} {r : Raw}

theorem RawOk.keep (h : RawOk w r) (hk : ∀ k ∈ r.blks, w'.heap[k]? = w.heap[k]?) : RawOk w' r :=
  ⟨(hk _ (by simp [Raw.blks])).trans h.cells, OC.keep h.own fun b hb => hk b (by simp [Raw.blks, hb])⟩

theorem DRaw.keep (h : DRaw w d m D L clock) (hk : ∀ k ∈ d :: m :: blks L, w'.heap[k]? = w.heap[k]?) : DRaw w' d m D L clock :=
  { h with
    head := (hk _ (by simp)).trans h.head
    map := (hk _ (by simp)).trans h.map
    raws := fun r hr => (h.raws r hr).keep fun k hk' => hk k (by simp only [List.mem_cons]; exact .inr (.inr (List.mem_flatMap.2 ⟨r, hr, hk'⟩))) }

theorem DRaw.drewN (h : DRaw w d m D L clock) (n : Nat) : DRaw (w.drewN n) d m D L clock := h.keep fun _ _ => rfl

theorem DRaw.lt (h : DRaw w d m D L clock) : ∀ k ∈ d :: m :: blks L, k < w.heap.size := by
  intro k hk
  rcases List.mem_cons.1 hk with rfl | hk
  · exact hlt_of h.head
  · rcases List.mem_cons.1 hk with rfl | hk
    · exact hlt_of h.map
    · obtain ⟨r, hr, hk⟩ := List.mem_flatMap.1 hk
      rcases List.mem_cons.1 hk with rfl | hk
      · exact hlt_of (h.raws r hr).cells
      · exact OC.lt (h.raws r hr).own (by simpa using hk)

theorem DRaw.chg {F : Nat → Prop} (h : DRaw w d m D L clock) (hc : Chg F w w') (hF : ∀ k ∈ d :: m :: blks L, ¬ F k) : DRaw w' d m D L clock :=
  h.keep fun k hk => hc.block k (h.lt k hk) (hF k hk)

theorem DRep.keep {F : List Nat} (h : DRep w d D F) (hk : ∀ k ∈ F, w'.heap[k]? = w.heap[k]?) : DRep w' d D F := by
  obtain ⟨m, L, clock, h, rfl⟩ := h
  exact ⟨m, L, clock, h.keep hk, rfl⟩
theorem DRep.lt {F : List Nat} (h : DRep w d D F) : ∀ k ∈ F, k < w.heap.size := by
  obtain ⟨m, L, clock, h, rfl⟩ := h
  exact h.lt
theorem DRep.ok {F : List Nat} (h : DRep w d D F) : D.Ok := by obtain ⟨m, L, clock, h, rfl⟩ := h; exact h.ok
theorem DRep.chg {F : List Nat} {G : Nat → Prop} (h : DRep w d D F) (hc : Chg G w w') (hF : ∀ k ∈ F, ¬ G k) : DRep w' d D F :=
  h.keep fun k hk => hc.block k (h.lt k hk) (hF k hk)

/-- the cells of the head -/
theorem DRaw.cells (h : DRaw w d m D L clock) :
    w.cell? ⟨d, 0, none⟩ = some (.int .i64 (D.limit : Int)) ∧ w.cell? ⟨d, 1, none⟩ = some (.int .i64 (D.used : Int)) ∧ w.cell? ⟨d, 2, none⟩ = some (.map (some m)) ∧
    w.cell? ⟨d, 3, none⟩ = some (.bool D.down) ∧ w.cell? ⟨d, 4, none⟩ = some (.int .i64 (D.steps : Int)) ∧ w.cell? ⟨d, 5, none⟩ = some (.int .i64 D.keep) ∧
    (∀ i, w.frozen? ⟨d, i, none⟩ = false) :=
  ⟨by rw [hcell_of h.head]; rfl, by rw [hcell_of h.head]; rfl, by rw [hcell_of h.head]; rfl, by rw [hcell_of h.head]; rfl, by rw [hcell_of h.head]; rfl, by rw [hcell_of h.head]; rfl, fun i => hfree_of h.head i⟩

theorem RawOk.cell0 (h : RawOk w r) : w.cell? ⟨r.f, 0, none⟩ = some r.sv := by rw [hcell_of h.cells]; rfl
theorem RawOk.cell1 (h : RawOk w r) : w.cell? ⟨r.f, 1, none⟩ = some (.int .i64 (r.sure : Int)) := by rw [hcell_of h.cells]; rfl
theorem RawOk.free (h : RawOk w r) (i : Nat) : w.frozen? ⟨r.f, i, none⟩ = false := hfree_of h.cells i

theorem DRaw.names (h : DRaw w d m D L clock) : (L.map (·.name)).Nodup := by
  have h1 := (h.perm.map (·.name)).nodup_iff.2 h.ok.sorted.nodup
  simpa [List.map_map, Function.comp_def, Raw.fl] using h1

/-- a file of that name: found among the raw ones -/
theorem DRaw.get_some (h : DRaw w d m D L clock) {nm : ByteArray} {f : Fl} (hg : get D.files nm = some f) : ∃ r ∈ L, r.name = nm ∧ r.fl = f := by
  obtain ⟨h1, h2⟩ := Dm.get_some hg
  obtain ⟨r, hr, rfl⟩ := List.mem_map.1 (h.perm.symm.subset h1)
  exact ⟨r, hr, h2, rfl⟩
theorem DRaw.get_of (h : DRaw w d m D L clock) (hr : r ∈ L) : get D.files r.name = some r.fl := by
  have h1 : r.fl ∈ D.files := h.perm.subset (List.mem_map_of_mem hr)
  exact get_of_mem h.ok.sorted.nodup h1
theorem DRaw.get_none (h : DRaw w d m D L clock) {nm : ByteArray} (hg : get D.files nm = none) : ∀ r ∈ L, r.name ≠ nm := fun r hr e => by
  have := h.get_of hr
  rw [e, hg] at this; cases this

theorem find_en {L : List Raw} (hn : (L.map (·.name)).Nodup) (hr : r ∈ L) : (L.map Raw.en).find? (·.key == r.name) = some r.en := by
  induction L with
  | nil => cases hr
  | cons x L ih =>
    simp only [List.map_cons, List.nodup_cons] at hn
    simp only [List.map_cons, List.find?_cons]
    rcases List.mem_cons.1 hr with rfl | hr
    · simp [Raw.en]
    · have : x.name ≠ r.name := fun e => hn.1 (e ▸ List.mem_map_of_mem hr)
      have h1 : (x.en.key == r.name) = false := by simpa [Raw.en] using this
      rw [h1]; exact ih hn.2 hr
theorem find_en_none {L : List Raw} {nm : ByteArray} (h : ∀ r ∈ L, r.name ≠ nm) : (L.map Raw.en).find? (·.key == nm) = none := by
  rw [List.find?_eq_none]
  intro e he
  obtain ⟨r, hr, rfl⟩ := List.mem_map.1 he
  simpa [Raw.en] using h r hr

/-- the blocks: none is another's -/
theorem DRaw.ne_dm (h : DRaw w d m D L clock) : d ≠ m := by
  have := h.nodup; simp only [List.nodup_cons, List.mem_cons, not_or] at this; exact this.1.1
theorem DRaw.ne_d (h : DRaw w d m D L clock) (hr : r ∈ L) {k : Nat} (hk : k ∈ r.blks) : k ≠ d := fun e => by
  have := h.nodup; simp only [List.nodup_cons, List.mem_cons, not_or] at this
  exact this.1.2 (List.mem_flatMap.2 ⟨r, hr, e ▸ hk⟩)
theorem DRaw.ne_m (h : DRaw w d m D L clock) (hr : r ∈ L) {k : Nat} (hk : k ∈ r.blks) : k ≠ m := fun e => by
  have := h.nodup; simp only [List.nodup_cons, List.mem_cons, not_or] at this
  exact this.2.1 (List.mem_flatMap.2 ⟨r, hr, e ▸ hk⟩)
theorem DRaw.sblk_ne (h : DRaw w d m D L clock) (hr : r ∈ L) : sblk r.sv ≠ some r.f := fun e => by
  have h1 : (blks L).Nodup := by have := h.nodup; simp only [List.nodup_cons] at this; exact this.2.2
  obtain ⟨A, B, rfl⟩ := List.append_of_mem hr
  have : (r.blks).Nodup := by
    unfold blks at h1
    rw [List.flatMap_append, List.flatMap_cons, List.nodup_append] at h1
    exact (List.nodup_append.1 h1.2.1).1
  simp [Raw.blks, e] at this
theorem DRaw.nodup_blks (h : DRaw w d m D L clock) : (blks L).Nodup := by
  have := h.nodup; simp only [List.nodup_cons] at this; exact this.2.2

/-- where a raw file stands: what is ahead of it, it, what is behind -/
theorem split_of {L : List Raw} (hr : r ∈ L) : ∃ A B, L = A ++ r :: B := List.append_of_mem hr

theorem blks_append (A B : List Raw) : blks (A ++ B) = blks A ++ blks B := by simp [blks]
theorem blks_cons (r : Raw) (B : List Raw) : blks (r :: B) = r.blks ++ blks B := by simp [blks]

/-- the head alone is written -/
theorem DRaw.setHead (h : DRaw w d m D L clock) (D' : Dk) (hw : Chg (· = d) w w') (hh : w'.heap[d]? = some (.cells (headCells m D') 114 (0, 0)))
    (hf : D'.files = D.files) (ok : D'.Ok) : DRaw w' d m D' L clock := by
  have hl := h.lt
  refine { head := hh, map := ?_, raws := fun r hr => (h.raws r hr).keep fun k hk => hw.block k (hl k ?_) (h.ne_d hr hk), nodup := h.nodup, perm := hf ▸ h.perm, stamps := h.stamps, young := h.young, ok := ok }
  · rw [hw.block m (hl m (by simp)) (fun e => h.ne_dm e.symm)]; exact h.map
  · simp only [List.mem_cons]; exact .inr (.inr (List.mem_flatMap.2 ⟨r, hr, hk⟩))

/-- one raw file turned into another -/
def rep (r' : Raw) (L : List Raw) : List Raw := L.map fun x => if x.name = r'.name then r' else x

theorem rep_split {L : List Raw} (hn : (L.map (·.name)).Nodup) (hr : r ∈ L) {r' : Raw} (he : r'.name = r.name) :
    ∃ A B, L = A ++ r :: B ∧ rep r' L = A ++ r' :: B ∧ (∀ x ∈ A, x.name ≠ r.name) ∧ (∀ x ∈ B, x.name ≠ r.name) := by
  obtain ⟨A, B, rfl⟩ := split_of hr
  simp only [List.map_append, List.map_cons, List.nodup_append, List.nodup_cons] at hn
  obtain ⟨_, ⟨h2, _⟩, h3⟩ := hn
  have hA : ∀ x ∈ A, x.name ≠ r.name := fun x hx => h3 x.name (List.mem_map_of_mem hx) r.name (by simp)
  have hB : ∀ x ∈ B, x.name ≠ r.name := fun x hx e => h2 (e ▸ List.mem_map_of_mem hx)
  refine ⟨A, B, rfl, ?_, hA, hB⟩
  have f : ∀ l : List Raw, (∀ x ∈ l, x.name ≠ r.name) → l.map (fun x => if x.name = r'.name then r' else x) = l := fun l hl => by
    conv => rhs; rw [← List.map_id l]
    exact List.map_congr_left fun x hx => by rw [if_neg (by rw [he]; exact hl x hx)]; rfl
  simp only [rep, List.map_append, List.map_cons, f A hA, f B hB]
  rw [if_pos he.symm]

theorem upd_perm {l l' : List Fl} (hp : l.Perm l') (nm : ByteArray) (g : Fl → Fl) : (upd nm g l).Perm (upd nm g l') := hp.map _

theorem upd_other {nm : ByteArray} {g : Fl → Fl} {l : List Fl} (h : ∀ f ∈ l, f.name ≠ nm) : upd nm g l = l := by
  conv => rhs; rw [← List.map_id l]
  exact List.map_congr_left fun x hx => by rw [if_neg (h x hx)]; rfl

/-- a file's bytes, or how many of them are durable, have changed; its block, its name, its entry have not -/
theorem DRaw.setFile (h : DRaw w d m D L clock) (hr : r ∈ L) {r' : Raw} {D' : Dk} {g : Fl → Fl} (hn : r'.name = r.name) (hfb : r'.f = r.f) (hb : r'.born = r.born)
    (hw : Chg (fun k => k ∈ r.blks ∨ k = d) w w') (hh : w'.heap[d]? = some (.cells (headCells m D') 114 (0, 0)))
    (hr' : RawOk w' r') (hs : ∀ b, sblk r'.sv = some b → sblk r.sv = some b ∨ w.heap.size ≤ b)
    (hf : D'.files = upd r.name g D.files) (hg : g r.fl = r'.fl) (ok : D'.Ok) :
    DRaw w' d m D' (rep r' L) clock ∧ ∀ k ∈ d :: m :: blks (rep r' L), k ∈ d :: m :: blks L ∨ w.heap.size ≤ k := by
  have hl := h.lt
  have hnd := h.nodup
  have hnb := h.nodup_blks
  obtain ⟨A, B, rfl, e, hA, hB⟩ := rep_split h.names hr hn
  rw [e]
  have hnew : ∀ k ∈ r'.blks, k ∈ r.blks ∨ w.heap.size ≤ k := fun k hk => by
    rcases List.mem_cons.1 hk with rfl | hk
    · exact .inl (by rw [hfb]; simp [Raw.blks])
    · rcases hs k (by simpa using hk) with h' | h'
      · exact .inl (by simp [Raw.blks, h'])
      · exact .inr h'
  have hsub : ∀ k ∈ d :: m :: blks (A ++ r' :: B), k ∈ d :: m :: blks (A ++ r :: B) ∨ w.heap.size ≤ k := fun k hk => by
    simp only [List.mem_cons, blks_append, blks_cons, List.mem_append] at hk ⊢
    rcases hk with hk | hk | hk | hk | hk
    · exact .inl (.inl hk)
    · exact .inl (.inr (.inl hk))
    · exact .inl (.inr (.inr (.inl hk)))
    · exact (hnew k hk).imp (fun h' => .inr (.inr (.inr (.inl h')))) id
    · exact .inl (.inr (.inr (.inr (.inr hk))))
  have hin : ∀ x ∈ A ++ r :: B, ∀ k ∈ x.blks, k < w.heap.size := fun x hx k hk => hl k (by simp only [List.mem_cons]; exact .inr (.inr (List.mem_flatMap.2 ⟨x, hx, hk⟩)))
  -- another file's blocks are none of r's
  have hoth : ∀ x, (x ∈ A ∨ x ∈ B) → ∀ k ∈ x.blks, k ∉ r.blks := fun x hx k hk hkr => by
    rw [blks_append, blks_cons, List.nodup_append] at hnb
    obtain ⟨_, h2, h3⟩ := hnb
    rw [List.nodup_append] at h2
    rcases hx with hx | hx
    · exact h3 k (List.mem_flatMap.2 ⟨x, hx, hk⟩) k (List.mem_append.2 (.inl hkr)) rfl
    · exact h2.2.2 k hkr k (List.mem_flatMap.2 ⟨x, hx, hk⟩) rfl
  have hr'nd : r'.blks.Nodup := by
    unfold Raw.blks
    rw [List.nodup_cons]
    refine ⟨fun hk => ?_, ?_⟩
    · have hk : sblk r'.sv = some r'.f := by simpa using hk
      rcases hs _ hk with h' | h'
      · rw [hfb] at h'
        have : r.blks.Nodup := by
          rw [blks_append, blks_cons, List.nodup_append] at hnb
          exact (List.nodup_append.1 hnb.2.1).1
        simp [Raw.blks, h'] at this
      · have := hin r (by simp) r.f (by simp [Raw.blks])
        rw [hfb] at h'; omega
    · cases sblk r'.sv <;> simp
  refine ⟨{ head := hh, map := ?_, raws := fun x hx => ?_, nodup := ?_, perm := ?_, stamps := ?_, young := ?_, ok := ok }, hsub⟩
  · have hm : w'.heap[m]? = w.heap[m]? := hw.block m (hl m (by simp)) (fun e => e.elim (fun e => h.ne_m hr e rfl) (fun e => h.ne_dm e.symm))
    have hen : (A ++ r' :: B).map Raw.en = (A ++ r :: B).map Raw.en := by simp [Raw.en, hn, hfb, hb]
    rw [hm, hen]; exact h.map
  · rcases List.mem_append.1 hx with hx' | hx'
    · refine (h.raws x (by simp [hx'])).keep fun k hk => hw.block k (hin x (by simp [hx']) k hk) ?_
      exact fun e => e.elim (hoth x (.inl hx') k hk) (h.ne_d (by simp [hx']) hk)
    · rcases List.mem_cons.1 hx' with rfl | hx'
      · exact hr'
      · refine (h.raws x (by simp [hx'])).keep fun k hk => hw.block k (hin x (by simp [hx']) k hk) ?_
        exact fun e => e.elim (hoth x (.inr hx') k hk) (h.ne_d (by simp [hx']) hk)
  · simp only [List.nodup_cons, List.mem_cons, not_or, blks_append, blks_cons, List.mem_append, List.nodup_append] at hnd ⊢
    obtain ⟨⟨h1, h2, h3, h4⟩, ⟨h5, h6, h7⟩, h8, ⟨h9, h10, h11⟩, h12⟩ := hnd
    have nl : ∀ k, k < w.heap.size → k ∉ r.blks → k ∉ r'.blks := fun k hk hn hk' => (hnew k hk').elim hn (fun h' => by omega)
    have hdlt : d < w.heap.size := hl d (by simp)
    have hmlt : m < w.heap.size := hl m (by simp)
    have hBlt : ∀ k ∈ blks B, k < w.heap.size := fun k hk => hl k (by simp [blks_append, blks_cons, hk])
    have hAlt : ∀ k ∈ blks A, k < w.heap.size := fun k hk => hl k (by simp [blks_append, blks_cons, hk])
    refine ⟨⟨h1, h2, nl d hdlt h3, h4⟩, ⟨h5, nl m hmlt h6, h7⟩, h8, ⟨hr'nd, h10, fun a ha b hb' e => ?_⟩, fun a ha b hb' e => ?_⟩
    · subst e
      exact nl a (hBlt a hb') (fun ha' => h11 a ha' a hb' rfl) ha
    · subst e
      rcases hb' with hb' | hb'
      · exact nl a (hAlt a ha) (fun h' => h12 a ha a (.inl h') rfl) hb'
      · exact h12 a ha a (.inr hb') rfl
  · rw [hf]
    have hp := upd_perm h.perm r.name g
    have e2 : upd r.name g ((A ++ r :: B).map Raw.fl) = (A ++ r' :: B).map Raw.fl := by
      have a1 : ∀ l : List Raw, (∀ x ∈ l, x.name ≠ r.name) → upd r.name g (l.map Raw.fl) = l.map Raw.fl := fun l hl => upd_other fun f hf => by
        obtain ⟨x, hx, rfl⟩ := List.mem_map.1 hf; exact hl x hx
      have e3 : ∀ l l' : List Fl, upd r.name g (l ++ l') = upd r.name g l ++ upd r.name g l' := fun l l' => by simp [upd]
      rw [List.map_append, e3, a1 A hA, List.map_cons]
      have e4 : upd r.name g (r.fl :: B.map Raw.fl) = g r.fl :: upd r.name g (B.map Raw.fl) := by simp [upd, Raw.fl]
      rw [e4, a1 B hB, hg]; simp
    rw [e2] at hp; exact hp
  · have : (A ++ r' :: B).map (·.born) = (A ++ r :: B).map (·.born) := by simp [hb]
    rw [this]; exact h.stamps
  · intro x hx
    rcases List.mem_append.1 hx with hx' | hx'
    · exact h.young x (by simp [hx'])
    · rcases List.mem_cons.1 hx' with rfl | hx'
      · rw [hb]; exact h.young r (by simp)
      · exact h.young x (by simp [hx'])

/-- a new file -/
theorem DRaw.newFile (h : DRaw w d m D L clock) {r' : Raw} {D' : Dk} (hnew : get D.files r'.name = none) (hb : r'.born = clock)
    (hw : Chg (· = m) w w') (hh : w'.heap[d]? = some (.cells (headCells m D') 114 (0, 0)))
    (hm : w'.heap[m]? = some (.map (ents ((L ++ [r']).map Raw.en)) (clock + 1)))
    (hr' : RawOk w' r') (hs : ∀ k ∈ r'.blks, w.heap.size ≤ k) (hnd : r'.blks.Nodup) (hf : D'.files.Perm (r'.fl :: D.files)) (ok : D'.Ok) :
    DRaw w' d m D' (L ++ [r']) (clock + 1) ∧ ∀ k ∈ d :: m :: blks (L ++ [r']), k ∈ d :: m :: blks L ∨ w.heap.size ≤ k := by
  have hl := h.lt
  refine ⟨{ head := hh, map := hm, raws := fun x hx => ?_, nodup := ?_, perm := ?_, stamps := ?_, young := ?_, ok := ok }, ?_⟩
  · rcases List.mem_append.1 hx with hx | hx
    · exact (h.raws x hx).keep fun k hk => hw.block k (hl k (by simp only [List.mem_cons]; exact .inr (.inr (List.mem_flatMap.2 ⟨x, hx, hk⟩)))) (h.ne_m hx hk)
    · obtain rfl : x = r' := by simpa using hx
      exact hr'
  · have hnd' := h.nodup
    simp only [List.nodup_cons, List.mem_cons, not_or] at hnd' ⊢
    have hlt : ∀ k, k < w.heap.size → k ∉ r'.blks := fun k hk hk' => by have := hs k hk'; omega
    have e : blks (L ++ [r']) = blks L ++ r'.blks := by simp [blks]
    rw [e]
    simp only [List.mem_append, not_or, List.nodup_append]
    exact ⟨⟨hnd'.1.1, hnd'.1.2, hlt d (hl d (by simp))⟩, ⟨hnd'.2.1, hlt m (hl m (by simp))⟩, hnd'.2.2, hnd, fun a ha b hb' e => hlt a (hl a (by simp [ha])) (e ▸ hb')⟩
  · have : (L ++ [r']).map Raw.fl = L.map Raw.fl ++ [r'.fl] := by simp
    rw [this]
    exact (List.perm_append_comm.trans ((h.perm.cons r'.fl))).trans hf.symm
  · simp only [List.map_append, List.map_cons, List.map_nil, List.nodup_append]
    refine ⟨h.stamps, by simp, fun a ha b hb' => ?_⟩
    obtain ⟨x, hx, rfl⟩ := List.mem_map.1 ha
    have := h.young x hx
    simp at hb'; subst hb'; omega
  · intro x hx
    rcases List.mem_append.1 hx with hx | hx
    · have := h.young x hx; omega
    · obtain rfl : x = r' := by simpa using hx
      omega
  · intro k hk
    simp only [List.mem_cons, blks, List.flatMap_append, List.mem_append, List.flatMap_cons, List.flatMap_nil, List.append_nil] at hk ⊢
    rcases hk with hk | hk | hk | hk
    · exact .inl (.inl hk)
    · exact .inl (.inr (.inl hk))
    · exact .inl (.inr (.inr hk))
    · exact .inr (hs k hk)

/-- a file goes -/
theorem DRaw.delFile (h : DRaw w d m D L clock) (nm : ByteArray) {D' : Dk} (hw : Chg (fun k => k = m ∨ k = d) w w')
    (hh : w'.heap[d]? = some (.cells (headCells m D') 114 (0, 0)))
    (hm : w'.heap[m]? = some (.map (ents ((L.map Raw.en).filter (·.key != nm))) clock)) (hf : D'.files = del nm D.files) (ok : D'.Ok) :
    DRaw w' d m D' (L.filter (·.name != nm)) clock ∧ ∀ k ∈ d :: m :: blks (L.filter (·.name != nm)), k ∈ d :: m :: blks L := by
  have hl := h.lt
  have hsub : ∀ k ∈ blks (L.filter (·.name != nm)), k ∈ blks L := fun k hk => by
    obtain ⟨x, hx, hk⟩ := List.mem_flatMap.1 hk
    exact List.mem_flatMap.2 ⟨x, (List.mem_filter.1 hx).1, hk⟩
  have hsl : (blks (L.filter (·.name != nm))).Sublist (blks L) := by
    unfold blks
    clear hsub hm hw hh hl
    induction L with
    | nil => exact List.Sublist.refl _
    | cons x L ih =>
      have ih' : (List.flatMap Raw.blks (L.filter (·.name != nm))).Sublist (List.flatMap Raw.blks L) := by
        clear h ih
        induction L with
        | nil => exact List.Sublist.refl _
        | cons y L ih =>
          rw [List.filter_cons]
          split
          · simpa using ih
          · exact ih.trans (by simp)
      rw [List.filter_cons]
      split
      · simpa using ih'
      · exact ih'.trans (by simp)
  refine ⟨{ head := hh, map := ?_, raws := fun x hx => ?_, nodup := ?_, perm := ?_, stamps := ?_, young := fun x hx => h.young x (List.mem_filter.1 hx).1, ok := ok }, ?_⟩
  · rw [hm]
    congr 3
    rw [List.filter_map]; rfl
  · have hx := (List.mem_filter.1 hx).1
    exact (h.raws x hx).keep fun k hk => hw.block k (hl k (by simp only [List.mem_cons]; exact .inr (.inr (List.mem_flatMap.2 ⟨x, hx, hk⟩)))) (fun e => e.elim (h.ne_m hx hk) (h.ne_d hx hk))
  · exact h.nodup.sublist ((hsl.cons_cons m).cons_cons d)
  · rw [hf]
    have := h.perm.filter (fun f => decide (f.name ≠ nm))
    rw [List.filter_map] at this
    refine List.Perm.trans (List.Perm.of_eq ?_) this
    congr 1
    exact List.filter_congr fun x _ => by by_cases e : x.name = nm <;> simp [Function.comp, Raw.fl, e]
  · exact h.stamps.sublist ((List.filter_sublist).map _)
  · intro k hk
    simp only [List.mem_cons] at hk ⊢
    exact hk.imp id (fun hk => hk.imp id (hsub k))
end
end Go.Dr
