/- Package disk's Load, and a copy of files, for a seat in which the disk's laws do not stand. Conditions: the files lie as IFiles says. -/
import Derived.Test.YtaiaghfckhgnnaaDoorJm
import Derived.Test.YtaiaghfckhgnnaaDoorD8
namespace Go.Proofs
open Go.RowKit Go.Hp Go.Dm Go.Dr
set_option linter.unusedVariables false
set_option maxRecDepth 10000

theorem total_append (a b : List Fl) : total (a ++ b) = total a + total b := by simp [total]
theorem OB_len {w : World} {E : TypeId} {p : Option Addr} {n c : Nat} {l : List UInt8} (h : OB w E (.slice p n c) l) : n = l.length := by
  obtain ⟨_, _, e, -⟩ := h
  simp only [Value.slice.injEq] at e
  exact e.2.1
/-- a file as it is handed in -/
structure FI where
  name : ByteArray
  bytes : List UInt8
  sure : Int
def FI.fl (f : FI) : Fl := ⟨f.name, f.bytes, f.sure.toNat⟩
/-- what refuses f behind the files acc: 0, or an error's number -/
def ldErr (acc : List Fl) (f : FI) : Nat :=
  if okName f.name then (match Dm.get acc f.name with | some _ => 61 | none => if f.sure < 0 ∨ (f.bytes.length : Int) < f.sure then 12 else 0) else 113
def ldGo : List Fl → List FI → Nat × List Fl
  | acc, [] => (0, acc)
  | acc, f :: r => if ldErr acc f = 0 then ldGo (acc ++ [f.fl]) r else (ldErr acc f, acc)
/-- the files by name, rising -/
def sortL (l : List Fl) : List Fl := l.foldl (fun l f => ins f l) []
theorem sortL_snoc (l : List Fl) (f : Fl) : sortL (l ++ [f]) = ins f (sortL l) := by simp [sortL]
theorem sort_go : ∀ (l acc : List Fl), (l.foldl (fun l f => ins f l) acc).Perm (acc ++ l)
  | [], acc => by simp
  | f :: l, acc => (sort_go l (ins f acc)).trans (((ins_perm f acc).append_right l).trans List.perm_middle.symm)
theorem sortL_perm (l : List Fl) : (sortL l).Perm l := by simpa [sortL] using sort_go l []
theorem sort_sorted : ∀ (l acc : List Fl), Sorted acc → ((acc ++ l).map (·.name)).Nodup → Sorted (l.foldl (fun l f => ins f l) acc)
  | [], acc, h, _ => h
  | f :: l, acc, h, hn => by
    have hp : (acc ++ f :: l).Perm (ins f acc ++ l) := List.perm_middle.trans ((ins_perm f acc).symm.append_right l)
    have hn' := (hp.map (·.name)).nodup_iff.1 hn
    refine sort_sorted l (ins f acc) (ins_sorted h fun g hg e => ?_) hn'
    rw [List.map_append, List.nodup_append] at hn
    exact hn.2.2 g.name (List.mem_map_of_mem hg) f.name (by simp) e
theorem sortL_sorted {l : List Fl} (hn : (l.map (·.name)).Nodup) : Sorted (sortL l) := sort_sorted l [] List.Pairwise.nil (by simpa using hn)
theorem sortL_get {l : List Fl} (hn : (l.map (·.name)).Nodup) (nm : ByteArray) : Dm.get (sortL l) nm = Dm.get l nm := (get_perm (sortL_perm l).symm hn nm).symm
theorem sortL_total (l : List Fl) : total (sortL l) = total l := total_perm (sortL_perm l)
theorem sortL_len (l : List Fl) : (sortL l).length = l.length := (sortL_perm l).length_eq

/-- a file that nothing has refused -/
theorem ldErr_zero {acc : List Fl} {f : FI} (h : ldErr acc f = 0) : okName f.name = true ∧ Dm.get acc f.name = none ∧ 0 ≤ f.sure ∧ f.sure ≤ (f.bytes.length : Int) := by
  unfold ldErr at h
  by_cases h1 : okName f.name = true
  · rw [if_pos h1] at h
    cases hg : Dm.get acc f.name with
    | some x => rw [hg] at h; cases h
    | none =>
      rw [hg] at h
      simp only at h
      by_cases h2 : f.sure < 0 ∨ (f.bytes.length : Int) < f.sure
      · rw [if_pos h2] at h; cases h
      · exact ⟨h1, rfl, by omega, by omega⟩
  · rw [if_neg h1] at h; cases h
theorem ld_nodup {acc : List Fl} {f : FI} (hn : (acc.map (·.name)).Nodup) (h : ldErr acc f = 0) : ((acc ++ [f.fl]).map (·.name)).Nodup := by
  rw [List.map_append, List.nodup_append]
  refine ⟨hn, by simp, fun a ha b hb e => ?_⟩
  obtain ⟨x, hx, rfl⟩ := List.mem_map.1 ha
  have hb : b = f.name := by simpa [FI.fl] using hb
  exact get_none (ldErr_zero h).2.1 x hx (e.trans hb)

/-- a file that is handed in, as it lies -/
structure LI where
  name : ByteArray
  p : Option Addr
  cap : Nat
  bytes : List UInt8
  sure : Int
def LI.sv (x : LI) : Value := .slice x.p x.bytes.length x.cap
def LI.enc (x : LI) : List Value := [.string x.name, x.sv, .int .i64 x.sure]
def LI.fi (x : LI) : FI := ⟨x.name, x.bytes, x.sure⟩
def LI.Ok (x : LI) : Prop := x.name.size ≤ maxLen ∧ x.bytes.length ≤ 1099511627776 ∧ x.bytes.length ≤ x.cap ∧ -9223372036854775808 ≤ x.sure ∧ x.sure ≤ 9223372036854775807
theorem len_li : ∀ x : LI, x.enc.length = 3 := fun _ => rfl

structure IFiles (w : World) (v : Value) (l : List LI) : Prop where
  row : RC w 3 v l.length (l.flatMap LI.enc)
  each : ∀ x ∈ l, x.Ok ∧ RB w x.sv x.bytes
  len : l.length ≤ 1048576
  sum : total (l.map fun x => x.fi.fl) ≤ 1099511627776
theorem IFiles.chg {w w' : World} {v : Value} {l : List LI} (h : IFiles w v l) (hc : Chg (fun _ => False) w w') : IFiles w' v l :=
  ⟨RC.chg h.row hc fun _ _ h => h, fun y hy => ⟨(h.each y hy).1, RC.chg (h.each y hy).2 hc fun _ _ h => h⟩, h.len, h.sum⟩

/-- one file of these, as it lies -/
theorem IFiles.file {w : World} {p : Option Addr} {n c : Nat} {l : List LI} (h : IFiles w (.slice p n c) l) {k : Nat} (hk : k < l.length) :
    ∃ b off x, p = some ⟨b, off, none⟩ ∧ n = l.length ∧ l.length ≤ c ∧ b < w.heap.size ∧ l[k]? = some x ∧ x.Ok ∧ RB w x.sv x.bytes ∧
      w.cell? ⟨b, off + k * 3, none⟩ = some (.string x.name) ∧ w.cell? ⟨b, off + k * 3 + 1, none⟩ = some x.sv ∧ w.cell? ⟨b, off + k * 3 + 2, none⟩ = some (.int .i64 x.sure) := by
  obtain ⟨p', c', he, hnc, -, hblk⟩ := h.row
  obtain ⟨rfl, rfl, rfl⟩ : p = p' ∧ n = l.length ∧ c = c' := by simpa only [Value.slice.injEq] using he
  obtain ⟨b, off, arr, t, fz, rfl, hh, hx⟩ := hblk (by omega)
  obtain ⟨x, hxk⟩ : ∃ x, l[k]? = some x := ⟨_, List.getElem?_eq_getElem hk⟩
  have hcell : ∀ q u, x.enc[q]? = some u → w.cell? ⟨b, off + k * 3 + q, none⟩ = some u := fun q u hu => by
    rw [hcell_of hh, Nat.add_assoc]
    exact hx (k * 3 + q) u (flat_at (f := LI.enc) (k := 3) len_li hxk hu)
  obtain ⟨h1, h2⟩ := h.each x (List.mem_of_getElem? hxk)
  exact ⟨b, off, x, rfl, rfl, hnc, hlt_of hh, hxk, h1, h2, hcell 0 _ rfl, hcell 1 _ rfl, hcell 2 _ rfl⟩

/-- the copies so far -/
structure OFiles (w0 w : World) (v : Value) (l : List LI) : Prop where
  sl : OC w 3 106 v l.length (l.flatMap LI.enc)
  each : ∀ x ∈ l, x.Ok ∧ OB w 5 x.sv x.bytes ∧ ∀ k, sblk x.sv = some k → sblk v ≠ some k
  low : ∀ k, sblk v = some k → w0.heap.size ≤ k
  chg : Chg (fun _ => False) w0 w
theorem OFiles.given {w0 w : World} {v : Value} {l : List LI} (h : OFiles w0 w v l) (hl : l.length ≤ 1048576) (hs : total (l.map fun x => x.fi.fl) ≤ 1099511627776) : IFiles w v l :=
  ⟨h.sl.rc, fun x hx => ⟨(h.each x hx).1, (h.each x hx).2.1.rc⟩, hl, hs⟩
theorem OFiles.push {w0 w W w4 : World} {v v' : Value} {l : List LI} {x : LI} (h : OFiles w0 w v l) (hW : Chg (fun _ => False) w W) (hxo : x.Ok) (hx : OB W 5 x.sv x.bytes) (hxn : ∀ b, sblk x.sv = some b → w.heap.size ≤ b)
    (ho : OC w4 3 106 v' (l.length + 1) (l.flatMap LI.enc ++ x.enc)) (hc : Chg (fun b => sblk v = some b) W w4) (hb : ∀ b, sblk v' = some b → sblk v = some b ∨ W.heap.size ≤ b) : OFiles w0 w4 v' (l ++ [x]) := by
  have hs := hW.size
  have hs0 := h.chg.size
  have hvlt : ∀ b, sblk v = some b → b < w.heap.size := fun b hb => OC.lt h.sl hb
  have hxl : ∀ b, sblk x.sv = some b → b < W.heap.size := fun b hb => OC.lt hx hb
  refine ⟨?_, fun y hy => ?_, fun k hk => ?_, (h.chg.trans hW fun _ h => h.elim).trans hc fun k hk => .inr (h.low k hk)⟩
  · rw [List.length_append, List.flatMap_append]
    simpa using ho
  · rcases List.mem_append.1 hy with hy | hy
    · obtain ⟨h1, h2, h3⟩ := h.each y hy
      have hlt : ∀ b, sblk y.sv = some b → b < w.heap.size := fun b hb => OC.lt h2 hb
      refine ⟨h1, OC.keep h2 fun b hb => ?_, fun k hk e => ?_⟩
      · rw [hc.block b (by have := hlt b hb; omega) (h3 b hb), hW.block b (hlt b hb) (fun h => h)]
      · rcases hb k e with h' | h'
        · exact h3 k hk h'
        · have := hlt k hk; omega
    · obtain rfl : y = x := by simpa using hy
      refine ⟨hxo, OC.keep hx fun b hb => hc.block b (hxl b hb) fun e => by have := hvlt b e; have := hxn b hb; omega, fun k hk e => ?_⟩
      rcases hb k e with h' | h'
      · have := hvlt k h'; have := hxn k hk; omega
      · have := hxl k hk; omega
  · rcases hb k hk with h' | h'
    · exact h.low k h'
    · omega

section
variable {w w' : World} {l : List LI}

end
end Go.Proofs
namespace Go.Dr
open Go Go.RowKit Go.Hp Go.Dm
set_option linter.unusedVariables false

structure LRaw (w : World) (d m n : Nat) (fs : List Fl) (L : List Raw) (clock : Nat) : Prop where
  head : w.heap[d]? = some (.cells #[.int .i64 (n : Int), .int .i64 (total fs : Int), .map (some m), .bool false, .int .i64 0, .int .i64 0] 56 (0, 0))
  map : w.heap[m]? = some (.map (ents (L.map Raw.en)) clock)
  raws : ∀ r ∈ L, RawOk w r
  nodup : (d :: m :: blks L).Nodup
  files : L.map Raw.fl = fs
  names : (fs.map (·.name)).Nodup
  stamps : (L.map (·.born)).Nodup
  young : ∀ r ∈ L, r.born < clock

section
variable {w w' : World} {d m n : Nat} {fs : List Fl} {L : List Raw} {clock : Nat} {r : Raw}

theorem LRaw.keep (h : LRaw w d m n fs L clock) (hk : ∀ k ∈ d :: m :: blks L, w'.heap[k]? = w.heap[k]?) : LRaw w' d m n fs L clock :=
  { h with
    head := (hk _ (by simp)).trans h.head
    map := (hk _ (by simp)).trans h.map
    raws := fun r hr => (h.raws r hr).keep fun k hk' => hk k (by simp only [List.mem_cons]; exact .inr (.inr (List.mem_flatMap.2 ⟨r, hr, hk'⟩))) }
theorem LRaw.lt (h : LRaw w d m n fs L clock) : ∀ k ∈ d :: m :: blks L, k < w.heap.size := by
  intro k hk
  simp only [List.mem_cons] at hk
  rcases hk with rfl | rfl | hk
  · exact hlt_of h.head
  · exact hlt_of h.map
  · obtain ⟨r, hr, hk⟩ := List.mem_flatMap.1 hk
    simp only [Raw.blks, List.mem_cons] at hk
    rcases hk with rfl | hk
    · exact hlt_of (h.raws r hr).cells
    · exact OC.lt (h.raws r hr).own (by simpa using hk)
theorem LRaw.names' (h : LRaw w d m n fs L clock) : (L.map (·.name)).Nodup := by
  have h1 := h.names
  rw [← h.files] at h1
  simpa [List.map_map, Function.comp_def, Raw.fl] using h1
theorem LRaw.get_none (h : LRaw w d m n fs L clock) {nm : ByteArray} (hg : Dm.get fs nm = none) : ∀ r ∈ L, r.name ≠ nm := fun r hr e => by
  have h1 : r.fl ∈ fs := h.files ▸ List.mem_map_of_mem hr
  exact Dm.get_none hg r.fl h1 e
theorem LRaw.get_some (h : LRaw w d m n fs L clock) {nm : ByteArray} {f : Fl} (hg : Dm.get fs nm = some f) : ∃ r ∈ L, r.name = nm ∧ r.fl = f := by
  obtain ⟨h1, h2⟩ := Dm.get_some hg
  rw [← h.files] at h1
  obtain ⟨r, hr, rfl⟩ := List.mem_map.1 h1
  exact ⟨r, hr, h2, rfl⟩
theorem LRaw.cells (h : LRaw w d m n fs L clock) :
    w.cell? ⟨d, 0, none⟩ = some (.int .i64 (n : Int)) ∧ w.cell? ⟨d, 1, none⟩ = some (.int .i64 (total fs : Int)) ∧ w.cell? ⟨d, 2, none⟩ = some (.map (some m)) ∧ (∀ i, w.frozen? ⟨d, i, none⟩ = false) :=
  ⟨by rw [hcell_of h.head]; rfl, by rw [hcell_of h.head]; rfl, by rw [hcell_of h.head]; rfl, fun i => hfree_of h.head i⟩
theorem LRaw.ne_dm (h : LRaw w d m n fs L clock) : d ≠ m := by
  have := h.nodup; simp only [List.nodup_cons, List.mem_cons, not_or] at this; exact this.1.1
theorem LRaw.ne_m (h : LRaw w d m n fs L clock) (hr : r ∈ L) {k : Nat} (hk : k ∈ r.blks) : k ≠ m := fun e => by
  have := h.nodup; simp only [List.nodup_cons, List.mem_cons, not_or] at this
  exact this.2.1 (List.mem_flatMap.2 ⟨r, hr, e ▸ hk⟩)
theorem LRaw.ne_d (h : LRaw w d m n fs L clock) (hr : r ∈ L) {k : Nat} (hk : k ∈ r.blks) : k ≠ d := fun e => by
  have := h.nodup; simp only [List.nodup_cons, List.mem_cons, not_or] at this
  exact this.1.2 (List.mem_flatMap.2 ⟨r, hr, e ▸ hk⟩)

/-- one more file -/
theorem LRaw.push (h : LRaw w d m n fs L clock) {r' : Raw} (hnew : Dm.get fs r'.name = none) (hb : r'.born = clock)
    (hw : Chg (fun k => k = m ∨ k = d) w w') (hh : w'.heap[d]? = some (.cells #[.int .i64 (n : Int), .int .i64 (total (fs ++ [r'.fl]) : Int), .map (some m), .bool false, .int .i64 0, .int .i64 0] 56 (0, 0)))
    (hm : w'.heap[m]? = some (.map (ents ((L ++ [r']).map Raw.en)) (clock + 1)))
    (hr' : RawOk w' r') (hs : ∀ k ∈ r'.blks, w.heap.size ≤ k) (hnd : r'.blks.Nodup) :
    LRaw w' d m n (fs ++ [r'.fl]) (L ++ [r']) (clock + 1) ∧ ∀ k ∈ d :: m :: blks (L ++ [r']), k ∈ d :: m :: blks L ∨ w.heap.size ≤ k := by
  have hl := h.lt
  refine ⟨{ head := hh, map := hm, raws := fun x hx => ?_, nodup := ?_, files := ?_, names := ?_, stamps := ?_, young := ?_ }, ?_⟩
  · rcases List.mem_append.1 hx with hx | hx
    · exact (h.raws x hx).keep fun k hk => hw.block k (hl k (by simp only [List.mem_cons]; exact .inr (.inr (List.mem_flatMap.2 ⟨x, hx, hk⟩)))) (fun e => e.elim (h.ne_m hx hk) (h.ne_d hx hk))
    · obtain rfl : x = r' := by simpa using hx
      exact hr'
  · have hnd' := h.nodup
    simp only [List.nodup_cons, List.mem_cons, not_or] at hnd' ⊢
    have hlt : ∀ k, k < w.heap.size → k ∉ r'.blks := fun k hk hk' => by have := hs k hk'; omega
    have e : blks (L ++ [r']) = blks L ++ r'.blks := by simp [blks]
    rw [e]
    simp only [List.mem_append, not_or, List.nodup_append]
    exact ⟨⟨hnd'.1.1, hnd'.1.2, hlt d (hl d (by simp))⟩, ⟨hnd'.2.1, hlt m (hl m (by simp))⟩, hnd'.2.2, hnd, fun a ha b hb' e => hlt a (hl a (by simp [ha])) (e ▸ hb')⟩
  · rw [List.map_append, h.files]; rfl
  · rw [List.map_append, List.nodup_append]
    refine ⟨h.names, by simp, fun a ha b hb' e => ?_⟩
    obtain ⟨x, hx, rfl⟩ := List.mem_map.1 ha
    have hb' : b = r'.name := by simpa [Raw.fl] using hb'
    exact Dm.get_none hnew x hx (e.trans hb')
  · simp only [List.map_append, List.map_cons, List.map_nil, List.nodup_append]
    refine ⟨h.stamps, by simp, fun a ha b hb' => ?_⟩
    obtain ⟨x, hx, rfl⟩ := List.mem_map.1 ha
    have := h.young x hx
    simp at hb'; subst hb'; omega
  · intro x hx
    rcases List.mem_append.1 hx with hx | hx
    · have := h.young x hx; omega
    · obtain rfl : x = r' := by simpa using hx
      omega
  · intro k hk
    simp only [List.mem_cons, blks, List.flatMap_append, List.mem_append, List.flatMap_cons, List.flatMap_nil, List.append_nil] at hk ⊢
    rcases hk with hk | hk | hk | hk
    · exact .inl (.inl hk)
    · exact .inl (.inr (.inl hk))
    · exact .inl (.inr (.inr hk))
    · exact .inr (hs k hk)
theorem LRaw.rep (h : LRaw w d m n fs L clock) {D : Dk} (hD : D = ⟨n, Go.Proofs.sortL fs, false, 0, 0⟩) (ok : D.Ok) : DRaw w d m D L clock := by
  subst hD
  refine { head := ?_, map := h.map, raws := h.raws, nodup := h.nodup, perm := ?_, stamps := h.stamps, young := h.young, ok := ok }
  · rw [h.head]
    have e : (Dk.used ⟨n, Go.Proofs.sortL fs, false, 0, 0⟩) = total fs := Go.Proofs.sortL_total fs
    simp [headCells, e]
  · rw [h.files]; exact (Go.Proofs.sortL_perm fs).symm
end
end Go.Dr
namespace Go.Proofs
open Go.RowKit Go.Hp Go.Dm Go.Dr
set_option linter.unusedVariables false
set_option maxRecDepth 10000

theorem ldGo_step : ∀ {a acc fs b}, ldGo acc a = (0, fs) → ldGo acc (a ++ b) = ldGo fs b
  | [], acc, fs, b, h => by simp only [ldGo, Prod.mk.injEq, true_and] at h; subst h; rfl
  | f :: a, acc, fs, b, h => by
    simp only [ldGo] at h
    by_cases he : ldErr acc f = 0
    · rw [if_pos he] at h
      have := ldGo_step (b := b) h
      simp only [List.cons_append, ldGo]
      rw [if_pos he]; exact this
    · rw [if_neg he] at h
      simp only [Prod.mk.injEq] at h
      exact absurd h.1 he
theorem ldGo_take {l : List FI} {j : Nat} {fs : List Fl} {x : FI} (h : ldGo [] (l.take j) = (0, fs)) (hx : l[j]? = some x) :
    (ldErr fs x = 0 → ldGo [] (l.take (j + 1)) = (0, fs ++ [x.fl])) ∧ (ldErr fs x ≠ 0 → ldGo [] l = (ldErr fs x, fs)) := by
  constructor
  · intro he
    rw [List.take_add_one, hx, ldGo_step h]
    simp [ldGo, he]
  · intro he
    obtain ⟨hj, rfl⟩ := List.getElem?_eq_some_iff.1 hx
    have e : l = l.take j ++ l[j] :: l.drop (j + 1) := by rw [List.getElem_cons_drop, List.take_append_drop]
    have := ldGo_step (b := l[j] :: l.drop (j + 1)) h
    rw [← e] at this
    rw [this, ldGo, if_neg he]
theorem ldGo_fl : ∀ {a acc fs}, ldGo acc a = (0, fs) → fs = acc ++ a.map FI.fl
  | [], acc, fs, h => by simp only [ldGo, Prod.mk.injEq, true_and] at h; simp [h]
  | f :: a, acc, fs, h => by
    simp only [ldGo] at h
    by_cases he : ldErr acc f = 0
    · rw [if_pos he] at h
      rw [ldGo_fl h]; simp
    · rw [if_neg he] at h
      simp only [Prod.mk.injEq] at h
      exact absurd h.1 he
theorem ldGo_tot {l : List LI} {j : Nat} {fs : List Fl} (h : ldGo [] ((l.map LI.fi).take j) = (0, fs)) (hs : total (l.map fun x => x.fi.fl) ≤ 1099511627776) : total fs ≤ 1099511627776 := by
  have e : l.map (fun x => x.fi.fl) = fs ++ ((l.map LI.fi).drop j).map FI.fl := by
    rw [ldGo_fl h, List.nil_append, ← List.map_append, List.take_append_drop, List.map_map]; rfl
  rw [e, total_append] at hs
  omega
/-- what Load answers: an error's number, or 0 and the disk -/
def ldAll (lim : Int) (fs : List FI) : Nat × List Fl :=
  if lim < 0 ∨ 1099511627776 < lim then (12, []) else if (ldGo [] fs).1 ≠ 0 then ldGo [] fs else if lim < (total (ldGo [] fs).2 : Int) then (12, []) else ldGo [] fs

theorem ldAll_err {n e : Nat} {fs : List FI} {acc : List Fl} (hn : n ≤ 1099511627776) (h : ldGo [] fs = (e, acc)) (he : e ≠ 0) : ldAll n fs = (e, acc) := by
  unfold ldAll
  rw [if_neg (by omega), h, if_pos he]
theorem ldAll_full {n : Nat} {fs : List FI} {acc : List Fl} (hn : n ≤ 1099511627776) (h : ldGo [] fs = (0, acc)) (ht : n < total acc) : ldAll n fs = (12, []) := by
  unfold ldAll
  rw [if_neg (by omega), h, if_neg (by simp), if_pos (by simp only; omega)]
theorem ldAll_ok {n : Nat} {fs : List FI} {acc : List Fl} (hn : n ≤ 1099511627776) (h : ldGo [] fs = (0, acc)) (ht : total acc ≤ n) : ldAll n fs = (0, acc) := by
  unfold ldAll
  rw [if_neg (by omega), h, if_neg (by simp), if_neg (by simp only; omega)]

section
variable {w w' : World} {l : List LI}

/-- ahead of a round of Load -/
structure LdRel (w wr : World) (n : Nat) (l : List LI) (d m : Nat) (j : Nat) (fs : List Fl) (L : List Raw) (clock : Nat) : Prop where
  raw : LRaw wr d m n fs L clock
  go : ldGo [] ((l.map LI.fi).take j) = (0, fs)
  low : ∀ k ∈ d :: m :: blks L, w.heap.size ≤ k
  chg : Chg (fun _ => False) w wr
  tot : total fs ≤ 1099511627776
  sure : ∀ f ∈ fs, f.sure ≤ f.bytes.length

set_option maxHeartbeats 4000000 in
theorem load_any {n : Nat} {pi : Option Addr} {ni ci : Nat} (hn : n ≤ 1099511627776) (h : IFiles w (.slice pi ni ci) l) :
    Calls Tryd.prog 39 #[.int .i64 (n : Int), .slice pi ni ci] w fun e w' =>
      ((ldAll n (l.map LI.fi)).1 ≠ 0 ∧ e = .returned (.tuple #[.pointer none, .int .i64 ((ldAll n (l.map LI.fi)).1 : Int)]) ∧ Chg (fun _ => False) w w') ∨
      ((ldAll n (l.map LI.fi)).1 = 0 ∧ ∃ d F, e = .returned (.tuple #[.pointer (some ⟨d, 0, none⟩), .int .i64 0]) ∧ DRep w' d ⟨n, sortL (ldAll n (l.map LI.fi)).2, false, 0, 0⟩ F ∧ Ev [] F w w') := by
  obtain ⟨rfl, hlc, hlen⟩ : ni = l.length ∧ l.length ≤ ci ∧ l.length ≤ 1048576 := by
    obtain ⟨p', c', he, hnc, -⟩ := id h.row
    obtain ⟨rfl, rfl, rfl⟩ : pi = p' ∧ ni = l.length ∧ ci = c' := by simpa only [Value.slice.injEq] using he
    exact ⟨rfl, hnc, h.len⟩
  have hleni : (l.length : Int) ≤ 1048576 := by omega
  have hlci : (l.length : Int) ≤ ci := by omega
  have hni : (n : Int) ≤ 1099511627776 := by omega
  have hnew := new_ok (w := w) n hn
  have H := Lib.hid h
  have HLEN := Lib.hid hlen
  have HN := Lib.hid hn
  have HNEW := Lib.hid hnew
  clear h hlen hlc hnew hn
  go_enter Tryd.func39, Tryd.ntmps39
  go_wp2_with (first | (go_at_call 6; refine stop ?_))
  refine go ?_
  refine HNEW.out.mono ?_
  rintro e w1 ⟨rfl, ⟨m, L0, clock0, hr0, hF0⟩, hev0⟩
  have hst : LdRel w w1 n l (w.heap.size + 1) m 0 [] [] clock0 := by
    have hL : L0 = [] := by have := hr0.perm.length_eq; cases L0 with | nil => rfl | cons a b => simp at this
    subst hL
    have hm : m = w.heap.size := by simp [blks] at hF0; omega
    exact { raw := { head := hr0.head, map := hr0.map, raws := hr0.raws, nodup := hr0.nodup, files := rfl, names := List.nodup_nil, stamps := hr0.stamps, young := hr0.young }, go := rfl, low := fun k hk => by simp [blks] at hk; omega, chg := hev0.chg.mono fun k hk => .inl (by cases hk), tot := by simp [total], sure := fun f hf => (by cases hf) }
  generalize w.heap.size + 1 = d at *
  have HST := Lib.hid hst
  clear hr0 hF0 hev0 hst
  go_wp2
  go_loopw [20] (fun i wr => ∃ (j : Nat) (fs : List Fl) (L : List Raw) (clock : Nat), i = .int .i64 (j : Int) ∧ j ≤ l.length ∧ LdRel w wr n l d m j fs L clock) (fun i _ => l.length - (Lib.intOf i).toNat)
  case atStart => exact ⟨0, [], [], clock0, rfl, Nat.zero_le _, HST.out⟩
  case round =>
    obtain ⟨j, fs, L, clock, rfl, hj, hR⟩ := hrel
    have HR := Lib.hid hR
    have H1 := Lib.hid (H.out.chg hR.chg)
    clear hR
    by_cases hjl : (j : Int) < l.length
    · obtain ⟨b, off, x, he, -, -, hbl, hx, hxo, hrb, z0, z1, z2⟩ := H1.out.file (k := j) (by omega)
      subst he
      have hj0 : (0 : Int) ≤ (j : Int) := by omega
      have hxf : (l.map LI.fi)[j]? = some x.fi := by rw [List.getElem?_map, hx]; rfl
      have htk := ldGo_take HR.out.go hxf
      have e2 : x.sv = .slice x.p x.bytes.length x.cap := rfl
      rw [e2] at z1 hrb
      have hat := halloc_at wr (.cells #[.string x.name, .slice x.p x.bytes.length x.cap, .int .i64 x.sure] 106)
      have q0 := hcell_of hat 0
      have q1 := hcell_of hat 1
      have q2 := hcell_of hat 2
      simp only [List.getElem?_toArray, List.getElem?_cons_zero, List.getElem?_cons_succ] at q0 q1 q2
      have hraw := HR.out.raw.keep (w' := wr.alloc (.cells #[.string x.name, .slice x.p x.bytes.length x.cap, .int .i64 x.sure] 106)) fun k hk => halloc_lt (HR.out.raw.lt k hk)
      have hch := HR.out.chg.alloc (.cells #[.string x.name, .slice x.p x.bytes.length x.cap, .int .i64 x.sure] 106)
      obtain ⟨d0, d1, d2, dfz⟩ := hraw.cells
      have hnm := named_any x.name (wr.alloc (.cells #[.string x.name, .slice x.p x.bytes.length x.cap, .int .i64 x.sure] 106)) hxo.1
      have HNM := Lib.hid hnm
      have HTK := Lib.hid htk
      have HXO := Lib.hid hxo
      have HX := Lib.hid hx
      have HRB := Lib.hid hrb
      have HCH := Lib.hid hch
      have HRAW := Lib.hid hraw
      clear hxf htk hnm hxo hx hrb hch e2 dfz
      by_cases hok : okName x.name = true
      · have hnm := HNM.out
        rw [hok] at hnm
        have HNM2 := Lib.hid hnm
        have hlk : ∀ v, (match (L.map Raw.en).find? (·.key == x.name) with | some e => e.val | none => Value.pointer none) = v → ∀ k, (Instr.lookup 54 (.map (some m)) (.string x.name) false).run Tryd.prog ((wr.alloc (.cells #[.string x.name, .slice x.p x.bytes.length x.cap, .int .i64 x.sure] 106)).drewN k) = .ok v ((wr.alloc (.cells #[.string x.name, .slice x.p x.bytes.length x.cap, .int .i64 x.sure] 106)).drewN k) := fun v hv k => by
          have := run_lookup_str (P := Tryd.prog) ((wr.alloc (.cells #[.string x.name, .slice x.p x.bytes.length x.cap, .int .i64 x.sure] 106)).drewN k) Tryd.underlying54 Tryd.underlying9 (m := m) (clock := clock) (L := L.map Raw.en) HRAW.out.map (z := .pointer none) (by kernel_rfl) x.name
          exact this.trans (congrArg (fun y => Result.ok y _) hv)
        clear hnm hraw HNM
        rcases hg : Dm.get fs x.name with _ | f
        · have hl := hlk (.pointer none) (by rw [find_en_none (HRAW.out.get_none hg)])
          have HG := Lib.hid hg
          clear hlk hg
          go_wp2_with (first | (go_at_call 53; refine HNM2.out.mono ?_; rintro e w' ⟨rfl, nd, rfl⟩))
          refine Rx.wp_region_sched (fun _ => True) [(0, .r), (1, .r), (2, .r), (3, .r), (4, .r), (5, .r), (6, .r), (7, .r), (8, .r)] (by kernel_rfl) (by kernel_rfl) trivial (fun _ _ x _ _ h => (by cases x <;> exact h)) ?_
          iterate 9 (refine Rx.wpSched_q rfl rfl ?_; go_wp2; refine ⟨rfl, ?_⟩)
          refine Rx.wpSched_nil ?_
          clear hl
          by_cases hs1 : x.sure < 0
          · have he : ldErr fs x.fi = 12 := by unfold ldErr; rw [if_pos (show okName x.fi.name = true from hok), show Dm.get fs x.fi.name = none from HG.out]; exact if_pos (.inl hs1)
            have HA := Lib.hid (ldAll_err HN.out (HTK.out.2 (by rw [he]; simp)) (by rw [he]; simp))
            rw [he] at HA
            clear he
            go_wp2
            go_ret2
            rw [HA.out]
            exact .inl ⟨by simp, rfl, (HCH.out.drewN _).drew⟩
          · by_cases hs2 : (x.bytes.length : Int) < x.sure
            · have he : ldErr fs x.fi = 12 := by unfold ldErr; rw [if_pos (show okName x.fi.name = true from hok), show Dm.get fs x.fi.name = none from HG.out]; exact if_pos (.inr hs2)
              have HA := Lib.hid (ldAll_err HN.out (HTK.out.2 (by rw [he]; simp)) (by rw [he]; simp))
              rw [he] at HA
              clear he
              go_wp2
              go_ret2
              rw [HA.out]
              exact .inl ⟨by simp, rfl, (HCH.out.drewN _).drew⟩
            · have he : ldErr fs x.fi = 0 := by unfold ldErr; rw [if_pos (show okName x.fi.name = true from hok), show Dm.get fs x.fi.name = none from HG.out]; exact if_neg (fun h => h.elim hs1 hs2)
              have HA := Lib.hid (HTK.out.1 he)
              clear he
              have hxl : x.bytes.length ≤ 1099511627776 := HXO.out.2.1
              have hcl := fun U (hU : Chg (fun _ => False) (wr.alloc (.cells #[.string x.name, .slice x.p x.bytes.length x.cap, .int .i64 x.sure] 106)) U) => clone_any (w := U) (l := x.bytes) (by omega) (RC.chg (RC.chg HRB.out ((Chg.refl (fun _ => False) wr).alloc (.cells #[.string x.name, .slice x.p x.bytes.length x.cap, .int .i64 x.sure] 106)) fun _ _ h => h) hU fun _ _ h => h)
              have HCL := Lib.hid hcl
              have hat := halloc_at wr (.cells #[.string x.name, .slice x.p x.bytes.length x.cap, .int .i64 x.sure] 106)
              have hdw : d < wr.heap.size := HR.out.raw.lt d (by simp)
              have hmw : m < wr.heap.size := HR.out.raw.lt m (by simp)
              have HD := Lib.hid (And.intro hdw hmw)
              have HAT := Lib.hid hat
              clear hcl hat hxl hdw hmw
              go_wp2
              refine Rx.wp_region_sched (fun w' => w'.cell? ⟨d, 2, none⟩ = some (.map (some m)) ∧ w'.cell? ⟨wr.heap.size, 0, none⟩ = some (.string x.name) ∧ w'.cell? ⟨wr.heap.size, 2, none⟩ = some (.int .i64 x.sure)) [(6, .r), (7, .r), (0, .h), (1, .h), (2, .h), (4, .h), (9, .h), (3, .h), (5, .h), (10, .h), (8, .e), (11, .r), (12, .e), (13, .e)] (by kernel_rfl) (by kernel_rfl) (⟨d2, q0, q2⟩) (fun _ _ x _ _ h => (by cases x <;> exact h)) ?_
              iterate 2 (refine Rx.wpSched_q rfl rfl ?_; go_wp2; refine ⟨rfl, ?_⟩)
              iterate 8 (refine Rx.wpSched_h (v := ?_) rfl rfl ?_ ?_; rotate_left; (intro w' hS'; go_simp; try with_reducible rfl))
              refine Rx.wpSched_e rfl ?_
              go_wp2_with (first | (go_at_call 47; refine stop ?_))
              refine go ?_
              refine (HCL.out _ (by first | exact (((Chg.refl (fun _ => False) _).drewN _).drew).drew | exact ((Chg.refl (fun _ => False) _).drewN _).drew | exact (Chg.refl (fun _ => False) _).drewN _)).mono ?_
              rintro e w2 ⟨v2, rfl, o2, c2, n2⟩
              obtain ⟨p2, l2, cc2, rfl⟩ : ∃ p l c, v2 = .slice p l c := (by obtain ⟨p3, cc3, e, -⟩ := id o2; exact ⟨_, _, _, e⟩)
              obtain rfl : l2 = x.bytes.length := OB_len o2
              have c2 : Chg (fun _ => False) (wr.alloc (.cells #[.string x.name, .slice x.p x.bytes.length x.cap, .int .i64 x.sure] 106)) w2 := (by first | exact ((((Chg.refl (fun _ => False) _).drewN _).drew).drew).trans c2 (fun k hk => hk.elim) | exact (((Chg.refl (fun _ => False) _).drewN _).drew).trans c2 (fun k hk => hk.elim) | exact ((Chg.refl (fun _ => False) _).drewN _).trans c2 (fun k hk => hk.elim))
              have C2 := Lib.hid c2
              have O2 := Lib.hid o2
              have N2 := Lib.hid n2
              have R2 := Lib.hid (HRAW.out.keep (w' := w2) fun k hk => c2.block k (HRAW.out.lt k hk) (fun h => h))
              have T2 := Lib.hid ((c2.block _ (hlt_of HAT.out) (fun h => h)).trans HAT.out)
              have R3 := Lib.hid (R2.out.keep (w' := w2.alloc (.cells #[.slice p2 x.bytes.length cc2, .int .i64 x.sure] 85)) fun k hk => halloc_lt (R2.out.lt k hk))
              have T3 := Lib.hid ((halloc_lt (o := (.cells #[.slice p2 x.bytes.length cc2, .int .i64 x.sure] 85)) (hlt_of T2.out)).trans T2.out)
              have K2 := Lib.hid (And.intro R2.out.cells.2.2.1 (And.intro ((hcell_of T2.out 0).trans rfl) ((hcell_of T2.out 2).trans rfl)))
              have K3 := Lib.hid (And.intro R3.out.cells.2.2.1 (And.intro ((hcell_of T3.out 0).trans rfl) ((hcell_of T3.out 2).trans rfl)))
              clear c2 o2 n2
              go_wp2
              refine ⟨(by exact K2.out), ?_⟩
              (refine Rx.wpSched_q rfl rfl ?_; go_wp2; refine ⟨rfl, ?_⟩)
              refine Rx.wpSched_e rfl ?_
              go_wp2
              refine ⟨(by exact K3.out), ?_⟩
              refine Rx.wpSched_e rfl ?_
              refine wpList_store_map rfl _ _ _ _ rfl Tryd.underlying54 Tryd.underlying9 rfl rfl R3.out.map (fun e he => (by obtain ⟨y, hy, rfl⟩ := List.mem_map.1 he; exact R3.out.get_none HG.out y hy)) ?_
              intro w4 hc hm hsz
              have c4 : Chg (· = m) (w2.alloc (.cells #[.slice p2 x.bytes.length cc2, .int .i64 x.sure] 85)) w4 := (by first | exact hc | exact ((Chg.refl (· = m) _).drew).trans hc (fun k hk => .inl hk) | exact ((Chg.refl (· = m) _).drewN _).trans hc (fun k hk => .inl hk))
              have D4 := Lib.hid ((c4.block d (R3.out.lt d (by simp)) R3.out.ne_dm).trans R3.out.head)
              have T4 := Lib.hid ((c4.block _ (hlt_of T3.out) (fun e => by have := HD.out.2; omega)).trans T3.out)
              have hs2 := C2.out.size
              have F4 := Lib.hid ((c4.block w2.heap.size (by simp) (fun e => by have := HD.out.2; simp at hs2; omega)).trans (halloc_at w2 (.cells #[.slice p2 x.bytes.length cc2, .int .i64 x.sure] 85)))
              have C4 := Lib.hid c4
              have M4 := Lib.hid hm
              have K4 := Lib.hid (And.intro ((hcell_of D4.out 2).trans rfl) (And.intro ((hcell_of T4.out 0).trans rfl) ((hcell_of T4.out 2).trans rfl)))
              clear hc hm hsz c4 hs2
              go_wp2
              refine ⟨(by exact K4.out), ?_⟩
              refine Rx.wpSched_nil ?_
              clear d0 d1 d2 q0 q1 q2
              have d1 := (hcell_of D4.out 1).trans rfl
              have q1 := (hcell_of T4.out 1).trans rfl
              have df := hfree_of D4.out 1
              have htb : (total fs : Int) ≤ 1099511627776 := by have h1 := HR.out.tot; have h2 := HLEN.out; omega
              have hxl : (x.bytes.length : Int) ≤ 1099511627776 := by have := HXO.out.2.1; omega
              simp only [List.getElem?_toArray, List.getElem?_cons_zero, List.getElem?_cons_succ] at d1 q1
              go_wp2
              refine Rx.wp_region_sched (fun _ => True) [(0, .r), (1, .r), (2, .r), (3, .r), (4, .r), (5, .r), (6, .r), (7, .r), (8, .r), (9, .r), (10, .e)] (by kernel_rfl) (by kernel_rfl) trivial (fun _ _ x _ _ h => (by cases x <;> exact h)) ?_
              iterate 10 (refine Rx.wpSched_q rfl rfl ?_; go_wp2; refine ⟨rfl, ?_⟩)
              refine Rx.wpSched_e rfl ?_
              go_wp2
              refine ⟨trivial, ?_⟩
              refine Rx.wpSched_nil ?_
              have hs2 := C2.out.size
              have hsu : ((x.sure.toNat : Nat) : Int) = x.sure := Int.toNat_of_nonneg (by omega)
              have hblk : ∀ k, sblk (.slice p2 x.bytes.length cc2) = some k → (wr.alloc (.cells #[.string x.name, .slice x.p x.bytes.length x.cap, .int .i64 x.sure] 106)).heap.size ≤ k ∧ k < w2.heap.size := fun k hk => ⟨by have := N2.out k hk; simp at this ⊢; omega, OC.lt O2.out hk⟩
              have hpush : ∀ U, U.heap[d]? = some (.cells #[.int .i64 (n : Int), .int .i64 (total (fs ++ [x.fi.fl]) : Int), .map (some m), .bool false, .int .i64 0, .int .i64 0] 56 (0, 0)) → Chg (· = d) w4 U → ∃ L' k', LdRel w U n l d m (j + 1) (fs ++ [x.fi.fl]) L' k' := fun U hU cU => by
                have hall : Chg (fun k => k = m ∨ k = d) (wr.alloc (.cells #[.string x.name, .slice x.p x.bytes.length x.cap, .int .i64 x.sure] 106)) U := (((C2.out.mono fun k hk => .inl hk.elim).alloc _).trans C4.out fun k hk => .inl (.inl hk)).trans cU fun k hk => .inl (.inr hk)
                have hdl := HD.out
                have hmU : U.heap[m]? = w4.heap[m]? := cU.block m (hlt_of M4.out) (fun e => R3.out.ne_dm e.symm)
                have hfU : U.heap[w2.heap.size]? = _ := (cU.block _ (hlt_of F4.out) (fun e => by simp at hs2; omega)).trans F4.out
                obtain ⟨g1, g2⟩ := HRAW.out.push (w' := U) (r' := ⟨x.name, w2.heap.size, .slice p2 x.bytes.length cc2, x.bytes, x.sure.toNat, clock⟩) HG.out rfl hall hU
                  (by rw [hmU, M4.out]; simp [Raw.en]; rfl)
                  ⟨by rw [hfU]; simp only [hsu], OC.keep O2.out fun k hk => by
                    obtain ⟨k1, k2⟩ := hblk k hk
                    simp at k1
                    rw [cU.block k (by have := C4.out.size; simp at this; omega) (by omega), C4.out.block k (by simp; omega) (by omega)]
                    exact halloc_lt k2⟩
                  (fun k hk => by
                    simp only [Raw.blks, List.mem_cons] at hk
                    rcases hk with rfl | hk
                    · exact hs2
                    · exact (hblk k (by simpa using hk)).1)
                  (by
                    simp only [Raw.blks, List.nodup_cons]
                    refine ⟨fun hk => ?_, by cases sblk (.slice p2 x.bytes.length cc2) <;> simp⟩
                    have := (hblk w2.heap.size (by simpa using hk)).2
                    omega)
                refine ⟨_, _, { raw := g1, go := HA.out, low := fun k hk => ?_, chg := ?_, tot := ?_, sure := ?_ }⟩
                · rcases g2 k hk with h | h
                  · exact HR.out.low k h
                  · have := HCH.out.size; omega
                · refine (HCH.out.trans hall fun k hk => ?_)
                  rcases hk with rfl | rfl
                  · exact .inr (HR.out.low _ (by simp))
                  · exact .inr (HR.out.low _ (by simp))
                · exact ldGo_tot HA.out H.out.sum
                · intro f hf
                  rcases List.mem_append.1 hf with hf | hf
                  · exact HR.out.sure f hf
                  · obtain rfl : f = x.fi.fl := by simpa using hf
                    show x.sure.toNat ≤ x.bytes.length
                    omega
              have HP := Lib.hid hpush
              have HS := Lib.hid (hset_same D4.out 1 (.int .i64 ((total fs : Int) + x.bytes.length)))
              clear hpush hblk hsu hs2
              have e3 : (total (fs ++ [x.fi.fl]) : Int) = (total fs : Int) + x.bytes.length := by
                rw [total_append, show total [x.fi.fl] = x.bytes.length by simp [total, FI.fl, LI.fi]]; simp
              rw [← e3] at HS
              have HE3 := Lib.hid e3
              clear e3
              go_wp2
              go_roundw
              case rel =>
                obtain ⟨L', k', hP⟩ := HP.out ((w4.setCell ⟨d, 1, none⟩ (.int .i64 (total (fs ++ [x.fi.fl]) : Int))).drew) (HS.out.trans rfl) (((Chg.refl (· = d) w4).setCell (p := ⟨d, 1, none⟩) (.inl rfl) _).drew)
                rw [HE3.out] at hP
                exact ⟨j + 1, _, L', k', by go_num, by omega, hP⟩
              case measure => simp [Lib.intOf]; omega
        · obtain ⟨r, hr, hrn, hrf⟩ := HRAW.out.get_some hg
          have hl := hlk (.pointer (some ⟨r.f, 0, none⟩)) (by rw [← hrn, find_en HRAW.out.names' hr]; rfl)
          have he : ldErr fs x.fi = 61 := by unfold ldErr; rw [if_pos (show okName x.fi.name = true from hok), show Dm.get fs x.fi.name = some f from hg]
          have HA := Lib.hid (ldAll_err HN.out (HTK.out.2 (by rw [he]; simp)) (by rw [he]; simp))
          rw [he] at HA
          clear hlk hg hr hrn hrf he
          go_wp2_with (first | (go_at_call 53; refine HNM2.out.mono ?_; rintro e w' ⟨rfl, nd, rfl⟩))
          refine Rx.wp_region_sched (fun _ => True) [(0, .r), (1, .r), (2, .r), (3, .r), (4, .r), (5, .r), (6, .r), (7, .r), (8, .r)] (by kernel_rfl) (by kernel_rfl) trivial (fun _ _ x _ _ h => (by cases x <;> exact h)) ?_
          iterate 9 (refine Rx.wpSched_q rfl rfl ?_; go_wp2; refine ⟨rfl, ?_⟩)
          refine Rx.wpSched_nil ?_
          go_wp2
          go_ret2
          rw [HA.out]
          exact .inl ⟨by simp, rfl, (HCH.out.drewN _).drew⟩
      · have hok : okName x.name = false := by simpa using hok
        have he : ldErr fs x.fi = 113 := by unfold ldErr; rw [if_neg (by show ¬ okName x.name = true; rw [hok]; simp)]
        have HA := Lib.hid (ldAll_err HN.out (HTK.out.2 (by rw [he]; simp)) (by rw [he]; simp))
        rw [he] at HA
        have hnm := HNM.out
        rw [hok] at hnm
        have HNM2 := Lib.hid hnm
        clear hnm hraw
        go_wp2_with (first | (go_at_call 53; refine HNM2.out.mono ?_; rintro e w' ⟨rfl, nd, rfl⟩))
        go_ret2
        rw [HA.out]
        exact .inl ⟨by simp, rfl, HCH.out.drewN _⟩
    · have hje : (l.map LI.fi).take j = l.map LI.fi := List.take_of_length_le (by rw [List.length_map]; omega)
      have hgo := HR.out.go
      rw [hje] at hgo
      have hraw := HR.out.raw
      obtain ⟨d0, d1, d2, dfz⟩ := hraw.cells
      have htb : (total fs : Int) ≤ 1099511627776 := by have h1 := HR.out.tot; have h2 := HLEN.out; omega
      have HGO := Lib.hid hgo
      have HRAW := Lib.hid hraw
      clear hgo hje hraw dfz
      by_cases hful : (n : Int) < (total fs : Int)
      · have HA := Lib.hid (ldAll_full HN.out HGO.out (by omega))
        go_wp2
        go_ret2
        rw [HA.out]
        exact .inl ⟨by simp, rfl, HR.out.chg⟩
      · have HA := Lib.hid (ldAll_ok HN.out HGO.out (by omega))
        have hok : (⟨n, sortL fs, false, 0, 0⟩ : Dk).Ok := by
          have hs := HRAW.out.names
          exact { sorted := sortL_sorted hs, sure := fun f hf => HR.out.sure f ((sortL_perm fs).subset hf), used := by show total (sortL fs) ≤ n; rw [sortL_total]; omega, limit := HN.out, steps := by show 0 ≤ _; omega, keepLo := by show _ ≤ (0 : Int); omega, keepHi := by show (0 : Int) ≤ _; omega, armed := fun h => absurd rfl h }
        have HOK := Lib.hid hok
        clear hok
        go_wp2
        go_ret2
        rw [HA.out]
        refine .inr ⟨rfl, d, rfl, d :: m :: blks L, ⟨m, L, clock, HRAW.out.rep rfl HOK.out, rfl⟩, ⟨HR.out.chg.mono fun k hk => .inl hk.elim, fun k hk => .inr (HR.out.low k hk)⟩⟩

theorem load_bad (lim : Int) {v : Value} (hl : lim < 0 ∨ 1099511627776 < lim) :
    Calls Tryd.prog 39 #[.int .i64 lim, v] w fun e w' => e = .returned (.tuple #[.pointer none, .int .i64 12]) ∧ w = w' := by
  have hb := new_bad (w := w) lim hl
  have HB := Lib.hid hb
  clear hb hl
  go_enter Tryd.func39, Tryd.ntmps39
  go_wp2_with (first | (go_at_call 6; refine HB.out.mono ?_; rintro e w' ⟨rfl, rfl⟩))
  go_ret2
  exact ⟨rfl, rfl⟩
end
end Go.Proofs
