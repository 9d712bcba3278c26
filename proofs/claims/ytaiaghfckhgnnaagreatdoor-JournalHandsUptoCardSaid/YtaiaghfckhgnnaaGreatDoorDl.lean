/- What a crash does to package disk's value in memory, file by file: the state between two rounds of the loop, and one round. Conditions: each law's own. -/
import Derived.Test.YtaiaghfckhgnnaaGreatDoorDr
namespace Go.Dr
open Go Go.RowKit Go.Hp Go.Dm
set_option linter.unusedVariables false

/-- a block's object with one cell stored -/
def objSet (i : Nat) (v : Value) : Obj → Obj
  | .cells c e fz => .cells (c.setIfInBounds i v) e fz
  | o => o
theorem hset (w : World) (b i k : Nat) (v : Value) : (w.setCell ⟨b, i, none⟩ v).heap[k]? = if k = b then (w.heap[k]?).map (objSet i v) else w.heap[k]? := by
  by_cases h : k = b
  · subst h
    simp only [World.setCell, Array.getElem?_modify, if_true]
    cases w.heap[k]? with
    | none => rfl
    | some o => cases o <;> rfl
  · rw [if_neg h]; exact hset_other h
theorem hput (w : World) (m k : Nat) (o : Obj) (hm : m < w.heap.size) : (putObj w m o).heap[k]? = if k = m then some o else w.heap[k]? := by
  by_cases h : k = m
  · subst h; rw [if_pos rfl]; exact putObj_same w hm
  · rw [if_neg h]; exact putObj_other w h
theorem halloc (w : World) (k : Nat) (o : Obj) : (w.alloc o).heap[k]? = if k = w.heap.size then some o else w.heap[k]? := by
  by_cases h : k = w.heap.size
  · subst h; rw [if_pos rfl]; exact halloc_at w o
  · rw [if_neg h]
    show (w.heap.push o)[k]? = w.heap[k]?
    rw [Array.getElem?_push, if_neg h]
theorem hdrew (w : World) (n k : Nat) : (w.drewN n).heap[k]? = w.heap[k]? := rfl

/-- a slice cut to n -/
def reslice (v : Value) (n : Nat) : Value := match v with | .slice p _ c => .slice p n c | v => v
theorem sblk_reslice (v : Value) (n : Nat) : sblk (reslice v n) = sblk v := by
  cases v <;> try rfl
  rename_i p l c
  cases p <;> cases c <;> rfl
theorem OB_reslice {w : World} {E : TypeId} {v : Value} {l : List UInt8} (h : OB w E v l) (n : Nat) (hn : n ≤ l.length) : OB w E (reslice v n) (l.take n) := by
  obtain ⟨p, c, rfl, h1, h2, h3, h4⟩ := h
  have hl : (l.take n).length = n := by simp; omega
  refine ⟨p, c, by simp only [reslice, hl], by omega, h2, by simp, fun hc => ?_⟩
  obtain ⟨b, arr, hp, hh, hs, ht⟩ := h4 hc
  refine ⟨b, arr, hp, hh, hs, ?_⟩
  rw [hl, List.map_take, ← ht, List.take_take]
  congr 1; omega

theorem OB_set {w : World} {E : TypeId} {bb c n : Nat} {l : List UInt8} (h : OB w E (.slice (some ⟨bb, 0, none⟩) l.length c) l) (hn : n < l.length) (x : UInt8) :
    OB (w.setCell ⟨bb, n, none⟩ (u8 x)) E (.slice (some ⟨bb, 0, none⟩) l.length c) (l.set n x) := by
  obtain ⟨p, c', he, h1, h2, h3, h4⟩ := h
  cases he
  obtain ⟨b, arr, hp, hh, hs, ht⟩ := h4 (by omega)
  cases hp
  refine ⟨_, c, by simp, by simpa using h1, h2, by simp, fun hc => ⟨bb, arr.setIfInBounds n (u8 x), rfl, hset_same hh n (u8 x), by simpa using hs, ?_⟩⟩
  have e : (arr.setIfInBounds n (u8 x)).toList = arr.toList.set n (u8 x) := by simp
  rw [e, List.length_set, List.take_set, ht, List.map_set]
theorem modify_eq_set {l : List UInt8} {n : Nat} (hn : n < l.length) (f : UInt8 → UInt8) : l.modify n f = l.set n (f l[n]) := by
  apply List.ext_getElem?
  intro i
  rw [List.getElem?_modify, List.getElem?_set]
  by_cases h : n = i
  · subst h; simp [hn]
  · simp [h]

def kept (k : Nat) (r : Raw) : Nat := min r.bytes.length (r.sure + k)
def lost (k : Nat) (r : Raw) : Raw := { r with sv := reslice r.sv (kept k r), bytes := r.bytes.take (kept k r), sure := kept k r }
theorem lost_blks (k : Nat) (r : Raw) : (lost k r).blks = r.blks := by simp [lost, Raw.blks, sblk_reslice]
theorem lost_en (k : Nat) (r : Raw) : (lost k r).en = r.en := rfl

/-- what stands in the map, the entries of stamps in 'seen' done -/
def cur (k : Nat) (seen : Array Nat) (L : List Raw) : List Raw := L.filter fun r => !(seen.contains r.born && kept k r == 0)
def used (k : Nat) (seen : Array Nat) (L : List Raw) : Nat := ((L.filter fun r => seen.contains r.born).map (kept k)).sum

structure LInv (w : World) (d m it k : Nat) (D : Dk) (L : List Raw) (clock : Nat) (seen : Array Nat) : Prop where
  head : w.heap[d]? = some (.cells #[.int .i64 (D.limit : Int), .int .i64 (used k seen L : Int), .map (some m), .bool D.down, .int .i64 (D.steps : Int), .int .i64 D.keep] 114 (0, 0))
  map : w.heap[m]? = some (.map (ents ((cur k seen L).map Raw.en)) clock)
  iter : w.heap[it]? = some (.mapIter (some m) clock seen clock)
  todo : ∀ r ∈ L, seen.contains r.born = false → RawOk w r
  done : ∀ r ∈ L, seen.contains r.born = true → RawOk w (lost k r)

def unseen (w : World) (it : Nat) (L : List Raw) : Nat :=
  match w.heap[it]? with
  | some (.mapIter _ _ seen _) => (L.filter fun r => !seen.contains r.born).length
  | _ => 0

theorem filter_lt {α : Type} {p q : α → Bool} {x : α} : ∀ {l : List α}, (∀ y ∈ l, q y = true → p y = true) → x ∈ l → p x = true → q x = false → (l.filter q).length < (l.filter p).length
  | [], _, hx, _, _ => by cases hx
  | y :: l, h, hx, hp, hq => by
    have hle : ∀ l : List α, (∀ y ∈ l, q y = true → p y = true) → (l.filter q).length ≤ (l.filter p).length := by
      intro l
      induction l with
      | nil => intro _; simp
      | cons z l ih =>
        intro h
        have := ih fun y hy => h y (by simp [hy])
        rw [List.filter_cons, List.filter_cons]
        cases hz : q z with
        | true => rw [h z (by simp) hz]; simpa using this
        | false =>
          simp only [Bool.false_eq_true, if_false]
          split
          · simp only [List.length_cons]; omega
          · exact this
    rw [List.filter_cons, List.filter_cons]
    rcases List.mem_cons.1 hx with rfl | hx
    · rw [hp, hq]
      have := hle l fun y hy => h y (by simp [hy])
      simp; omega
    · have := filter_lt (fun y hy => h y (by simp [hy])) hx hp hq
      cases hy : q y with
      | true => rw [h y (by simp) hy]; simpa using this
      | false =>
        simp only [Bool.false_eq_true, if_false]
        split
        · simp only [List.length_cons]; omega
        · exact this

theorem inj_of_nodup {α β : Type} (f : α → β) : ∀ {l : List α}, (l.map f).Nodup → ∀ {x y : α}, x ∈ l → y ∈ l → f x = f y → x = y
  | [], _, _, _, hx, _, _ => by cases hx
  | z :: l, hn, x, y, hx, hy, e => by
    simp only [List.map_cons, List.nodup_cons] at hn
    rcases List.mem_cons.1 hx with hx' | hx' <;> rcases List.mem_cons.1 hy with hy' | hy'
    · rw [hx', hy']
    · rw [hx'] at e; exact absurd (e ▸ List.mem_map_of_mem hy') hn.1
    · rw [hy'] at e; exact absurd (e ▸ List.mem_map_of_mem hx') hn.1
    · exact inj_of_nodup f hn.2 hx' hy' e

section
variable {w w' : World} {d m it k : Nat} {D : Dk} {L : List Raw} {clock : Nat} {seen : Array Nat} {r : Raw}

theorem LInv.cells (h : LInv w d m it k D L clock seen) :
    w.cell? ⟨d, 1, none⟩ = some (.int .i64 (used k seen L : Int)) ∧ w.cell? ⟨d, 2, none⟩ = some (.map (some m)) ∧ (∀ i, w.frozen? ⟨d, i, none⟩ = false) ∧
    w.cell? ⟨d, 3, none⟩ = some (.bool D.down) ∧ w.cell? ⟨d, 4, none⟩ = some (.int .i64 (D.steps : Int)) :=
  ⟨by rw [hcell_of h.head]; rfl, by rw [hcell_of h.head]; rfl, fun i => hfree_of h.head i, by rw [hcell_of h.head]; rfl, by rw [hcell_of h.head]; rfl⟩

theorem contains_push (seen : Array Nat) (b x : Nat) : (seen.push b).contains x = (seen.contains x || x == b) := by
  rw [Array.contains_push]

/-- one entry done: its file cut, gone or kept, counted -/
theorem LInv.step (h : LInv w d m it k D L clock seen) (hst : (L.map (·.born)).Nodup) (hnd : (d :: m :: blks L).Nodup) (hit : ∀ x ∈ d :: m :: blks L, x ≠ it)
    (hr : r ∈ L) (hun : seen.contains r.born = false) (hlt : ∀ x ∈ d :: m :: blks L, x < w.heap.size)
    (hw : Chg (fun x => x = d ∨ x = m ∨ x = it ∨ x = r.f) w w')
    (hh : w'.heap[d]? = some (.cells #[.int .i64 (D.limit : Int), .int .i64 ((used k seen L + kept k r : Nat) : Int), .map (some m), .bool D.down, .int .i64 (D.steps : Int), .int .i64 D.keep] 114 (0, 0)))
    (hm : w'.heap[m]? = some (.map (if kept k r = 0 then ents (((cur k seen L).map Raw.en).filter (·.key != r.name)) else ents ((cur k seen L).map Raw.en)) clock))
    (hi : w'.heap[it]? = some (.mapIter (some m) clock (seen.push r.born) clock))
    (hf : w'.heap[r.f]? = some (.cells #[(lost k r).sv, .int .i64 (kept k r : Int)] 117 (0, 0)))
    (hnames : (L.map (·.name)).Nodup) (hsure : r.sure ≤ r.bytes.length) :
    LInv w' d m it k D L clock (seen.push r.born) ∧ unseen w' it L < unseen w it L := by
  have hrok := h.todo r hr hun
  have hborn : ∀ x ∈ L, x.born = r.born → x = r := fun x hx e => inj_of_nodup (·.born) hst hx hr e
  have hname : ∀ x ∈ L, x.name = r.name → x = r := fun x hx e => inj_of_nodup (·.name) hnames hx hr e
  have hcont : ∀ x ∈ L, x ≠ r → (seen.push r.born).contains x.born = seen.contains x.born := fun x hx hne => by
    rw [contains_push]
    have : (x.born == r.born) = false := by simpa using fun e : x.born = r.born => hne (hborn x hx e)
    rw [this, Bool.or_false]
  have hcr : (seen.push r.born).contains r.born = true := by rw [contains_push]; simp
  simp only [List.nodup_cons, List.mem_cons, not_or] at hnd
  obtain ⟨⟨hdm, hdL⟩, hmL, hL⟩ := hnd
  -- another file's blocks are as they were
  have hblk : ∀ x ∈ L, x ≠ r → ∀ b ∈ x.blks, w'.heap[b]? = w.heap[b]? := fun x hx hne b hb => by
    have hbL : b ∈ blks L := List.mem_flatMap.2 ⟨x, hx, hb⟩
    refine hw.block b (hlt b (by simp [hbL])) ?_
    rintro (rfl | rfl | rfl | rfl)
    · exact hdL hbL
    · exact hmL hbL
    · exact hit _ (by simp [hbL]) rfl
    · have key : ∀ l : List Raw, (blks l).Nodup → x ∈ l → r ∈ l → r.f ∈ x.blks → x = r := by
        intro l
        induction l with
        | nil => intro _ hx; cases hx
        | cons y l ih =>
          intro hnd hx hr hb
          rw [blks_cons, List.nodup_append] at hnd
          obtain ⟨_, h2, h3⟩ := hnd
          rcases List.mem_cons.1 hx with hx' | hx' <;> rcases List.mem_cons.1 hr with hr' | hr'
          · rw [hx', hr']
          · rw [← hx'] at h3; exact absurd rfl (h3 r.f hb r.f (List.mem_flatMap.2 ⟨r, hr', by simp [Raw.blks]⟩))
          · rw [← hr'] at h3; exact absurd rfl (h3 r.f (by simp [Raw.blks]) r.f (List.mem_flatMap.2 ⟨x, hx', hb⟩))
          · exact ih h2 hx' hr' hb
      exact hne (key L hL hx hr hb)
  have hown : ∀ b, sblk r.sv = some b → w'.heap[b]? = w.heap[b]? := fun b hb => by
    have hbL : b ∈ blks L := List.mem_flatMap.2 ⟨r, hr, by simp [Raw.blks, hb]⟩
    refine hw.block b (hlt b (by simp [hbL])) ?_
    rintro (rfl | rfl | rfl | rfl)
    · exact hdL hbL
    · exact hmL hbL
    · exact hit _ (by simp [hbL]) rfl
    · have key : ∀ l : List Raw, (blks l).Nodup → r ∈ l → False := by
        intro l
        induction l with
        | nil => intro _ hr; cases hr
        | cons y l ih =>
          intro hnd hr
          rw [blks_cons, List.nodup_append] at hnd
          rcases List.mem_cons.1 hr with rfl | hr
          · have := hnd.1; simp [Raw.blks, hb] at this
          · exact ih hnd.2.1 hr
      exact key L hL hr
  have hrok' : RawOk w' (lost k r) := by
    refine ⟨hf, ?_⟩
    have hob : OB w' 5 r.sv r.bytes := OC.keep hrok.own hown
    exact OB_reslice hob (kept k r) (by unfold kept; omega)
  refine ⟨{ head := ?_, map := ?_, iter := hi, todo := fun x hx hxu => ?_, done := fun x hx hxs => ?_ }, ?_⟩
  · rw [hh]
    have : used k (seen.push r.born) L = used k seen L + kept k r := by
      clear hh hm hi hf hw hit hdL hmL hL hlt hrok hblk hown hrok' hname hnames h
      unfold used
      induction L with
      | nil => cases hr
      | cons y L ih =>
        simp only [List.map_cons, List.nodup_cons] at hst
        rcases List.mem_cons.1 hr with rfl | hr'
        · have hrest : (L.filter fun x => (seen.push r.born).contains x.born) = L.filter fun x => seen.contains x.born :=
            List.filter_congr fun x hx => hcont x (by simp [hx]) fun e => hst.1 (e ▸ List.mem_map_of_mem hx)
          rw [List.filter_cons, List.filter_cons, hcr, hun, hrest]
          simp; omega
        · have hne : y ≠ r := fun e => hst.1 (e ▸ List.mem_map_of_mem hr')
          have ih' := ih hst.2 hr' (fun x hx => hborn x (by simp [hx])) (fun x hx => hcont x (by simp [hx]))
          rw [List.filter_cons, List.filter_cons, hcont y (by simp) hne]
          split
          · simp only [List.map_cons, List.sum_cons, ih']; omega
          · exact ih'
    rw [this]
  · rw [hm]
    have e : cur k (seen.push r.born) L = if kept k r = 0 then (cur k seen L).filter (·.name != r.name) else cur k seen L := by
      unfold cur
      by_cases hz : kept k r = 0
      · rw [if_pos hz, List.filter_filter]
        refine List.filter_congr fun x hx => ?_
        by_cases hxr : x = r
        · subst hxr; rw [hcr]; simp [hz]
        · rw [hcont x hx hxr]
          have : (x.name != r.name) = true := by simpa using fun e => hxr (hname x hx e)
          rw [this, Bool.true_and]
      · rw [if_neg hz]
        refine List.filter_congr fun x hx => ?_
        by_cases hxr : x = r
        · subst hxr; rw [hcr, hun]; simp [hz]
        · rw [hcont x hx hxr]
    rw [e]
    split
    · rw [List.filter_map]; rfl
    · rfl
  · by_cases hxr : x = r
    · subst hxr; rw [hcr] at hxu; cases hxu
    · rw [hcont x hx hxr] at hxu
      exact (h.todo x hx hxu).keep (hblk x hx hxr)
  · by_cases hxr : x = r
    · subst hxr; exact hrok'
    · rw [hcont x hx hxr] at hxs
      exact (h.done x hx hxs).keep fun b hb => hblk x hx hxr b (by rwa [lost_blks] at hb)
  · unfold unseen
    rw [hi, h.iter]
    refine filter_lt (x := r) (fun y hy hq => ?_) hr (by rw [hun]; rfl) (by rw [hcr]; rfl)
    by_cases hyr : y = r
    · subst hyr; rw [hcr] at hq; cases hq
    · rw [hcont y hy hyr] at hq; exact hq

theorem used_le (k : Nat) (seen : Array Nat) : ∀ L : List Raw, used k seen L ≤ (L.map fun r => r.bytes.length).sum
  | [] => Nat.le_refl _
  | x :: L => by
    have ih := used_le k seen L
    unfold used at *
    rw [List.filter_cons]
    have hx : kept k x ≤ x.bytes.length := by unfold kept; omega
    split
    · simp only [List.map_cons, List.sum_cons]; omega
    · simp only [List.map_cons, List.sum_cons]; omega
theorem used_add (k : Nat) (seen : Array Nat) {r : Raw} (hun : seen.contains r.born = false) : ∀ {L : List Raw}, r ∈ L → used k seen L + kept k r ≤ (L.map fun r => r.bytes.length).sum
  | x :: L, hr => by
    rcases List.mem_cons.1 hr with rfl | hr
    · have h := used_le k seen L
      unfold used at *
      rw [List.filter_cons, hun]
      have hx : kept k r ≤ r.bytes.length := by unfold kept; omega
      simp only [Bool.false_eq_true, if_false, List.map_cons, List.sum_cons]; omega
    · have ih := used_add k seen hun hr
      unfold used at *
      rw [List.filter_cons]
      have hx : kept k x ≤ x.bytes.length := by unfold kept; omega
      split
      · simp only [List.map_cons, List.sum_cons]; omega
      · simp only [List.map_cons, List.sum_cons]; omega
theorem DRaw.sum_le {w : World} {d m : Nat} {D : Dk} {L : List Raw} {clock : Nat} (h : DRaw w d m D L clock) : (L.map fun r => r.bytes.length).sum ≤ 1099511627776 := by
  have e : (L.map fun r => r.bytes.length).sum = D.used := by
    have := ((h.perm.map fun f => f.bytes.length)).sum_nat
    rw [List.map_map] at this
    exact this
  rw [e]; exact Nat.le_trans h.ok.used h.ok.limit

theorem left_mem {e : En} (he : e ∈ left ((cur k seen L).map Raw.en) seen) : ∃ r ∈ L, r.en = e ∧ seen.contains r.born = false := by
  obtain ⟨h1, h2⟩ := List.mem_filter.1 he
  obtain ⟨r, hr, rfl⟩ := List.mem_map.1 h1
  exact ⟨r, (List.mem_filter.1 hr).1, rfl, by simpa [Raw.en] using h2⟩
theorem left_none (h : left ((cur k seen L).map Raw.en) seen = []) : ∀ r ∈ L, seen.contains r.born = true := by
  intro r hr
  cases hs : seen.contains r.born with
  | true => rfl
  | false =>
    have : r.en ∈ left ((cur k seen L).map Raw.en) seen := by
      refine List.mem_filter.2 ⟨List.mem_map_of_mem (List.mem_filter.2 ⟨hr, by rw [hs]; rfl⟩), ?_⟩
      show (!seen.contains r.born) = true
      rw [hs]; rfl
    rw [h] at this; cases this
theorem mem_cur (hr : r ∈ L) (hs : seen.contains r.born = false) : r ∈ cur k seen L := List.mem_filter.2 ⟨hr, by rw [hs]; rfl⟩

theorem surv_lost (k : Nat) (r : Raw) : surv k r.fl = if kept k r = 0 then none else some (lost k r).fl := by
  unfold surv Raw.fl
  simp only [lost]
  have e : r.bytes.take (r.sure + k) = r.bytes.take (kept k r) := by
    unfold kept
    rw [List.take_eq_take_iff]; omega
  rw [e]
  have hlen : (r.bytes.take (kept k r)).length = kept k r := by unfold kept; simp
  by_cases hz : kept k r = 0
  · rw [if_pos hz, hz]; simp
  · have hne : r.bytes.take (kept k r) ≠ [] := fun h => by rw [h] at hlen; simp at hlen; exact hz hlen.symm
    rw [if_neg hne, if_neg hz, hlen]

/-- all entries done: the disk behind the crash -/
theorem LInv.finish (h : LInv w d m it k D L clock seen) (h0 : ∀ r ∈ L, seen.contains r.born = true) (hp : (L.map Raw.fl).Perm D.files) (hnd : (d :: m :: blks L).Nodup)
    (hst : (L.map (·.born)).Nodup) (hy : ∀ r ∈ L, r.born < clock) (hlt : ∀ x ∈ d :: m :: blks L, x < w.heap.size) (ok : D.Ok)
    (hw : Chg (· = d) w w')
    (hh : w'.heap[d]? = some (.cells #[.int .i64 (D.limit : Int), .int .i64 (used k seen L : Int), .map (some m), .bool true, .int .i64 0, .int .i64 D.keep] 114 (0, 0))) :
    ∃ L', DRaw w' d m (D.lose k) L' clock ∧ ∀ x ∈ d :: m :: blks L', x ∈ d :: m :: blks L := by
  have hfm : ∀ l : List Raw, (l.map Raw.fl).filterMap (surv k) = ((l.filter fun r => kept k r != 0).map (lost k)).map Raw.fl := by
    intro l
    induction l with
    | nil => rfl
    | cons r l ih =>
      rw [List.map_cons, List.filterMap_cons, surv_lost, List.filter_cons]
      by_cases hz : kept k r = 0
      · rw [if_pos hz]
        have : (kept k r != 0) = false := by simp [hz]
        rw [this]; simpa using ih
      · rw [if_neg hz]
        have : (kept k r != 0) = true := by simpa using hz
        rw [this]; simpa using ih
  have hb : ∀ l : List Raw, blks ((l.filter fun r => kept k r != 0).map (lost k)) = blks (l.filter fun r => kept k r != 0) := by
    intro l
    generalize l.filter (fun r => kept k r != 0) = l'
    induction l' with
    | nil => rfl
    | cons r l ih => rw [List.map_cons, blks_cons, blks_cons, lost_blks, ih]
  have hsl : ∀ l : List Raw, (blks (l.filter fun r => kept k r != 0)).Sublist (blks l) := by
    intro l
    induction l with
    | nil => exact List.Sublist.refl _
    | cons r l ih =>
      rw [List.filter_cons]
      split
      · rw [blks_cons, blks_cons]; exact ih.append_left _
      · rw [blks_cons]; exact ih.trans (List.sublist_append_right _ _)
  have hused : (D.lose k).used = used k seen L := by
    unfold Dk.used Dk.lose loseL total used
    have e1 : (L.filter fun r => seen.contains r.born) = L := List.filter_eq_self.2 fun r hr => h0 r hr
    rw [e1]
    have e2 : ((D.files.filterMap (surv k)).map fun f => f.bytes.length).sum = (((L.map Raw.fl).filterMap (surv k)).map fun f => f.bytes.length).sum :=
      ((hp.symm.filterMap (surv k)).map _).sum_nat
    rw [e2]
    clear e2 e1 hh hw hp hnd hlt hst hy h h0
    induction L with
    | nil => rfl
    | cons r L ih =>
      rw [List.map_cons, List.filterMap_cons, surv_lost]
      have hlen : (r.bytes.take (kept k r)).length = kept k r := by unfold kept; simp
      by_cases hz : kept k r = 0
      · rw [if_pos hz]; simp only [List.map_cons, List.sum_cons, hz, ih]; omega
      · rw [if_neg hz]
        simp only [List.map_cons, List.sum_cons, ih]
        simp only [lost, Raw.fl, hlen]
  have hle : (D.lose k).used ≤ D.used := total_lose k D.files
  refine ⟨(L.filter fun r => kept k r != 0).map (lost k), { head := ?_, map := ?_, raws := ?_, nodup := ?_, perm := ?_, stamps := ?_, young := ?_, ok := ?_ }, ?_⟩
  · rw [hh]
    simp only [headCells, hused]
    rfl
  · have hmd : m ≠ d := fun e => by subst e; simp at hnd
    rw [hw.block m (hlt m (by simp)) hmd, h.map]
    have e1 : cur k seen L = L.filter fun r => kept k r != 0 := List.filter_congr fun r hr => by rw [h0 r hr]; simp [bne]
    rw [e1, List.map_map]
    rfl
  · intro x hx
    obtain ⟨r, hr, rfl⟩ := List.mem_map.1 hx
    have hrL := (List.mem_filter.1 hr).1
    refine (h.done r hrL (h0 r hrL)).keep fun b hb' => ?_
    rw [lost_blks] at hb'
    have hbL : b ∈ blks L := List.mem_flatMap.2 ⟨r, hrL, hb'⟩
    refine hw.block b (hlt b (by simp [hbL])) fun e => ?_
    subst e; simp [hbL] at hnd
  · rw [hb]
    exact hnd.sublist (((hsl L).cons_cons m).cons_cons d)
  · rw [← hfm]
    exact hp.filterMap (surv k)
  · have : ((L.filter fun r => kept k r != 0).map (lost k)).map (·.born) = (L.filter fun r => kept k r != 0).map (·.born) := by simp [lost]
    rw [this]
    exact hst.sublist ((List.filter_sublist).map _)
  · intro x hx
    obtain ⟨r, hr, rfl⟩ := List.mem_map.1 hx
    exact hy r (List.mem_filter.1 hr).1
  · refine { sorted := lose_sorted ok.sorted, sure := ?_, used := Nat.le_trans hle ok.used, limit := ok.limit, steps := by show 0 ≤ _; omega, keepLo := ok.keepLo, keepHi := ok.keepHi, armed := fun hne => absurd rfl hne }
    intro f hf
    obtain ⟨g, hg, hs⟩ := List.mem_filterMap.1 hf
    exact (surv_len hs).2
  · intro x hx
    simp only [List.mem_cons] at hx ⊢
    refine hx.imp id (fun hx => hx.imp id fun hx => ?_)
    rw [hb] at hx
    exact (hsl L).subset hx
end
end Go.Dr
