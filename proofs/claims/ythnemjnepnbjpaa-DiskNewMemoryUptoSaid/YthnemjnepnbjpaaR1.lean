/- The document's disk (package redraftref11) as it lies, against the same plain disk: New, named, Down, Up, Arm, fires, Used. Conditions: the disk lies as RRep says. -/
import Derived.Test.YthnemjnepnbjpaaMy
namespace Go.Proofs
open Go.RowKit Go.Hp Go.Dm Go.Dr
set_option linter.unusedVariables false
set_option maxRecDepth 10000

/-- a file of the document's disk as it lies -/
structure RF where
  name : ByteArray
  p : Option Addr
  cap : Nat
  bytes : List UInt8
  sure : Nat
def RF.sv (x : RF) : Value := .slice x.p x.bytes.length x.cap
def RF.enc (x : RF) : List Value := [.string x.name, .bool true, x.sv, .int .i64 (x.sure : Int)]
def RF.fl (x : RF) : Fl := ⟨x.name, x.bytes, x.sure⟩
def RF.blk (x : RF) : List Nat := (sblk x.sv).toList
def lrblk (v : Value) (l : List RF) : List Nat := (sblk v).toList ++ l.flatMap RF.blk
def rhead (L : Int) (D : Dk) (K : Int) (v : Value) : Array Value := #[.int .i64 L, v, .bool D.down, .int .i64 (D.steps : Int), .int .i64 K]

structure RRaw (w : World) (r : Nat) (L : Int) (D : Dk) (K : Int) (v : Value) (l : List RF) : Prop where
  head : w.heap[r]? = some (.cells (rhead L D K v) 135 (0, 0))
  sl : RC w 4 v l.length (l.flatMap RF.enc)
  each : ∀ x ∈ l, RB w x.sv x.bytes
  off : r ∉ lrblk v l
  files : l.map RF.fl = D.files
  ok : D.Ok
  keep : K = D.keep
/-- the document's disk D lies at block r, its blocks are G -/
def RRep (w : World) (r : Nat) (D : Dk) (G : List Nat) : Prop := ∃ K v l, RRaw w r (D.limit : Int) D K v l ∧ G = r :: lrblk v l
/-- the same, while the files are being loaded: the limit in memory is L -/
def RRepL (w : World) (r : Nat) (L : Int) (D : Dk) (G : List Nat) : Prop := ∃ K v l, RRaw w r L D K v l ∧ G = r :: lrblk v l

section
variable {w w' : World} {r : Nat} {D D' : Dk} {K K' L : Int} {v : Value} {l : List RF} {G : List Nat}
theorem len_rf : ∀ x : RF, x.enc.length = 4 := fun _ => rfl
theorem mem_lrblk {k : Nat} (h : sblk v = some k) : k ∈ lrblk v l := by simp [lrblk, h]
theorem mem_lrblk2 {x : RF} (hx : x ∈ l) {k : Nat} (h : sblk x.sv = some k) : k ∈ lrblk v l := List.mem_append.2 (.inr (List.mem_flatMap.2 ⟨x, hx, by simp [RF.blk, h]⟩))
theorem RRaw.lt (h : RRaw w r L D K v l) : ∀ k ∈ r :: lrblk v l, k < w.heap.size := fun k hk => by
  rcases List.mem_cons.1 hk with rfl | hk
  · exact hlt_of h.head
  · rcases List.mem_append.1 hk with hk | hk
    · exact RC.lt h.sl (by simpa using hk)
    · obtain ⟨x, hx, hk⟩ := List.mem_flatMap.1 hk
      exact RC.lt (h.each x hx) (by simpa [RF.blk] using hk)
theorem RRaw.keepW (h : RRaw w r L D K v l) (hk : ∀ k ∈ r :: lrblk v l, w'.heap[k]? = w.heap[k]?) : RRaw w' r L D K v l :=
  { h with
    head := (hk _ (by simp)).trans h.head
    sl := RC.keep h.sl fun b hb => hk b (by simp [mem_lrblk hb])
    each := fun x hx => RC.keep (h.each x hx) fun b hb => hk b (List.mem_cons.2 (.inr (mem_lrblk2 hx hb))) }
theorem RRep.lt (h : RRep w r D G) : ∀ k ∈ G, k < w.heap.size := by obtain ⟨K, v, l, h, rfl⟩ := h; exact h.lt
theorem RRep.keep (h : RRep w r D G) (hk : ∀ k ∈ G, w'.heap[k]? = w.heap[k]?) : RRep w' r D G := by
  obtain ⟨K, v, l, h, rfl⟩ := h; exact ⟨K, v, l, h.keepW hk, rfl⟩
theorem RRep.chg {F : Nat → Prop} (h : RRep w r D G) (hc : Chg F w w') (hF : ∀ k ∈ G, ¬ F k) : RRep w' r D G := h.keep fun k hk => hc.block k (h.lt k hk) (hF k hk)
theorem RRep.off (h : RRep w r D G) : r ∉ G.tail := by obtain ⟨K, v, l, h, rfl⟩ := h; exact h.off
theorem RRep.ok (h : RRep w r D G) : D.Ok := by obtain ⟨K, v, l, h, rfl⟩ := h; exact h.ok
theorem RRaw.cells (h : RRaw w r L D K v l) :
    w.cell? ⟨r, 0, none⟩ = some (.int .i64 L) ∧ w.cell? ⟨r, 1, none⟩ = some v ∧ w.cell? ⟨r, 2, none⟩ = some (.bool D.down) ∧ w.cell? ⟨r, 3, none⟩ = some (.int .i64 (D.steps : Int)) ∧
    w.cell? ⟨r, 4, none⟩ = some (.int .i64 K) ∧ (∀ i, w.frozen? ⟨r, i, none⟩ = false) :=
  ⟨by rw [hcell_of h.head]; rfl, by rw [hcell_of h.head]; rfl, by rw [hcell_of h.head]; rfl, by rw [hcell_of h.head]; rfl, by rw [hcell_of h.head]; rfl, fun i => hfree_of h.head i⟩
/-- the head alone is written, the list stays -/
theorem RRaw.setHead (h : RRaw w r L D K v l) (hw : Chg (· = r) w w') (hh : w'.heap[r]? = some (.cells (rhead (D'.limit : Int) D' K' v) 135 (0, 0))) (hf : D'.files = D.files) (ok : D'.Ok) (hk : K' = D'.keep) :
    RRep w' r D' (r :: lrblk v l) ∧ Ev (r :: lrblk v l) (r :: lrblk v l) w w' := by
  have hn : ∀ k ∈ lrblk v l, k ≠ r := fun k hk e => h.off (e ▸ hk)
  refine ⟨⟨K', v, l, { head := hh, sl := RC.chg h.sl hw fun b hb => hn b (mem_lrblk hb), each := fun x hx => RC.chg (h.each x hx) hw fun b hb => hn b (mem_lrblk2 hx hb), off := h.off, files := h.files.trans hf.symm, ok := ok, keep := hk }, rfl⟩, ?_, fun k hk => .inl hk⟩
  exact hw.mono fun k hk => .inl (by subst hk; simp)
theorem RRaw.setHeadRaw (h : RRaw w r L D K v l) (hw : Chg (· = r) w w') (hh : w'.heap[r]? = some (.cells (rhead L D' K' v) 135 (0, 0))) (hf : D'.files = D.files) (ok : D'.Ok) (hk : K' = D'.keep) : RRaw w' r L D' K' v l :=
  have hn : ∀ k ∈ lrblk v l, k ≠ r := fun k hk e => h.off (e ▸ hk)
  { head := hh, sl := RC.chg h.sl hw fun b hb => hn b (mem_lrblk hb), each := fun x hx => RC.chg (h.each x hx) hw fun b hb => hn b (mem_lrblk2 hx hb), off := h.off, files := h.files.trans hf.symm, ok := ok, keep := hk }
/-- a new list is hung into the head -/
theorem RRaw.setList {v' : Value} {l' : List RF} (h : RRaw w r L D K v l) (hw : Chg (· = r) w w') (hh : w'.heap[r]? = some (.cells (rhead L D' K v') 135 (0, 0)))
    (hs : RC w 4 v' l'.length (l'.flatMap RF.enc)) (he : ∀ x ∈ l', RB w x.sv x.bytes) (ho : r ∉ lrblk v' l') (hf : l'.map RF.fl = D'.files) (ok : D'.Ok) (hk : K = D'.keep) : RRepL w' r L D' (r :: lrblk v' l') := by
  have hn : ∀ k ∈ lrblk v' l', k ≠ r := fun k hk e => ho (e ▸ hk)
  exact ⟨K, v', l', { head := hh, sl := RC.chg hs hw fun b hb => hn b (mem_lrblk hb), each := fun x hx => RC.chg (he x hx) hw fun b hb => hn b (mem_lrblk2 hx hb), off := ho, files := hf, ok := ok, keep := hk }, rfl⟩
/-- one file of the list, as it lies -/
theorem RRaw.file {p : Option Addr} {n c : Nat} (h : RC w 4 (.slice p n c) l.length (l.flatMap RF.enc)) {k : Nat} (hk : k < l.length) :
    ∃ b off x, p = some ⟨b, off, none⟩ ∧ n = l.length ∧ l.length ≤ c ∧ l[k]? = some x ∧
      w.cell? ⟨b, off + k * 4, none⟩ = some (.string x.name) ∧ w.cell? ⟨b, off + k * 4 + 1, none⟩ = some (.bool true) ∧ w.cell? ⟨b, off + k * 4 + 2, none⟩ = some x.sv ∧ w.cell? ⟨b, off + k * 4 + 3, none⟩ = some (.int .i64 (x.sure : Int)) := by
  obtain ⟨p', c', he, hnc, -, hblk⟩ := h
  obtain ⟨rfl, rfl, rfl⟩ : p = p' ∧ n = l.length ∧ c = c' := by simpa only [Value.slice.injEq] using he
  obtain ⟨b, off, arr, t, fz, rfl, hh, hx⟩ := hblk (by omega)
  obtain ⟨x, hxk⟩ : ∃ x, l[k]? = some x := ⟨_, List.getElem?_eq_getElem hk⟩
  have hcell : ∀ q u, x.enc[q]? = some u → w.cell? ⟨b, off + k * 4 + q, none⟩ = some u := fun q u hu => by
    rw [hcell_of hh, Nat.add_assoc]
    exact hx (k * 4 + q) u (flat_at (f := RF.enc) (k := 4) len_rf hxk hu)
  exact ⟨b, off, x, rfl, rfl, hnc, hxk, hcell 0 _ rfl, hcell 1 _ rfl, hcell 2 _ rfl, hcell 3 _ rfl⟩
def Ent.rdisk (r : Nat) (D : Dk) (G : List Nat) : Ent := ⟨G, fun w => RRep w r D G⟩
theorem good_rdisk (r : Nat) (D : Dk) (G : List Nat) : (Ent.rdisk r D G).Good := ⟨fun h hk => RRep.keep h hk, fun h => RRep.lt h⟩

/-! ### named -/
theorem rnamed_no (s : ByteArray) (w : World) (hs : s.size ≤ maxLen) (h : s.size < 1 ∨ 32 < s.size) :
    Calls Try.prog 88 #[.string s] w fun e w' => e = .returned (.bool false) ∧ w = w' := by
  unfold maxLen at hs
  rcases h with h | h
  · go_enter Try.func88, Try.ntmps88
    go_wp2
    go_ret
    exact ⟨rfl, rfl⟩
  · have h' : ¬ (s.size : Int) < 1 := by omega
    go_enter Try.func88, Try.ntmps88
    go_wp2
    go_ret
    exact ⟨rfl, rfl⟩

set_option maxHeartbeats 2000000 in
theorem rnamed_mid (s : ByteArray) (w : World) (hs1 : 1 ≤ s.size) (hs2 : s.size ≤ 32) (res : Bool) (HB : Hid (s.data.toList.all isNameByte = res)) :
    Calls Try.prog 88 #[.string s] w fun e w' => e = .returned (.bool res) ∧ w = w' := by
  go_enter Try.func88, Try.ntmps88
  go_wp2
  go_loopw [3] (fun i wr => w = wr ∧ ∃ k : Nat, k ≤ s.size ∧ i = .int .i64 k ∧ (s.data.toList.take k).all isNameByte = true) (fun i _ => s.size - (Lib.intOf i).toNat)
  case atStart => exact ⟨rfl, 0, Nat.zero_le _, rfl, rfl⟩
  case round =>
    obtain ⟨hw, k, hk, rfl, hall⟩ := hrel
    subst hw
    by_cases hlt : k < s.size
    · have hb := nb_of s[k]
      have hc0 : 0 ≤ (s[k].toNat : Int) := by omega
      have hc1 : (s[k].toNat : Int) ≤ 255 := by have := s[k].toNat_lt; omega
      have hA := Lib.hid hall
      clear hall
      have hstep : isNameByte s[k] = true → (s.data.toList.take (k + 1)).all isNameByte = true := fun h => by
        have e : s.data.toList.take (k + 1) = s.data.toList.take k ++ [s[k]] := by
          rw [List.take_succ_eq_append_getElem (by simpa using hlt)]; rfl
        rw [e, List.all_append, hA.out]; simpa using h
      have hS := Lib.hid hstep
      clear hstep
      by_cases hy : isNameByte s[k] = true
      · have hY' := Lib.hid (hS.out hy)
        rw [hy] at hb
        unfold nb at hb
        by_cases h1 : 97 ≤ (s[k].toNat : Int) ∧ (s[k].toNat : Int) ≤ 122
        · obtain ⟨h1a, h1b⟩ := h1
          clear hb hy
          go_wp2
          all_goals
            go_roundw
            case rel => exact ⟨trivial, k + 1, by omega, by go_num, hY'.out⟩
            case measure => simp [Lib.intOf]; omega
        by_cases h2 : 48 ≤ (s[k].toNat : Int) ∧ (s[k].toNat : Int) ≤ 57
        · obtain ⟨h2a, h2b⟩ := h2
          clear hb hy h1
          go_wp2
          all_goals
            go_roundw
            case rel => exact ⟨trivial, k + 1, by omega, by go_num, hY'.out⟩
            case measure => simp [Lib.intOf]; omega
        have h3 : (s[k].toNat : Int) = 46 ∨ (s[k].toNat : Int) = 95 ∨ (s[k].toNat : Int) = 45 := by
          simp at hb
          omega
        clear hb hy h1 h2
        rcases h3 with h3 | h3 | h3
        · have g1 : ((s[k].toNat : Int) != 46) = false := by simp; omega
          have g2 : (s[k].toNat : Int) < 97 := by omega
          have g3 : (s[k].toNat : Int) < 48 := by omega
          clear h3
          go_wp2
          all_goals
            go_roundw
            case rel => exact ⟨trivial, k + 1, by omega, by go_num, hY'.out⟩
            case measure => simp [Lib.intOf]; omega
        · have g1 : ((s[k].toNat : Int) != 46) = true := by simp; omega
          have g4 : ((s[k].toNat : Int) != 95) = false := by simp; omega
          have g2 : (s[k].toNat : Int) < 97 := by omega
          have g3 : 57 < (s[k].toNat : Int) := by omega
          clear h3
          go_wp2
          all_goals
            go_roundw
            case rel => exact ⟨trivial, k + 1, by omega, by go_num, hY'.out⟩
            case measure => simp [Lib.intOf]; omega
        · have g1 : ((s[k].toNat : Int) != 46) = true := by simp; omega
          have g4 : ((s[k].toNat : Int) != 95) = true := by simp; omega
          have g5 : ((s[k].toNat : Int) != 45) = false := by simp; omega
          have g2 : (s[k].toNat : Int) < 97 := by omega
          have g3 : (s[k].toNat : Int) < 48 := by omega
          clear h3
          go_wp2
          all_goals
            go_roundw
            case rel => exact ⟨trivial, k + 1, by omega, by go_num, hY'.out⟩
            case measure => simp [Lib.intOf]; omega
      · have hy : isNameByte s[k] = false := by simpa using hy
        have hN : s.data.toList.all isNameByte = false := by
          rw [Bool.eq_false_iff]; intro h
          rw [List.all_eq_true] at h
          have := h s[k] (by rw [Array.mem_toList_iff]; exact Array.getElem_mem _)
          rw [hy] at this; cases this
        obtain rfl : false = res := hN.symm.trans HB.out
        rw [hy] at hb
        unfold nb at hb
        simp at hb
        have h1' : (s[k].toNat : Int) < 97 ∨ 122 < (s[k].toNat : Int) := by omega
        have h2' : (s[k].toNat : Int) < 48 ∨ 57 < (s[k].toNat : Int) := by omega
        have g1 : ((s[k].toNat : Int) != 46) = true := by simp; omega
        have g4 : ((s[k].toNat : Int) != 95) = true := by simp; omega
        have g5 : ((s[k].toNat : Int) != 45) = true := by simp; omega
        clear hb hy hN
        rcases h1' with h1' | h1'
        · rcases h2' with h2' | h2'
          · skip
            go_wp2
            go_ret
            exact ⟨rfl, rfl⟩
          · have h3' : 48 ≤ (s[k].toNat : Int) := by omega
            have h5' : ¬ (s[k].toNat : Int) ≤ 57 := by omega
            have h5n : ¬ s[k].toNat ≤ 57 := by omega
            go_wp2
            go_ret
            exact ⟨rfl, rfl⟩
        · have h2'' : 57 < (s[k].toNat : Int) := by omega
          have h3' : 48 ≤ (s[k].toNat : Int) := by omega
          have h4' : 97 ≤ (s[k].toNat : Int) := by omega
          have h5' : ¬ (s[k].toNat : Int) ≤ 57 := by omega
          have h5n : ¬ s[k].toNat ≤ 57 := by omega
          have h6' : ¬ (s[k].toNat : Int) ≤ 122 := by omega
          have h6n : ¬ s[k].toNat ≤ 122 := by omega
          clear h2'
          go_wp2
          go_ret
          exact ⟨rfl, rfl⟩
    · have hk' : k = s.size := by omega
      have hN : s.data.toList.all isNameByte = true := by rw [hk', List.take_of_length_le (by simp)] at hall; exact hall
      obtain rfl : true = res := hN.symm.trans HB.out
      clear hall hN hk'
      go_wp2
      go_ret
      exact ⟨rfl, rfl⟩
theorem rnamed_any (s : ByteArray) (w : World) (hs : s.size ≤ maxLen) :
    Calls Try.prog 88 #[.string s] w fun e w' => e = .returned (.bool (okName s)) ∧ w = w' := by
  by_cases h : s.size < 1 ∨ 32 < s.size
  · have e : okName s = false := by unfold okName; simp; omega
    rw [e]
    exact rnamed_no s w hs h
  · have e : okName s = s.data.toList.all isNameByte := by
      unfold okName
      rw [decide_eq_true (by omega), decide_eq_true (by omega)]; rfl
    rw [e]
    exact rnamed_mid s w (by omega) (by omega) _ (Lib.hid rfl)

/-! ### the head's calls -/
theorem rnew_bad (n : Int) (h : n < 0 ∨ 1099511627776 < n) : Calls Try.prog 62 #[.int .i64 n] w fun e w' => e = .returned (.tuple #[.pointer none, .int .i64 12]) ∧ w = w' := by
  rcases h with h | h
  · go_enter Try.func62, Try.ntmps62
    go_wp2
    go_ret2
    exact ⟨rfl, rfl⟩
  · have h' : ¬ n < 0 := by omega
    go_enter Try.func62, Try.ntmps62
    go_wp2
    go_ret2
    exact ⟨rfl, rfl⟩

theorem rnew_rep (n : Nat) (h : n ≤ 1099511627776) :
    RRep (w.alloc (.cells #[.int .i64 (n : Int), .slice none 0 0, .bool false, .int .i64 0, .int .i64 0] 135)) w.heap.size ⟨n, [], false, 0, 0⟩ [w.heap.size] ∧
    Ev [] [w.heap.size] w (w.alloc (.cells #[.int .i64 (n : Int), .slice none 0 0, .bool false, .int .i64 0, .int .i64 0] 135)) := by
  refine ⟨⟨0, .slice none 0 0, [], { head := halloc_at w _, sl := OC.rc (OC_nil _ 4 130), each := fun x hx => (by cases hx), off := by simp [lrblk], files := rfl, ok := ?_, keep := rfl }, by simp [lrblk]⟩, (Chg.refl _ w).alloc _, fun k hk => .inr ?_⟩
  · exact { sorted := List.Pairwise.nil, sure := fun f hf => (by cases hf), used := Nat.zero_le _, limit := h, steps := by show 0 ≤ _; omega, keepLo := by show _ ≤ (0 : Int); omega, keepHi := by show (0 : Int) ≤ _; omega, armed := fun h => absurd rfl h }
  · simp at hk; omega

theorem rnew_ok (n : Nat) (h : n ≤ 1099511627776) : Calls Try.prog 62 #[.int .i64 (n : Int)] w fun e w' =>
    e = .returned (.tuple #[.pointer (some ⟨w.heap.size, 0, none⟩), .int .i64 0]) ∧ RRep w' w.heap.size ⟨n, [], false, 0, 0⟩ [w.heap.size] ∧ Ev [] [w.heap.size] w w' := by
  have h0 : ¬ (n : Int) < 0 := by omega
  have h1 : ¬ (1099511627776 : Int) < n := by omega
  have HN := Lib.hid h
  clear h
  go_enter Try.func62, Try.ntmps62
  go_wp2
  go_ret2
  exact ⟨rfl, rnew_rep n HN.out⟩

theorem rdown_any (h : RRep w r D G) : Calls Try.prog 71 #[.pointer (some ⟨r, 0, none⟩)] w fun e w' => e = .returned (.bool D.down) ∧ w = w' := by
  obtain ⟨K, v, l, h, rfl⟩ := h
  obtain ⟨c0, c1, c2, c3, c4, fz⟩ := h.cells
  clear c0 c1 c3 c4 fz h
  go_enter Try.func71, Try.ntmps71
  go_wp2
  go_ret
  exact ⟨rfl, rfl⟩

theorem rup_any (h : RRep w r D G) : Calls Try.prog 74 #[.pointer (some ⟨r, 0, none⟩)] w fun e w' => e = .returned (.int .i64 0) ∧ RRep w' r D.up G ∧ Ev G G w w' := by
  obtain ⟨K, v, l, h, rfl⟩ := h
  obtain ⟨c0, c1, c2, c3, c4, fz⟩ := h.cells
  have H := Lib.hid h
  clear c0 c1 c4 h
  go_enter Try.func74, Try.ntmps74
  go_wp2
  go_ret
  refine ⟨rfl, H.out.setHead (K' := K) (((Chg.refl (· = r) w).setCell (p := ⟨r, 2, none⟩) (.inl rfl) _).setCell (p := ⟨r, 3, none⟩) (.inl rfl) _) ?_ rfl ?_ H.out.keep⟩
  · simp only [hset, if_true]; rw [H.out.head]; simp [objSet, rhead, Dk.up]
  · exact { H.out.ok with steps := Nat.zero_le _, armed := fun h => absurd rfl h }

/-- fires: one changing call more -/
theorem rfires_raw (h : RRaw w r L D K v l) : Calls Try.prog 93 #[.pointer (some ⟨r, 0, none⟩)] w fun e w' => e = .returned (.bool D.fires) ∧ RRaw w' r L D.tick K v l ∧ Chg (· = r) w w' := by
  obtain ⟨c0, c1, c2, c3, c4, fz⟩ := h.cells
  have H := Lib.hid h
  clear c0 c1 c2 c4
  by_cases hs : D.steps = 0
  · have e1 : D.tick = D := by unfold Dk.tick; rw [hs]; cases D; simp at hs; subst hs; rfl
    have e2 : D.fires = false := by unfold Dk.fires; rw [hs]; rfl
    rw [e1, e2]
    rw [hs] at c3
    clear h e1 e2 hs
    go_enter Try.func93, Try.ntmps93
    go_wp2
    go_ret
    exact ⟨rfl, H.out, Chg.refl _ _⟩
  · obtain ⟨m, hm⟩ : ∃ m, D.steps = m + 1 := ⟨D.steps - 1, by omega⟩
    have hml := h.ok.steps
    have g0 : (((m : Int) + 1) == 0) = false := by simp; omega
    have hmi : (m : Int) + 1 ≤ 9223372036854775807 := by omega
    have e2 : D.fires = decide (m = 0) := by unfold Dk.fires; rw [hm]; cases m <;> simp
    rw [e2]
    rw [hm, show (((m + 1 : Nat) : Int)) = (m : Int) + 1 from rfl] at c3
    have HM := Lib.hid hm
    clear h hs hm e2 hml
    go_enter Try.func93, Try.ntmps93
    go_wp2
    go_ret
    refine ⟨?_, H.out.setHeadRaw (K' := K) ((Chg.refl (· = r) w).setCell (p := ⟨r, 3, none⟩) (.inl rfl) _) ?_ rfl H.out.ok.tick H.out.keep, (Chg.refl (· = r) w).setCell (p := ⟨r, 3, none⟩) (.inl rfl) _⟩
    · exact congrArg (fun b => Ending.returned (.bool b)) (show ((m : Int) == 0) = decide (m = 0) by rw [Bool.eq_iff_iff]; simp)
    · simp only [hset, if_true]; rw [H.out.head]; simp [objSet, rhead, Dk.tick, HM.out]
theorem rfires_any (h : RRep w r D G) : Calls Try.prog 93 #[.pointer (some ⟨r, 0, none⟩)] w fun e w' => e = .returned (.bool D.fires) ∧ RRep w' r D.tick G ∧ Ev G G w w' := by
  obtain ⟨K, v, l, h, rfl⟩ := h
  exact (rfires_raw h).mono fun e w' ⟨h1, h2, h3⟩ => ⟨h1, ⟨K, v, l, h2, rfl⟩, h3.mono fun k hk => .inl (by subst hk; simp), fun k hk => .inl hk⟩
end
end Go.Proofs
