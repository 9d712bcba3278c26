/- Pieces of memory that lie apart: disks, answers, lists of answers, boxes; what a call leaves of them. Conditions: each law's own. -/
import Derived.Test.YthnemjnepnbjpaaLa
namespace Go.Proofs
open Go.RowKit Go.Hp Go.Dm Go.Dr
set_option linter.unusedVariables false

/-- a piece of memory: its blocks, and what is said of it -/
structure Ent where
  F : List Nat
  P : World → Prop

/-- what is said of it stays while its blocks stay; its blocks are there -/
structure Ent.Good (x : Ent) : Prop where
  stay : ∀ {w w' : World}, x.P w → (∀ k ∈ x.F, w'.heap[k]? = w.heap[k]?) → x.P w'
  lt : ∀ {w : World}, x.P w → ∀ k ∈ x.F, k < w.heap.size

/-- pieces that lie apart, all new since W; nothing that was there in W has changed -/
structure Many (W w : World) (L : List Ent) : Prop where
  holds : ∀ x ∈ L, x.P w
  good : ∀ x ∈ L, x.Good
  new : ∀ x ∈ L, ∀ k ∈ x.F, W.heap.size ≤ k
  apart : L.Pairwise fun x y => ∀ k ∈ x.F, k ∉ y.F
  chg : Chg (fun _ => False) W w

section
variable {W w w' : World} {L L' : List Ent} {x y z : Ent}
theorem Many.nil (W : World) : Many W W [] := ⟨by simp, by simp, by simp, List.Pairwise.nil, Chg.refl _ _⟩
theorem Many.get (h : Many W w L) (hx : x ∈ L) : x.P w := h.holds x hx
theorem Many.first (h : Many W w (x :: L)) : x.P w := h.holds x (by simp)
theorem Many.tail (h : Many W w (x :: L)) : Many W w L :=
  ⟨fun y hy => h.holds y (by simp [hy]), fun y hy => h.good y (by simp [hy]), fun y hy => h.new y (by simp [hy]), (List.pairwise_cons.1 h.apart).2, h.chg⟩
theorem Many.lt (h : Many W w L) (hx : x ∈ L) : ∀ k ∈ x.F, k < w.heap.size := (h.good x hx).lt (h.holds x hx)
theorem Many.quiet (h : Many W w L) (hc : Chg (fun _ => False) w w') : Many W w' L :=
  ⟨fun x hx => (h.good x hx).stay (h.holds x hx) fun k hk => hc.block k (h.lt hx k hk) (fun h => h), h.good, h.new, h.apart, h.chg.trans hc fun _ h => h.elim⟩
theorem Many.alloc (h : Many W w L) (o : Obj) : Many W (w.alloc o) L := h.quiet ((Chg.refl _ w).alloc o)
theorem Many.drewN (h : Many W w L) (n : Nat) : Many W (w.drewN n) L := h.quiet ((Chg.refl _ w).drewN n)
theorem Many.perm (h : Many W w L) (hp : L.Perm L') : Many W w L' :=
  ⟨fun x hx => h.holds x (hp.symm.subset hx), fun x hx => h.good x (hp.symm.subset hx), fun x hx => h.new x (hp.symm.subset hx),
    (hp.pairwise_iff (fun {a b} hab k hk hk' => hab k hk' hk)).1 h.apart, h.chg⟩
/-- a new piece -/
theorem Many.add (h : Many W w L) (hc : Chg (fun _ => False) w w') (hy : y.P w') (gy : y.Good) (hn : ∀ k ∈ y.F, w.heap.size ≤ k) : Many W w' (y :: L) := by
  have h' := h.quiet hc
  refine ⟨fun x hx => ?_, fun x hx => ?_, fun x hx k hk => ?_, List.pairwise_cons.2 ⟨fun x hx k hk hkx => ?_, h'.apart⟩, h'.chg⟩
  · rcases List.mem_cons.1 hx with rfl | hx
    · exact hy
    · exact h'.holds x hx
  · rcases List.mem_cons.1 hx with rfl | hx
    · exact gy
    · exact h'.good x hx
  · rcases List.mem_cons.1 hx with rfl | hx
    · exact Nat.le_trans h.chg.size (hn k hk)
    · exact h'.new x hx k hk
  · have := hn k hk
    have := h.lt hx k hkx
    omega
/-- the first piece becomes another one -/
theorem Many.turn (h : Many W w (x :: L)) (hy : y.P w') (gy : y.Good) (he : Ev x.F y.F w w') : Many W w' (y :: L) := by
  have hap := List.pairwise_cons.1 h.apart
  have hst : ∀ u ∈ L, u.P w' := fun u hu => (h.good u (by simp [hu])).stay (h.holds u (by simp [hu])) fun k hk => he.block (h.lt (by simp [hu]) k hk) fun hF => hap.1 u hu k hF hk
  refine ⟨fun u hu => ?_, fun u hu => ?_, fun u hu k hk => ?_, List.pairwise_cons.2 ⟨fun u hu k hk hku => ?_, hap.2⟩, ?_⟩
  · rcases List.mem_cons.1 hu with rfl | hu
    · exact hy
    · exact hst u hu
  · rcases List.mem_cons.1 hu with rfl | hu
    · exact gy
    · exact h.good u (by simp [hu])
  · rcases List.mem_cons.1 hu with rfl | hu
    · exact (he.new k hk).elim (h.new x (by simp) k) (fun hs => Nat.le_trans h.chg.size hs)
    · exact h.new u (by simp [hu]) k hk
  · exact (he.new k hk).elim (fun hF => hap.1 u hu k hF hku) (fun hs => by have := h.lt (x := u) (by simp [hu]) k hku; omega)
  · exact h.chg.trans he.chg fun k hk => .inr (h.new x (by simp) k hk)
/-- the first piece becomes another one, and a new one comes -/
theorem Many.turnAdd (h : Many W w (x :: L)) (hy : y.P w') (gy : y.Good) (he : Ev x.F y.F w w') (hz : z.P w') (gz : z.Good) (hn : ∀ k ∈ z.F, w.heap.size ≤ k ∧ k ∉ y.F) : Many W w' (y :: z :: L) := by
  have h' := h.turn hy gy he
  have hap := List.pairwise_cons.1 h'.apart
  refine ⟨fun u hu => ?_, fun u hu => ?_, fun u hu k hk => ?_, List.pairwise_cons.2 ⟨fun u hu k hk hku => ?_, List.pairwise_cons.2 ⟨fun u hu k hk hku => ?_, hap.2⟩⟩, h'.chg⟩
  · rcases List.mem_cons.1 hu with rfl | hu
    · exact hy
    · rcases List.mem_cons.1 hu with rfl | hu
      · exact hz
      · exact h'.holds u (by simp [hu])
  · rcases List.mem_cons.1 hu with rfl | hu
    · exact gy
    · rcases List.mem_cons.1 hu with rfl | hu
      · exact gz
      · exact h'.good u (by simp [hu])
  · rcases List.mem_cons.1 hu with rfl | hu
    · exact h'.new u (by simp) k hk
    · rcases List.mem_cons.1 hu with rfl | hu
      · exact Nat.le_trans h.chg.size (hn k hk).1
      · exact h'.new u (by simp [hu]) k hk
  · rcases List.mem_cons.1 hu with rfl | hu
    · exact (hn k hku).2 hk
    · exact hap.1 u hu k hk hku
  · have := (hn k hk).1
    have := h.lt (x := u) (by simp [hu]) k hku
    omega
/-- two pieces taken as one -/
theorem Many.join (h : Many W w (x :: y :: L)) (hz : z.P w) (gz : z.Good) (hF : ∀ k ∈ z.F, k ∈ x.F ∨ k ∈ y.F) : Many W w (z :: L) := by
  have h1 := List.pairwise_cons.1 h.apart
  have h2 := List.pairwise_cons.1 h1.2
  refine ⟨fun u hu => ?_, fun u hu => ?_, fun u hu k hk => ?_, List.pairwise_cons.2 ⟨fun u hu k hk hku => ?_, h2.2⟩, h.chg⟩
  · rcases List.mem_cons.1 hu with rfl | hu
    · exact hz
    · exact h.holds u (by simp [hu])
  · rcases List.mem_cons.1 hu with rfl | hu
    · exact gz
    · exact h.good u (by simp [hu])
  · rcases List.mem_cons.1 hu with rfl | hu
    · exact (hF k hk).elim (h.new x (by simp) k) (h.new y (by simp) k)
    · exact h.new u (by simp [hu]) k hk
  · exact (hF k hk).elim (fun hx => h1.1 u (by simp [hu]) k hx hku) (fun hy => h2.1 u hu k hy hku)
end

section
variable {W w : World} {L : List Ent} {x y z u : Ent}
theorem Many.swap12 (h : Many W w (x :: y :: L)) : Many W w (y :: x :: L) := h.perm (List.Perm.swap _ _ _)
theorem Many.front3 (h : Many W w (x :: y :: z :: L)) : Many W w (z :: x :: y :: L) := h.perm ((List.Perm.cons x (List.Perm.swap _ _ _)).trans (List.Perm.swap _ _ _))
theorem Many.back3 (h : Many W w (x :: y :: z :: L)) : Many W w (y :: z :: x :: L) := h.front3.front3
theorem Many.front4 (h : Many W w (x :: y :: z :: u :: L)) : Many W w (u :: x :: y :: z :: L) :=
  h.perm ((List.Perm.cons x ((List.Perm.cons y (List.Perm.swap _ _ _)).trans (List.Perm.swap _ _ _))).trans (List.Perm.swap _ _ _))
theorem Many.drop2 (h : Many W w (x :: y :: L)) : Many W w (x :: L) := h.swap12.tail
end

/-! ### kinds of pieces -/
def Ent.disk (d : Nat) (D : Dk) (F : List Nat) : Ent := ⟨F, fun w => DRep w d D F⟩
theorem good_disk (d : Nat) (D : Dk) (F : List Nat) : (Ent.disk d D F).Good := ⟨fun h hk => DRep.keep h hk, fun h => DRep.lt h⟩
def Ent.box (b : Nat) (o : Obj) : Ent := ⟨[b], fun w => w.heap[b]? = some o⟩
theorem good_box (b : Nat) (o : Obj) : (Ent.box b o).Good := ⟨fun {w w'} h hk => (hk b (by simp [Ent.box])).trans h, fun {w} h k hk => by
  obtain rfl : k = b := by simpa [Ent.box] using hk
  exact hlt_of h⟩
theorem FilesAt.keep {w w' : World} {v : Value} {l : List LF} (h : FilesAt w v l) (hk : ∀ k ∈ lblks v l, w'.heap[k]? = w.heap[k]?) : FilesAt w' v l :=
  ⟨OC.keep h.sl fun b hb => hk b (mem_lblks hb), fun x hx => OC.keep (h.each x hx) fun b hb => hk b (List.mem_append.2 (.inr (List.mem_flatMap.2 ⟨x, hx, by simp [LF.blk, hb]⟩))), h.nodup⟩
def Ent.files (v : Value) (l : List LF) : Ent := ⟨lblks v l, fun w => FilesAt w v l⟩
theorem good_files (v : Value) (l : List LF) : (Ent.files v l).Good := ⟨fun h hk => h.keep hk, fun h => h.lt⟩

/-- an answer as it lies -/
structure AV where
  a : Ans
  bv : Value
  fv : Value
  l : List LF
def AV.val (x : AV) : Value := ansV (x.a.e : Int) (x.a.n : Int) (x.a.m : Int) x.bv x.fv x.a.down
def AV.enc (x : AV) : List Value := [.int .i64 (x.a.e : Int), .int .i64 (x.a.n : Int), .int .i64 (x.a.m : Int), x.bv, x.fv, .bool x.a.down]
def AV.blk (x : AV) : List Nat := (sblk x.bv).toList ++ lblks x.fv x.l
structure AV.At (w : World) (x : AV) : Prop where
  b : OB w 5 x.bv x.a.b
  f : FilesAt w x.fv x.l
  m : x.l.map LF.fl = x.a.files
theorem AV.At.keep {w w' : World} {x : AV} (h : x.At w) (hk : ∀ k ∈ x.blk, w'.heap[k]? = w.heap[k]?) : x.At w' :=
  ⟨OC.keep h.b fun b hb => hk b (by simp [AV.blk, hb]), h.f.keep fun k hk' => hk k (List.mem_append.2 (.inr hk')), h.m⟩
theorem AV.At.lt {w : World} {x : AV} (h : x.At w) : ∀ k ∈ x.blk, k < w.heap.size := fun k hk => by
  rcases List.mem_append.1 hk with hk | hk
  · exact OC.lt h.b (by simpa using hk)
  · exact h.f.lt k hk
theorem AV.At.ans {w : World} {x : AV} (h : x.At w) : AnsIn w x.a x.val x.blk := ⟨x.bv, x.fv, x.l, rfl, h.b, h.f, h.m, rfl⟩
theorem AnsIn.av {w : World} {a : Ans} {v : Value} {A : List Nat} (h : AnsIn w a v A) : ∃ x : AV, x.a = a ∧ v = x.val ∧ A = x.blk ∧ x.At w := by
  obtain ⟨bv, fv, l, rfl, h1, h2, h3, rfl⟩ := h
  exact ⟨⟨a, bv, fv, l⟩, rfl, rfl, rfl, h1, h2, h3⟩
def Ent.ans (x : AV) : Ent := ⟨x.blk, fun w => x.At w⟩
theorem good_ans (x : AV) : (Ent.ans x).Good := ⟨fun h hk => h.keep hk, fun h => h.lt⟩

/-- a list of answers as it lies -/
structure AVs (w : World) (v : Value) (xs : List AV) : Prop where
  sl : OC w 6 58 v xs.length (xs.flatMap AV.enc)
  each : ∀ x ∈ xs, x.At w
  off : ∀ x ∈ xs, ∀ k ∈ x.blk, sblk v ≠ some k
def avblk (v : Value) (xs : List AV) : List Nat := (sblk v).toList ++ xs.flatMap AV.blk
def Ent.avs (v : Value) (xs : List AV) : Ent := ⟨avblk v xs, fun w => AVs w v xs⟩
theorem good_avs (v : Value) (xs : List AV) : (Ent.avs v xs).Good :=
  ⟨fun {w w'} h hk => ⟨OC.keep h.sl fun b hb => hk b (by simp [Ent.avs, avblk, hb]), fun x hx => (h.each x hx).keep fun k hk' => hk k (List.mem_append.2 (.inr (List.mem_flatMap.2 ⟨x, hx, hk'⟩))), h.off⟩,
   fun {w} h k hk => by
    rcases List.mem_append.1 hk with hk | hk
    · exact OC.lt h.sl (by simpa using hk)
    · obtain ⟨x, hx, hk⟩ := List.mem_flatMap.1 hk
      exact (h.each x hx).lt k hk⟩

theorem len_av : ∀ x : AV, x.enc.length = 6 := fun _ => rfl
/-- an answer is put behind the others -/
theorem Many.push {W w w' : World} {L : List Ent} {x : AV} {v v' : Value} {xs : List AV} (h : Many W w (Ent.ans x :: Ent.avs v xs :: L)) (ho : OC w' 6 58 v' (xs.length + 1) (xs.flatMap AV.enc ++ x.enc))
    (hc : Chg (fun b => sblk v = some b) w w') (hb : ∀ b, sblk v' = some b → sblk v = some b ∨ w.heap.size ≤ b) : Many W w' (Ent.avs v' (xs ++ [x]) :: L) := by
  have hx : x.At w := h.holds (Ent.ans x) (by simp)
  have hv : AVs w v xs := h.holds (Ent.avs v xs) (by simp)
  have hap := (List.pairwise_cons.1 h.apart).1 (Ent.avs v xs) (by simp)
  have hxo : ∀ k ∈ x.blk, sblk v ≠ some k := fun k hk e => hap k hk (by simp [Ent.avs, avblk, e])
  have hlt : ∀ y ∈ xs ++ [x], ∀ k ∈ y.blk, k < w.heap.size := fun y hy k hk => by
    rcases List.mem_append.1 hy with hy | hy
    · exact (hv.each y hy).lt k hk
    · obtain rfl : y = x := by simpa using hy
      exact hx.lt k hk
  have hoff : ∀ y ∈ xs ++ [x], ∀ k ∈ y.blk, sblk v ≠ some k := fun y hy => by
    rcases List.mem_append.1 hy with hy | hy
    · exact hv.off y hy
    · obtain rfl : y = x := by simpa using hy
      exact hxo
  have hat : ∀ y ∈ xs ++ [x], y.At w' := fun y hy => by
    have h0 : y.At w := by
      rcases List.mem_append.1 hy with hy | hy
      · exact hv.each y hy
      · obtain rfl : y = x := by simpa using hy
        exact hx
    exact h0.keep fun k hk => hc.block k (hlt y hy k hk) (hoff y hy k hk)
  let z : Ent := ⟨x.blk ++ avblk v xs, fun w => x.At w ∧ AVs w v xs⟩
  have gz : z.Good := ⟨fun {a b} h hk => ⟨(good_ans x).stay h.1 fun k hk' => hk k (List.mem_append.2 (.inl hk')), (good_avs v xs).stay h.2 fun k hk' => hk k (List.mem_append.2 (.inr hk'))⟩,
    fun {a} h k hk => (List.mem_append.1 hk).elim (fun hk => (good_ans x).lt h.1 k hk) (fun hk => (good_avs v xs).lt h.2 k hk)⟩
  refine (h.join (z := z) ⟨hx, hv⟩ gz fun k hk => List.mem_append.1 hk).turn (y := Ent.avs v' (xs ++ [x])) ⟨?_, hat, fun y hy k hk e => ?_⟩ (good_avs _ _) ⟨hc.mono fun k hk => .inl ?_, fun k hk => ?_⟩
  · rw [List.length_append, List.flatMap_append]
    simpa using ho
  · rcases hb k e with h1 | h1
    · exact hoff y hy k hk h1
    · have := hlt y hy k hk; omega
  · exact List.mem_append.2 (.inr (by simp [avblk, hk]))
  · rcases List.mem_append.1 hk with hk | hk
    · rcases hb k (by simpa using hk) with h1 | h1
      · exact .inl (List.mem_append.2 (.inr (by simp [avblk, h1])))
      · exact .inr h1
    · obtain ⟨y, hy, hk2⟩ := List.mem_flatMap.1 hk
      refine .inl ?_
      rcases List.mem_append.1 hy with hy | hy
      · exact List.mem_append.2 (.inr (List.mem_append.2 (.inr (List.mem_flatMap.2 ⟨y, hy, hk2⟩))))
      · have e : y = x := by simpa using hy
        rw [e] at hk2
        exact List.mem_append.2 (.inl hk2)
/-- one answer of a list, as it lies -/
theorem AVs.at_ {w : World} {p : Option Addr} {n c : Nat} {xs : List AV} (h : AVs w (.slice p n c) xs) {k : Nat} (hk : k < xs.length) :
    ∃ b x, p = some ⟨b, 0, none⟩ ∧ xs[k]? = some x ∧ x.At w ∧
      w.cell? ⟨b, k * 6, none⟩ = some (.int .i64 (x.a.e : Int)) ∧ w.cell? ⟨b, k * 6 + 1, none⟩ = some (.int .i64 (x.a.n : Int)) ∧ w.cell? ⟨b, k * 6 + 2, none⟩ = some (.int .i64 (x.a.m : Int)) ∧
      w.cell? ⟨b, k * 6 + 3, none⟩ = some x.bv ∧ w.cell? ⟨b, k * 6 + 4, none⟩ = some x.fv ∧ w.cell? ⟨b, k * 6 + 5, none⟩ = some (.bool x.a.down) := by
  obtain ⟨p', c', he, hnc, -, -, hblk⟩ := h.sl
  obtain ⟨rfl, rfl, rfl⟩ : p = p' ∧ n = xs.length ∧ c = c' := by simpa only [Value.slice.injEq] using he
  obtain ⟨b, arr, rfl, hh, hs, hx⟩ := hblk (by omega)
  obtain ⟨x, hxk⟩ : ∃ x, xs[k]? = some x := ⟨_, List.getElem?_eq_getElem hk⟩
  have hcell : ∀ r u, x.enc[r]? = some u → w.cell? ⟨b, k * 6 + r, none⟩ = some u := fun r u hu => by
    rw [hcell_of hh]
    have h1 := flat_at (f := AV.enc) (k := 6) len_av hxk hu
    rw [← hx, List.getElem?_take] at h1
    split at h1
    · simpa using h1
    · cases h1
  exact ⟨b, x, rfl, hxk, h.each x (List.mem_of_getElem? hxk), hcell 0 _ rfl, hcell 1 _ rfl, hcell 2 _ rfl, hcell 3 _ rfl, hcell 4 _ rfl, hcell 5 _ rfl⟩

/-- a call on the first disk -/
theorem Many.did {W w w' : World} {L : List Ent} {d : Nat} {D D' : Dk} {F : List Nat} {a : Ans} {v : Value} (h : Many W w (Ent.disk d D F :: L)) (hd : Did w d F D' a v w') :
    ∃ F' x, x.a = a ∧ v = x.val ∧ Many W w' (Ent.disk d D' F' :: Ent.ans x :: L) := by
  obtain ⟨F', A, h1, h2, h3, h4⟩ := hd
  obtain ⟨x, hx, hv, rfl, hat⟩ := h3.av
  exact ⟨F', x, hx, hv, h.turnAdd (y := Ent.disk d D' F') (z := Ent.ans x) h1 (good_disk _ _ _) h2 hat (good_ans _) h4⟩
/-- the files of the first disk -/
theorem Many.filesOf {W w w' : World} {L : List Ent} {v : Value} {l : List LF} (h : Many W w L) (h1 : FilesAt w' v l) (h2 : ∀ k ∈ lblks v l, w.heap.size ≤ k) (hc : Chg (fun _ => False) w w') : Many W w' (Ent.files v l :: L) :=
  h.add (y := Ent.files v l) hc h1 (good_files _ _) h2
theorem Many.addDisk {W w w' : World} {L : List Ent} {d : Nat} {D : Dk} {F : List Nat} (h : Many W w L) (h1 : DRep w' d D F) (h2 : Ev [] F w w') : Many W w' (Ent.disk d D F :: L) :=
  h.add (y := Ent.disk d D F) (h2.chg.mono fun k hk => (by cases hk)) h1 (good_disk _ _ _) fun k hk => (h2.new k hk).elim (fun h => by cases h) id
theorem Many.left {W w w' : World} {L : List Ent} {d : Nat} {D D' : Dk} {F : List Nat} (h : Many W w (Ent.disk d D F :: L)) (hd : Left w d F D' w') : ∃ F', Many W w' (Ent.disk d D' F' :: L) := by
  obtain ⟨F', h1, h2⟩ := hd
  exact ⟨F', h.turn (y := Ent.disk d D' F') h1 (good_disk _ _ _) h2⟩

/-! ### a script played, plainly -/
def Dk.after (D : Dk) (l : List OpP) : Dk := l.foldl (fun D o => (Dk.does D o).2) D
def Dk.says (D : Dk) : List OpP → List Ans
  | [] => []
  | o :: r => (Dk.does D o).1 :: Dk.says (Dk.does D o).2 r
theorem after_snoc (D : Dk) (l : List OpP) (o : OpP) : Dk.after D (l ++ [o]) = (Dk.does (Dk.after D l) o).2 := by simp [Dk.after]
theorem says_snoc : ∀ (l : List OpP) (D : Dk) (o : OpP), Dk.says D (l ++ [o]) = Dk.says D l ++ [(Dk.does (Dk.after D l) o).1]
  | [], D, o => rfl
  | x :: l, D, o => by
    show (Dk.does D x).1 :: Dk.says (Dk.does D x).2 (l ++ [o]) = _
    rw [says_snoc l]
    rfl
theorem says_len : ∀ (l : List OpP) (D : Dk), (Dk.says D l).length = l.length
  | [], D => rfl
  | x :: l, D => by simp [Dk.says, says_len l]
theorem says_get : ∀ (l : List OpP) (D : Dk) (k : Nat) (o : OpP), l[k]? = some o → (Dk.says D l)[k]? = some (Dk.does (Dk.after D (l.take k)) o).1
  | [], D, k, o, h => by simp at h
  | x :: l, D, 0, o, h => by
    obtain rfl : x = o := by simpa using h
    rfl
  | x :: l, D, k + 1, o, h => by
    show (Dk.says (Dk.does D x).2 l)[k]? = _
    rw [says_get l _ k o (by simpa using h)]
    rfl
theorem after_files (D : Dk) : ∀ (l : List OpP), (Dk.after D l).files.length ≤ D.files.length + l.length ∧ (Dk.after D l).limit = D.limit := by
  intro l
  induction l generalizing D with
  | nil => exact ⟨Nat.le_refl _, rfl⟩
  | cons x l ih =>
    have h := ih (Dk.does D x).2
    have h2 := does_files_le D x
    have e : Dk.after D (x :: l) = Dk.after (Dk.does D x).2 l := rfl
    rw [e, List.length_cons]
    exact ⟨by omega, h.2.trans h2.2⟩
end Go.Proofs
