/- Pieces of memory that lie apart: what the journal's texts share of the disk's laws' texts (one text, for a seat in which those laws do not stand). Conditions: each law's own. -/
import Derived.Test.YtaiaghfckhgnnaaDoorAq
import Derived.Test.YtaiaghfckhgnnaaDoorD9
import Derived.Lib.SmallJoins
namespace Go.Proofs
open Go.RowKit Go.Hp Go.Dm Go.Dr
set_option linter.unusedVariables false
theorem results_cell1 {P : Program} {fn : Func} {p : Tmp} {ty : TypeId} {cs : Array Value} (h : fn.results = #[.cell p ty]) (tmps : Array Value) (w : World) (g : Nat) (t : TypeId) (fr : Nat × Nat) (d : TypeDesc)
    (hp : tmps.getD p undef = .pointer (some ⟨g, 0, none⟩)) (hg : w.heap[g]? = some (.cells cs t fr))
    (hu : P.underlying ty = some d) (hd : (match d with | .struct _ | .array _ _ => true | _ => false) = true) (hi : (P.info? ty).map (·.size) = some cs.size) :
    (results fn tmps).run P w = .ok (.agg cs) w := by
  have hp' : tmps[p]?.getD undef = .pointer (some ⟨g, 0, none⟩) := by simpa using hp
  simp [results, h, hp', asAddr, run_loadVar_row w g t ty cs fr d hg hu hd hi]
/-- the bytes of a constant, laid in a new block -/
theorem rb_new (w : World) (l : List UInt8) (t : TypeId) (fz : Nat × Nat) : RB (w.alloc (.cells (l.map u8).toArray t fz)) (.slice (some ⟨w.heap.size, 0, none⟩) l.length l.length) l :=
  ⟨_, _, rfl, Nat.le_refl _, by simp, fun _ => ⟨_, 0, (l.map u8).toArray, t, fz, rfl, halloc_at w _, fun i u hu => by simpa using hu⟩⟩

theorem drep_alloc {w : World} {d : Nat} {D : Dk} {F : List Nat} (h : DRep w d D F) (o : Obj) : DRep (w.alloc o) d D F := h.keep fun k hk => halloc_lt (h.lt k hk)
theorem new_out {w : World} {d : Nat} {D : Dk} {F : List Nat} (h : DRep w d D F) {c : Nat} : ∀ k, sblk (.slice (some ⟨w.heap.size, 0, none⟩) c c) = some k → k ∉ F := fun k hk hkF => by
  have h1 := h.lt k hkF
  have h2 : w.heap.size = k := by
    cases c with
    | zero => cases hk
    | succ c => simpa [sblk] using hk
  omega

theorem flat_at {α β : Type} {f : α → List β} {k : Nat} (hk : ∀ x, (f x).length = k) : ∀ {l : List α} {i : Nat} {x : α} {r : Nat} {u : β}, l[i]? = some x → (f x)[r]? = some u → (l.flatMap f)[i * k + r]? = some u
  | [], i, x, r, u, h, _ => by simp at h
  | y :: l, 0, x, r, u, h, h2 => by
    obtain rfl : y = x := by simpa using h
    have hr : r < k := by rw [← hk y]; exact (List.getElem?_eq_some_iff.1 h2).1
    rw [List.flatMap_cons, Nat.zero_mul, Nat.zero_add, List.getElem?_append_left (by rw [hk]; exact hr)]
    exact h2
  | y :: l, i + 1, x, r, u, h, h2 => by
    rw [List.flatMap_cons, List.getElem?_append_right (by rw [hk, Nat.add_mul]; omega), hk, show (i + 1) * k + r - k = i * k + r by rw [Nat.add_mul]; omega]
    exact flat_at hk (by simpa using h) h2

theorem len_lf : ∀ x : LF, x.enc.length = 3 := fun _ => rfl

/-- one file of a slice of files, as it lies -/
theorem FilesAt.file {w : World} {p : Option Addr} {n c : Nat} {l : List LF} (h : FilesAt w (.slice p n c) l) {k : Nat} (hk : k < l.length) :
    ∃ b x, p = some ⟨b, 0, none⟩ ∧ l[k]? = some x ∧ OB w 5 x.sv x.bytes ∧ x.bytes.length ≤ x.cap ∧
      w.cell? ⟨b, k * 3, none⟩ = some (.string x.name) ∧ w.cell? ⟨b, k * 3 + 1, none⟩ = some x.sv ∧ w.cell? ⟨b, k * 3 + 2, none⟩ = some (.int .i64 (x.sure : Int)) := by
  obtain ⟨p', c', he, hnc, -, -, hblk⟩ := h.sl
  obtain ⟨rfl, rfl, rfl⟩ : p = p' ∧ n = l.length ∧ c = c' := by simpa only [Value.slice.injEq] using he
  obtain ⟨b, arr, rfl, hh, hs, hx⟩ := hblk (by omega)
  obtain ⟨x, hxk⟩ : ∃ x, l[k]? = some x := ⟨_, List.getElem?_eq_getElem hk⟩
  have hcell : ∀ r u, x.enc[r]? = some u → w.cell? ⟨b, k * 3 + r, none⟩ = some u := fun r u hu => by
    rw [hcell_of hh]
    have h1 := flat_at (f := LF.enc) (k := 3) len_lf hxk hu
    rw [← hx, List.getElem?_take] at h1
    split at h1
    · simpa using h1
    · cases h1
  have hob := h.each x (List.mem_of_getElem? hxk)
  obtain ⟨p2, c2, e2, hle, -⟩ := id hob
  obtain ⟨-, -, rfl⟩ : x.p = p2 ∧ True ∧ x.cap = c2 := by
    have : x.p = p2 ∧ x.cap = c2 := by simpa [LF.sv] using e2
    exact ⟨this.1, trivial, this.2⟩
  exact ⟨b, x, rfl, hxk, hob, hle, hcell 0 _ rfl, hcell 1 _ rfl, hcell 2 _ rfl⟩

theorem FilesAt.lt {w : World} {v : Value} {l : List LF} (h : FilesAt w v l) : ∀ k ∈ lblks v l, k < w.heap.size := fun k hk => by
  rcases List.mem_append.1 hk with hk | hk
  · exact OC.lt h.sl (by simpa using hk)
  · obtain ⟨x, hx, hk⟩ := List.mem_flatMap.1 hk
    exact OC.lt (h.each x hx) (by simpa [LF.blk] using hk)
theorem halloc_size (w : World) (o : Obj) : (w.alloc o).heap.size = w.heap.size + 1 := by simp
theorem chg_ev {w W wr : World} {F : List Nat} {o : Obj} (h : Ev [] F (w.alloc o) wr) : Chg (fun _ => False) w wr :=
  ((Chg.refl (fun _ => False) w).alloc o).trans h.chg fun k hk => (by cases hk)
/-- a piece of memory: its blocks, and what is said of it -/
structure Ent where
  F : List Nat
  P : World → Prop

/-- what is said of it stays while its blocks stay; its blocks are there -/
structure Ent.Good (x : Ent) : Prop where
  stay : ∀ {w w' : World}, x.P w → (∀ k ∈ x.F, w'.heap[k]? = w.heap[k]?) → x.P w'
  lt : ∀ {w : World}, x.P w → ∀ k ∈ x.F, k < w.heap.size

/-- pieces that lie apart, all new since W; nothing that was there in W has changed -/
structure Many (W w : World) (L : List Ent) : Prop where
  holds : ∀ x ∈ L, x.P w
  good : ∀ x ∈ L, x.Good
  new : ∀ x ∈ L, ∀ k ∈ x.F, W.heap.size ≤ k
  apart : L.Pairwise fun x y => ∀ k ∈ x.F, k ∉ y.F
  chg : Chg (fun _ => False) W w

section
variable {W w w' : World} {L L' : List Ent} {x y z : Ent}
theorem Many.nil (W : World) : Many W W [] := ⟨by simp, by simp, by simp, List.Pairwise.nil, Chg.refl _ _⟩
theorem Many.get (h : Many W w L) (hx : x ∈ L) : x.P w := h.holds x hx
theorem Many.first (h : Many W w (x :: L)) : x.P w := h.holds x (by simp)
theorem Many.tail (h : Many W w (x :: L)) : Many W w L :=
  ⟨fun y hy => h.holds y (by simp [hy]), fun y hy => h.good y (by simp [hy]), fun y hy => h.new y (by simp [hy]), (List.pairwise_cons.1 h.apart).2, h.chg⟩
theorem Many.lt (h : Many W w L) (hx : x ∈ L) : ∀ k ∈ x.F, k < w.heap.size := (h.good x hx).lt (h.holds x hx)
theorem Many.quiet (h : Many W w L) (hc : Chg (fun _ => False) w w') : Many W w' L :=
  ⟨fun x hx => (h.good x hx).stay (h.holds x hx) fun k hk => hc.block k (h.lt hx k hk) (fun h => h), h.good, h.new, h.apart, h.chg.trans hc fun _ h => h.elim⟩
theorem Many.alloc (h : Many W w L) (o : Obj) : Many W (w.alloc o) L := h.quiet ((Chg.refl _ w).alloc o)
theorem Many.drewN (h : Many W w L) (n : Nat) : Many W (w.drewN n) L := h.quiet ((Chg.refl _ w).drewN n)
theorem Many.perm (h : Many W w L) (hp : L.Perm L') : Many W w L' :=
  ⟨fun x hx => h.holds x (hp.symm.subset hx), fun x hx => h.good x (hp.symm.subset hx), fun x hx => h.new x (hp.symm.subset hx),
    (hp.pairwise_iff (fun {a b} hab k hk hk' => hab k hk' hk)).1 h.apart, h.chg⟩
/-- a new piece -/
theorem Many.add (h : Many W w L) (hc : Chg (fun _ => False) w w') (hy : y.P w') (gy : y.Good) (hn : ∀ k ∈ y.F, w.heap.size ≤ k) : Many W w' (y :: L) := by
  have h' := h.quiet hc
  refine ⟨fun x hx => ?_, fun x hx => ?_, fun x hx k hk => ?_, List.pairwise_cons.2 ⟨fun x hx k hk hkx => ?_, h'.apart⟩, h'.chg⟩
  · rcases List.mem_cons.1 hx with rfl | hx
    · exact hy
    · exact h'.holds x hx
  · rcases List.mem_cons.1 hx with rfl | hx
    · exact gy
    · exact h'.good x hx
  · rcases List.mem_cons.1 hx with rfl | hx
    · exact Nat.le_trans h.chg.size (hn k hk)
    · exact h'.new x hx k hk
  · have := hn k hk
    have := h.lt hx k hkx
    omega
/-- the first piece becomes another one -/
theorem Many.turn (h : Many W w (x :: L)) (hy : y.P w') (gy : y.Good) (he : Ev x.F y.F w w') : Many W w' (y :: L) := by
  have hap := List.pairwise_cons.1 h.apart
  have hst : ∀ u ∈ L, u.P w' := fun u hu => (h.good u (by simp [hu])).stay (h.holds u (by simp [hu])) fun k hk => he.block (h.lt (by simp [hu]) k hk) fun hF => hap.1 u hu k hF hk
  refine ⟨fun u hu => ?_, fun u hu => ?_, fun u hu k hk => ?_, List.pairwise_cons.2 ⟨fun u hu k hk hku => ?_, hap.2⟩, ?_⟩
  · rcases List.mem_cons.1 hu with rfl | hu
    · exact hy
    · exact hst u hu
  · rcases List.mem_cons.1 hu with rfl | hu
    · exact gy
    · exact h.good u (by simp [hu])
  · rcases List.mem_cons.1 hu with rfl | hu
    · exact (he.new k hk).elim (h.new x (by simp) k) (fun hs => Nat.le_trans h.chg.size hs)
    · exact h.new u (by simp [hu]) k hk
  · exact (he.new k hk).elim (fun hF => hap.1 u hu k hF hku) (fun hs => by have := h.lt (x := u) (by simp [hu]) k hku; omega)
  · exact h.chg.trans he.chg fun k hk => .inr (h.new x (by simp) k hk)
/-- the first piece becomes another one, and a new one comes -/
theorem Many.turnAdd (h : Many W w (x :: L)) (hy : y.P w') (gy : y.Good) (he : Ev x.F y.F w w') (hz : z.P w') (gz : z.Good) (hn : ∀ k ∈ z.F, w.heap.size ≤ k ∧ k ∉ y.F) : Many W w' (y :: z :: L) := by
  have h' := h.turn hy gy he
  have hap := List.pairwise_cons.1 h'.apart
  refine ⟨fun u hu => ?_, fun u hu => ?_, fun u hu k hk => ?_, List.pairwise_cons.2 ⟨fun u hu k hk hku => ?_, List.pairwise_cons.2 ⟨fun u hu k hk hku => ?_, hap.2⟩⟩, h'.chg⟩
  · rcases List.mem_cons.1 hu with rfl | hu
    · exact hy
    · rcases List.mem_cons.1 hu with rfl | hu
      · exact hz
      · exact h'.holds u (by simp [hu])
  · rcases List.mem_cons.1 hu with rfl | hu
    · exact gy
    · rcases List.mem_cons.1 hu with rfl | hu
      · exact gz
      · exact h'.good u (by simp [hu])
  · rcases List.mem_cons.1 hu with rfl | hu
    · exact h'.new u (by simp) k hk
    · rcases List.mem_cons.1 hu with rfl | hu
      · exact Nat.le_trans h.chg.size (hn k hk).1
      · exact h'.new u (by simp [hu]) k hk
  · rcases List.mem_cons.1 hu with rfl | hu
    · exact (hn k hku).2 hk
    · exact hap.1 u hu k hk hku
  · have := (hn k hk).1
    have := h.lt (x := u) (by simp [hu]) k hku
    omega
/-- two pieces taken as one -/
theorem Many.join (h : Many W w (x :: y :: L)) (hz : z.P w) (gz : z.Good) (hF : ∀ k ∈ z.F, k ∈ x.F ∨ k ∈ y.F) : Many W w (z :: L) := by
  have h1 := List.pairwise_cons.1 h.apart
  have h2 := List.pairwise_cons.1 h1.2
  refine ⟨fun u hu => ?_, fun u hu => ?_, fun u hu k hk => ?_, List.pairwise_cons.2 ⟨fun u hu k hk hku => ?_, h2.2⟩, h.chg⟩
  · rcases List.mem_cons.1 hu with rfl | hu
    · exact hz
    · exact h.holds u (by simp [hu])
  · rcases List.mem_cons.1 hu with rfl | hu
    · exact gz
    · exact h.good u (by simp [hu])
  · rcases List.mem_cons.1 hu with rfl | hu
    · exact (hF k hk).elim (h.new x (by simp) k) (h.new y (by simp) k)
    · exact h.new u (by simp [hu]) k hk
  · exact (hF k hk).elim (fun hx => h1.1 u (by simp [hu]) k hx hku) (fun hy => h2.1 u hu k hy hku)
end

section
variable {W w : World} {L : List Ent} {x y z u : Ent}
theorem Many.swap12 (h : Many W w (x :: y :: L)) : Many W w (y :: x :: L) := h.perm (List.Perm.swap _ _ _)
theorem Many.front3 (h : Many W w (x :: y :: z :: L)) : Many W w (z :: x :: y :: L) := h.perm ((List.Perm.cons x (List.Perm.swap _ _ _)).trans (List.Perm.swap _ _ _))
theorem Many.back3 (h : Many W w (x :: y :: z :: L)) : Many W w (y :: z :: x :: L) := h.front3.front3
theorem Many.front4 (h : Many W w (x :: y :: z :: u :: L)) : Many W w (u :: x :: y :: z :: L) :=
  h.perm ((List.Perm.cons x ((List.Perm.cons y (List.Perm.swap _ _ _)).trans (List.Perm.swap _ _ _))).trans (List.Perm.swap _ _ _))
theorem Many.drop2 (h : Many W w (x :: y :: L)) : Many W w (x :: L) := h.swap12.tail
end

/-! ### kinds of pieces -/
def Ent.disk (d : Nat) (D : Dk) (F : List Nat) : Ent := ⟨F, fun w => DRep w d D F⟩
theorem good_disk (d : Nat) (D : Dk) (F : List Nat) : (Ent.disk d D F).Good := ⟨fun h hk => DRep.keep h hk, fun h => DRep.lt h⟩
def Ent.box (b : Nat) (o : Obj) : Ent := ⟨[b], fun w => w.heap[b]? = some o⟩
theorem good_box (b : Nat) (o : Obj) : (Ent.box b o).Good := ⟨fun {w w'} h hk => (hk b (by simp [Ent.box])).trans h, fun {w} h k hk => by
  obtain rfl : k = b := by simpa [Ent.box] using hk
  exact hlt_of h⟩
theorem FilesAt.keep {w w' : World} {v : Value} {l : List LF} (h : FilesAt w v l) (hk : ∀ k ∈ lblks v l, w'.heap[k]? = w.heap[k]?) : FilesAt w' v l :=
  ⟨OC.keep h.sl fun b hb => hk b (mem_lblks hb), fun x hx => OC.keep (h.each x hx) fun b hb => hk b (List.mem_append.2 (.inr (List.mem_flatMap.2 ⟨x, hx, by simp [LF.blk, hb]⟩))), h.nodup⟩
def Ent.files (v : Value) (l : List LF) : Ent := ⟨lblks v l, fun w => FilesAt w v l⟩
theorem good_files (v : Value) (l : List LF) : (Ent.files v l).Good := ⟨fun h hk => h.keep hk, fun h => h.lt⟩

section
variable {W w w' : World} {L : List Ent}
/-- the files of the first disk -/
theorem Many.filesOf {W w w' : World} {L : List Ent} {v : Value} {l : List LF} (h : Many W w L) (h1 : FilesAt w' v l) (h2 : ∀ k ∈ lblks v l, w.heap.size ≤ k) (hc : Chg (fun _ => False) w w') : Many W w' (Ent.files v l :: L) :=
  h.add (y := Ent.files v l) hc h1 (good_files _ _) h2
theorem Many.addDisk {W w w' : World} {L : List Ent} {d : Nat} {D : Dk} {F : List Nat} (h : Many W w L) (h1 : DRep w' d D F) (h2 : Ev [] F w w') : Many W w' (Ent.disk d D F :: L) :=
  h.add (y := Ent.disk d D F) (h2.chg.mono fun k hk => (by cases hk)) h1 (good_disk _ _ _) fun k hk => (h2.new k hk).elim (fun h => by cases h) id
theorem Many.left {W w w' : World} {L : List Ent} {d : Nat} {D D' : Dk} {F : List Nat} (h : Many W w (Ent.disk d D F :: L)) (hd : Left w d F D' w') : ∃ F', Many W w' (Ent.disk d D' F' :: L) := by
  obtain ⟨F', h1, h2⟩ := hd
  exact ⟨F', h.turn (y := Ent.disk d D' F') h1 (good_disk _ _ _) h2⟩

end
end Go.Proofs
namespace Go.Hp
open Go Go.RowKit
set_option linter.unusedVariables false
/-- what was read ahead of an append reads the same behind it -/
theorem run_append_old {P : Program} (w : World) (t ty E : TypeId) (i : TypeInfo) (z : Value) (k bytes : Nat) (ht : P.underlying t = some (.slice E)) (hi : P.info? E = some i) (hz : i.zero = some z)
    (hsize : i.size = k) (hby : i.bytes = bytes) (hzs : z.cells.size = k) (hk : 0 < k)
    {v x : Value} {n m : Nat} {cs ns : List Value} (hv : OC w k E v n cs) (hx : RC w k x m ns) (h1 : ∀ u ∈ ns, u.oneCell' = true)
    (hb1 : 0 < bytes) (hbytes : (n + m) * bytes ≤ 140737488355328) {v' : Value} {w' : World} (hrun : (Builtin.append_ #[t, t] ty #[v, x]).run P w = .ok v' w') : RC w' k v n cs := by
  subst hsize hby
  have hv0 := hv
  obtain ⟨p, c, rfl, hnc, hcm, hcl, hv4⟩ := hv
  have hx0 := hx
  obtain ⟨q, d, rfl, hmd, hnl, hx4⟩ := hx
  have hnm : n + m ≤ 140737488355328 := Nat.le_trans (Nat.le_mul_of_pos_right _ hb1) hbytes
  by_cases hm : m = 0
  · subst hm
    have hns : ns = [] := List.eq_nil_of_length_eq_zero (by simpa using hnl)
    subst hns
    have hr : (Builtin.append_ #[t, t] ty #[.slice p n c, .slice q 0 d]).run P w = .ok (.slice p n c) w := by
      cases q with
      | none => cases p <;> simp [Builtin.append_, run_underlying ht, sizeOf, typeInfo, hi, Builtin.lenOf, Builtin.firstCells, hnc, storeCells]
      | some a => cases p <;> simp [Builtin.append_, run_underlying ht, sizeOf, typeInfo, hi, Builtin.lenOf, Builtin.firstCells, loadCells, loadCellsFrom, hnc, storeCells]
    rw [hr] at hrun
    cases hrun
    exact hv0.rc
  · have hd : d ≠ 0 := by omega
    obtain ⟨b, off, arr, t', fz, rfl, hh, hcell⟩ := hx4 hd
    have hnews : ∀ j u, ns[j]? = some u → w.cell? ((⟨b, off, none⟩ : Addr).add j) = some u := fun j u hu => hx0.cell rfl hd j u hu
    have chg : ∀ o, Chg (fun _ => False) w (w.drew.alloc o) := fun o => (Chg.refl _ w).drew.alloc o
    by_cases hroom : n + m ≤ c
    · have hc : c ≠ 0 := by omega
      obtain ⟨g, cur, rfl, hg, hcs, htake⟩ := hv4 hc
      have hfit : n * i.size + ns.length ≤ cur.size := by rw [hnl, hcs, ← Nat.add_mul]; exact Nat.mul_le_mul_right _ hroom
      have hr := run_append_room (P := P) w t ty E i ht hi g n c cur hg ⟨b, off, none⟩ m d ns hnl hnews h1 hroom hfit
      rw [hr] at hrun
      cases hrun
      refine ⟨_, c, rfl, hnc, hcl, fun _ => ⟨g, 0, _, _, _, rfl, setRow_heap w g cur _ E _ hg, fun j u hu => ?_⟩⟩
      have hj : j < cs.length := (List.getElem?_eq_some_iff.1 hu).1
      have hle : n * i.size ≤ cur.toList.length := by simp; omega
      rw [Nat.zero_add, List.getElem?_toArray, List.append_assoc, List.getElem?_append_left (by rw [htake]; exact hj), htake]
      exact hu
    · cases p with
      | none =>
        have hc : c = 0 := by
          by_cases h : c = 0
          · exact h
          · obtain ⟨g, cur, hp, _⟩ := hv4 h; cases hp
        subst hc
        have hn : n = 0 := by omega
        subst hn
        exact ⟨none, 0, rfl, Nat.le_refl _, hcl, fun h => absurd rfl h⟩
      | some a =>
        have hr := run_append_grow (P := P) w t ty E i z ht hi hz a n c cs hcl (fun j u hu => by
            by_cases hc : c = 0
            · have : n = 0 := by omega
              subst this
              have hcs : cs = [] := List.eq_nil_of_length_eq_zero (by simpa using hcl)
              subst hcs; cases hu
            · exact hv0.rc.cell rfl hc j u hu)
          ⟨b, off, none⟩ m d ns hnl hnews (by omega) (by omega) (growslice_fits (by omega) hbytes)
        rw [hr] at hrun
        cases hrun
        exact RC.chg hv0.rc (chg _) fun _ _ h => h
end Go.Hp
namespace Go.Proofs
open Go.RowKit Go.Hp Go.Dm Go.Dr
set_option linter.unusedVariables false
section
variable {W w w' : World} {L : List Ent} {x y z : Ent}
/-- append of bytes: what was read ahead of it reads the same -/
theorem wpList_append_bytes2 {ops : Array Oper} {rest : List Oper} {o : Oper} {a : Act} {Q : Exit → Act → World → Prop} (hg : o.guard = none) (s x : Operand)
    (hop : o.op = .call { callee := .builtin .append, args := #[s, x], argTypes := #[33, 33] }) {v y : Value} {l m : List UInt8} (hs : a.eval s = v) (hx : a.eval x = y)
    (hv : OB w 5 v l) (hy : RB w y m) (hlen : l.length + m.length ≤ 140737488355328)
    (h : ∀ pv lv cv w', OB w' 5 (.slice pv lv cv) (l ++ m) → RB w' v l → Chg (fun b => sblk v = some b) w w' → (∀ b, sblk (.slice pv lv cv) = some b → sblk v = some b ∨ w.heap.size ≤ b) →
      wpList Tryd.prog ops Q rest (a.put o.dst (.slice pv lv cv)) w') : wpList Tryd.prog ops Q (o :: rest) a w := by
  obtain ⟨i0, hi, hz0, hz1, hz2⟩ := info_parts info_u8
  obtain ⟨v', w', hrun, r1, r2, r3, r4⟩ := run_append_any (P := Tryd.prog) w 33 o.type 5 i0 _ 1 1 Tryd.underlying33 hi hz0 hz1 hz2 rfl (by decide) hv hy (u8_one m) (by decide) (by omega)
  have r5 := run_append_old (P := Tryd.prog) w 33 o.type 5 i0 _ 1 1 Tryd.underlying33 hi hz0 hz1 hz2 rfl (by decide) hv hy (u8_one m) (by decide) (by omega) hrun
  have h1' : OB w' 5 v' (l ++ m) := by
    show OC w' 1 5 v' (l ++ m).length ((l ++ m).map u8)
    rw [List.length_append, List.map_append]; exact r1
  obtain ⟨pv, cv, rfl, _⟩ := id h1'
  refine wpList_value hg ?_ (h pv _ cv w' h1' r5 r2 r3)
  subst hs hx
  simp [execOp, hop, resolve, invoke, builtin, hrun, Result.andThen]

theorem info_rows : (Tryd.prog.info? 33).map (fun i => (i.zero, i.size, i.bytes)) = some (some (.slice none 0 0), 1, 24) := by kernel_rfl
/-- append of slices of bytes -/
theorem wpList_append_rows {ops : Array Oper} {rest : List Oper} {o : Oper} {a : Act} {Q : Exit → Act → World → Prop} (hg : o.guard = none) (s x : Operand)
    (hop : o.op = .call { callee := .builtin .append, args := #[s, x], argTypes := #[22, 22] }) {v y : Value} {l m : List Value} (hs : a.eval s = v) (hx : a.eval x = y)
    (hv : OC w 1 33 v l.length l) (hy : RC w 1 y m.length m) (h1 : ∀ u ∈ m, u.oneCell' = true) (hlen : l.length + m.length ≤ 1099511627776)
    (h : ∀ pv lv cv w', OC w' 1 33 (.slice pv lv cv) (l ++ m).length (l ++ m) → lv = l.length + m.length → Chg (fun b => sblk v = some b) w w' → (∀ b, sblk (.slice pv lv cv) = some b → sblk v = some b ∨ w.heap.size ≤ b) →
      wpList Tryd.prog ops Q rest (a.put o.dst (.slice pv lv cv)) w') : wpList Tryd.prog ops Q (o :: rest) a w := by
  obtain ⟨i0, hi, hz0, hz1, hz2⟩ := info_parts info_rows
  refine wpList_append_oc hg s x 22 hop 33 i0 _ 1 24 Tryd.underlying22 hi hz0 hz1 hz2 rfl (by decide) hs hx hv hy h1 (by decide) (by omega) fun v' w' r1 h2 h3 h4 => ?_
  rw [← List.length_append] at r1
  obtain ⟨pv, cv, rfl, _⟩ := id r1
  exact h pv _ cv w' r1 (by simp) h2 h3

/-- bytes of their own, as a piece of memory -/
def Ent.bytes (v : Value) (l : List UInt8) : Ent := ⟨(sblk v).toList, fun w => OB w 5 v l⟩
theorem good_bytes (v : Value) (l : List UInt8) : (Ent.bytes v l).Good := ⟨fun h hk => OC.keep h fun b hb => hk b (by simp [Ent.bytes, hb]), fun h k hk => OC.lt h (by simpa [Ent.bytes] using hk)⟩
theorem Many.addBytes {v : Value} {l : List UInt8} (h : Many W w L) (ho : OB w' 5 v l) (hc : Chg (fun _ => False) w w') (hn : ∀ b, sblk v = some b → w.heap.size ≤ b) : Many W w' (Ent.bytes v l :: L) :=
  h.add (y := Ent.bytes v l) hc ho (good_bytes _ _) fun k hk => hn k (by simpa [Ent.bytes] using hk)
/-- bytes put behind bytes of their own -/
theorem Many.growBytes {v v' : Value} {l l' : List UInt8} (h : Many W w (Ent.bytes v l :: L)) (ho : OB w' 5 v' l') (hc : Chg (fun b => sblk v = some b) w w') (hb : ∀ b, sblk v' = some b → sblk v = some b ∨ w.heap.size ≤ b) : Many W w' (Ent.bytes v' l' :: L) :=
  h.turn (y := Ent.bytes v' l') ho (good_bytes _ _) ⟨hc.mono fun k hk => .inl (by simp [Ent.bytes, hk]), fun k hk => (hb k (by simpa [Ent.bytes] using hk)).imp (fun h => by simp [Ent.bytes, h]) id⟩
/-- a byte of the first piece is another one -/
theorem Many.setByte {bb n c : Nat} {l : List UInt8} (h : Many W w (Ent.bytes (.slice (some ⟨bb, 0, none⟩) l.length c) l :: L)) (hn : n < l.length) (u : UInt8) :
    Many W (w.setCell ⟨bb, n, none⟩ (u8 u)) (Ent.bytes (.slice (some ⟨bb, 0, none⟩) l.length c) (l.set n u) :: L) := by
  have ho : OB w 5 (.slice (some ⟨bb, 0, none⟩) l.length c) l := h.first
  have hc : c ≠ 0 := by obtain ⟨_, _, e, h1, -⟩ := ho; simp only [Value.slice.injEq] at e; omega
  have hs := OB_set ho hn u
  refine h.turn (y := Ent.bytes (.slice (some ⟨bb, 0, none⟩) l.length c) (l.set n u)) hs (good_bytes _ _) ⟨(Chg.refl _ _).setCell (.inl ?_) _, fun k hk => .inl hk⟩
  show bb ∈ (sblk (.slice (some ⟨bb, 0, none⟩) l.length c)).toList
  rw [sblk_some hc]; simp

/-- a byte of bytes of their own, and that it may be written -/
theorem OB.at_ {E : TypeId} {bb n c j : Nat} {l : List UInt8} (h : OB w E (.slice (some ⟨bb, 0, none⟩) n c) l) (hj : j < l.length) : w.cell? ⟨bb, j, none⟩ = some (.int .u8 ((l[j]'hj).toNat : Int)) ∧ w.frozen? ⟨bb, j, none⟩ = false := by
  obtain ⟨p, c', he, h1, h2, h3, h4⟩ := h
  simp only [Value.slice.injEq] at he
  obtain ⟨hp, rfl, rfl⟩ := he
  obtain ⟨b, arr, hp2, hh, hs, ht⟩ := h4 (by omega)
  rw [hp2] at hp
  obtain rfl : bb = b := by simpa using hp
  refine ⟨?_, hfree_of hh j⟩
  rw [hcell_of hh]
  have e : (arr.toList.take (l.length * 1))[j]? = (l.map u8)[j]? := by rw [ht]
  rw [List.getElem?_take_of_lt (by omega)] at e
  simpa [hj] using e
theorem OB.blk {E : TypeId} {p : Option Addr} {n c : Nat} {l : List UInt8} (h : OB w E (.slice p n c) l) (hl : l ≠ []) : ∃ bb, p = some ⟨bb, 0, none⟩ := by
  obtain ⟨p, c', he, h1, h2, h3, h4⟩ := h
  simp only [Value.slice.injEq] at he
  obtain ⟨rfl, -, rfl⟩ := he
  obtain ⟨b, arr, rfl, -⟩ := h4 (by have := List.length_pos_iff.2 hl; omega)
  exact ⟨b, rfl⟩
theorem OB.lenEq {E : TypeId} {p : Option Addr} {n c : Nat} {l : List UInt8} (h : OB w E (.slice p n c) l) : n = l.length ∧ l.length ≤ c := by
  obtain ⟨p', c', e, h1, -⟩ := h; simp only [Value.slice.injEq] at e; exact ⟨e.2.1, by omega⟩

/-- g, written full, and the longer v; their blocks lie apart from all others -/
def Ent.full (g v : Value) (n : Nat) (c : UInt8) : Ent := ⟨(sblk g).toList ++ (sblk v).toList, fun w => RB w g (List.replicate n c) ∧ OB w 5 v (List.replicate (n + 1) c)⟩
theorem good_full (g v : Value) (n : Nat) (c : UInt8) : (Ent.full g v n c).Good :=
  ⟨fun h hk => ⟨RC.keep h.1 fun b hb => hk b (by simp [Ent.full, hb]), OC.keep h.2 fun b hb => hk b (by simp [Ent.full, hb])⟩,
   fun h k hk => (List.mem_append.1 hk).elim (fun hk => RC.lt h.1 (by simpa using hk)) (fun hk => OC.lt h.2 (by simpa using hk))⟩
theorem Many.toFull {g v : Value} {n : Nat} {c : UInt8} (h : Many W w (Ent.bytes g (List.replicate n c) :: L)) (h1 : RB w' g (List.replicate n c)) (h2 : OB w' 5 v (List.replicate n c ++ [c]))
    (hc : Chg (fun b => sblk g = some b) w w') (hb : ∀ b, sblk v = some b → sblk g = some b ∨ w.heap.size ≤ b) : Many W w' (Ent.full g v n c :: L) := by
  rw [← List.replicate_succ'] at h2
  refine h.turn (y := Ent.full g v n c) ⟨h1, h2⟩ (good_full _ _ _ _) ⟨hc.mono fun k hk => .inl (by simp [Ent.bytes, hk]), fun k hk => ?_⟩
  rcases List.mem_append.1 hk with hk | hk
  · exact .inl hk
  · exact (hb k (by simpa using hk)).imp (fun h => by simp [Ent.bytes, h]) id

/-- a slice of slices of its own -/
def Ent.rows (v : Value) (cs : List Value) : Ent := ⟨(sblk v).toList, fun w => OC w 1 33 v cs.length cs⟩
theorem good_rows (v : Value) (cs : List Value) : (Ent.rows v cs).Good := ⟨fun h hk => OC.keep h fun b hb => hk b (by simp [Ent.rows, hb]), fun h k hk => OC.lt h (by simpa [Ent.rows] using hk)⟩
theorem Many.addRows {v : Value} {cs : List Value} (h : Many W w L) (ho : OC w' 1 33 v cs.length cs) (hc : Chg (fun _ => False) w w') (hn : ∀ b, sblk v = some b → w.heap.size ≤ b) : Many W w' (Ent.rows v cs :: L) :=
  h.add (y := Ent.rows v cs) hc ho (good_rows _ _) fun k hk => hn k (by simpa [Ent.rows] using hk)
theorem Many.growRows {v v' : Value} {cs cs' : List Value} (h : Many W w (Ent.rows v cs :: L)) (ho : OC w' 1 33 v' cs'.length cs') (hc : Chg (fun b => sblk v = some b) w w') (hb : ∀ b, sblk v' = some b → sblk v = some b ∨ w.heap.size ≤ b) : Many W w' (Ent.rows v' cs' :: L) :=
  h.turn (y := Ent.rows v' cs') ho (good_rows _ _) ⟨hc.mono fun k hk => .inl (by simp [Ent.rows, hk]), fun k hk => (hb k (by simpa [Ent.rows] using hk)).imp (fun h => by simp [Ent.rows, h]) id⟩
theorem Many.addBox (h : Many W w L) (o : Obj) : Many W (w.alloc o) (Ent.box w.heap.size o :: L) :=
  h.add (y := Ent.box w.heap.size o) ((Chg.refl _ w).alloc o) (halloc_at w o) (good_box _ _) fun k hk => by
    have : k = w.heap.size := by simpa [Ent.box] using hk
    omega
/-- a piece of which nothing is said -/
def Ent.some (F : List Nat) : Ent := ⟨F, fun w => ∀ k ∈ F, k < w.heap.size⟩
theorem OC.at1 {E : TypeId} {b n m c j : Nat} {cs : List Value} (h : OC w 1 E (.slice (some ⟨b, 0, none⟩) n c) m cs) (hj : j < cs.length) : w.cell? ⟨b, j, none⟩ = some (cs[j]'hj) ∧ w.frozen? ⟨b, j, none⟩ = false := by
  obtain ⟨p, c', he, h1, h2, h3, h4⟩ := h
  simp only [Value.slice.injEq] at he
  obtain ⟨hp, rfl, rfl⟩ := he
  obtain ⟨b', arr, hp2, hh, hs, ht⟩ := h4 (by omega)
  rw [hp2] at hp
  obtain rfl : b = b' := by simpa using hp
  refine ⟨?_, hfree_of hh j⟩
  rw [hcell_of hh]
  have e : (arr.toList.take (n * 1))[j]? = cs[j]? := by rw [ht]
  rw [List.getElem?_take_of_lt (by omega)] at e
  simpa [hj] using e
theorem OC.atk {k : Nat} {E : TypeId} {b n m c j : Nat} {cs : List Value} {u : Value} (h : OC w k E (.slice (some ⟨b, 0, none⟩) n c) m cs) (hj : cs[j]? = some u) : w.cell? ⟨b, j, none⟩ = some u ∧ w.frozen? ⟨b, j, none⟩ = false := by
  have hl := (List.getElem?_eq_some_iff.1 hj).1
  obtain ⟨p, c', he, h1, h2, h3, h4⟩ := h
  simp only [Value.slice.injEq] at he
  obtain ⟨hp, rfl, rfl⟩ := he
  have hc : c ≠ 0 := by
    rintro rfl
    have : n = 0 := by omega
    subst this
    simp at h3; rw [h3] at hl; simp at hl
  obtain ⟨b', arr, hp2, hh, hs, ht⟩ := h4 hc
  rw [hp2] at hp
  obtain rfl : b = b' := by simpa using hp
  refine ⟨?_, hfree_of hh j⟩
  rw [hcell_of hh]
  rw [← ht, List.getElem?_take] at hj
  split at hj
  · simpa using hj
  · cases hj
theorem OC.blk1 {E : TypeId} {p : Option Addr} {n m c : Nat} {cs : List Value} (h : OC w 1 E (.slice p n c) m cs) (hl : 0 < m) : ∃ b, p = some ⟨b, 0, none⟩ := by
  obtain ⟨p, c', he, h1, h2, h3, h4⟩ := h
  simp only [Value.slice.injEq] at he
  obtain ⟨rfl, -, rfl⟩ := he
  obtain ⟨b, arr, rfl, -⟩ := h4 (by omega)
  exact ⟨b, rfl⟩
/-- a slice written full, and the longer one behind it -/
structure DF where
  g : LF
  p : Option Addr
  c : Nat
  m : UInt8
def DF.v (d : DF) : Value := .slice d.p (d.g.bytes.length + 1) d.c
def DF.ent (d : DF) : Ent := Ent.full d.g.sv d.v d.g.bytes.length d.m
def LF.ent (g : LF) : Ent := Ent.bytes g.sv g.bytes
/-- what filled has done with the first ones -/
structure Fulls (gs : List LF) (ds : List DF) : Prop where
  is : ds.map DF.g = gs.take ds.length
  mark : ∀ k d, ds[k]? = some d → d.m = UInt8.ofNat (200 + k)
theorem Fulls.nil (gs : List LF) : Fulls gs [] := ⟨by simp, by simp⟩
theorem Fulls.snoc {gs : List LF} {ds : List DF} {g : LF} (h : Fulls gs ds) (hg : gs[ds.length]? = some g) (p : Option Addr) (c : Nat) : Fulls gs (ds ++ [⟨g, p, c, UInt8.ofNat (200 + ds.length)⟩]) := by
  refine ⟨?_, fun k d hk => ?_⟩
  · rw [List.map_append, h.is, List.length_append, List.length_singleton, List.take_add_one, hg]; rfl
  · rw [List.getElem?_append] at hk
    split at hk
    · exact h.mark k d hk
    · rename_i h1
      have : k = ds.length := by
        have := (List.getElem?_eq_some_iff.1 hk).1
        simp at this; omega
      subst this
      obtain rfl : (⟨g, p, c, UInt8.ofNat (200 + ds.length)⟩ : DF) = d := by simpa using hk
      rfl
theorem good_some (F : List Nat) : (Ent.some F).Good := ⟨fun {w w'} h hk k hkF => by
    have h1 : k < w.heap.size := h k hkF
    have h2 := hk k hkF
    rw [Array.getElem?_eq_getElem h1] at h2
    exact hlt_of h2, fun h => h⟩
theorem two_of {l : List LF} {a b : Fl} (h : l.map LF.fl = [a, b]) : ∃ f g, l = [f, g] ∧ f.fl = a ∧ g.fl = b := by
  match l, h with
  | [], h => simp at h
  | [f], h => simp at h
  | [f, g], h => exact ⟨f, g, rfl, by simpa using h⟩
  | f :: g :: k :: r, h => simp at h
/-- pieces in another order -/
theorem Many.byIdx {L : List Ent} {n : Nat} (p : List Nat) (h : Many W w L) (d : Ent) (hn : L.length = n) (hp : (List.range n).Perm p) : Many W w (p.map fun i => L.getD i d) := by
  subst hn
  refine h.perm ?_
  have e : L = (List.range L.length).map fun i => L.getD i d := by
    apply List.ext_getElem?
    intro i
    by_cases hi : i < L.length
    · simp [hi]
    · simp [hi]
  exact (List.Perm.of_eq e).trans (hp.map _)
theorem Many.sub {L' : List Ent} (h : Many W w L) (hs : L'.Sublist L) : Many W w L' :=
  ⟨fun x hx => h.holds x (hs.subset hx), fun x hx => h.good x (hs.subset hx), fun x hx => h.new x (hs.subset hx), h.apart.sublist hs, h.chg⟩
/-- one piece taken as two -/
theorem Many.split (h : Many W w (x :: L)) (hy : y.P w) (hz : z.P w) (gy : y.Good) (gz : z.Good) (hF : ∀ k, k ∈ y.F ∨ k ∈ z.F → k ∈ x.F) (hd : ∀ k ∈ y.F, k ∉ z.F) : Many W w (y :: z :: L) := by
  have hap := List.pairwise_cons.1 h.apart
  refine ⟨fun u hu => ?_, fun u hu => ?_, fun u hu k hk => ?_, List.pairwise_cons.2 ⟨fun u hu k hk hku => ?_, List.pairwise_cons.2 ⟨fun u hu k hk hku => ?_, hap.2⟩⟩, h.chg⟩
  · rcases List.mem_cons.1 hu with rfl | hu
    · exact hy
    · rcases List.mem_cons.1 hu with rfl | hu
      · exact hz
      · exact h.holds u (by simp [hu])
  · rcases List.mem_cons.1 hu with rfl | hu
    · exact gy
    · rcases List.mem_cons.1 hu with rfl | hu
      · exact gz
      · exact h.good u (by simp [hu])
  · rcases List.mem_cons.1 hu with rfl | hu
    · exact h.new x (by simp) k (hF k (.inl hk))
    · rcases List.mem_cons.1 hu with rfl | hu
      · exact h.new x (by simp) k (hF k (.inr hk))
      · exact h.new u (by simp [hu]) k hk
  · rcases List.mem_cons.1 hu with rfl | hu
    · exact hd k hk hku
    · exact hap.1 u hu k (hF k (.inl hk)) hku
  · exact hap.1 u hu k (hF k (.inr hk)) hku
/-- the array of a slice of files, without their bytes -/
def Ent.heads (v : Value) (l : List LF) : Ent := ⟨(sblk v).toList, fun w => OC w 3 106 v l.length (l.flatMap LF.enc)⟩
theorem good_heads (v : Value) (l : List LF) : (Ent.heads v l).Good := ⟨fun h hk => OC.keep h fun b hb => hk b (by simp [Ent.heads, hb]), fun h k hk => OC.lt h (by simpa [Ent.heads] using hk)⟩
/-- two files: their array and the bytes of each -/
theorem Many.files2 {v : Value} {f g : LF} (h : Many W w (Ent.files v [f, g] :: L)) : Many W w (Ent.heads v [f, g] :: Ent.bytes f.sv f.bytes :: Ent.bytes g.sv g.bytes :: L) := by
  have hf : FilesAt w v [f, g] := h.first
  have hnd := hf.nodup
  have hn2 : ((sblk v).toList ++ ((sblk f.sv).toList ++ (sblk g.sv).toList)).Nodup := by simpa [lblks, LF.blk] using hnd
  obtain ⟨-, h2, h3⟩ := List.nodup_append.1 hn2
  obtain ⟨-, -, h5⟩ := List.nodup_append.1 h2
  have m1 : Many W w (Ent.files v [f, g] :: L) := h
  let r : Ent := ⟨(sblk f.sv).toList ++ (sblk g.sv).toList, fun w => OB w 5 f.sv f.bytes ∧ OB w 5 g.sv g.bytes⟩
  have gr : r.Good := ⟨fun h hk => ⟨OC.keep h.1 fun b hb => hk b (by simp [r, hb]), OC.keep h.2 fun b hb => hk b (by simp [r, hb])⟩,
    fun h k hk => (List.mem_append.1 hk).elim (fun hk => OC.lt h.1 (by simpa using hk)) (fun hk => OC.lt h.2 (by simpa using hk))⟩
  have m2 : Many W w (Ent.heads v [f, g] :: r :: L) := m1.split hf.sl ⟨hf.each f (by simp), hf.each g (by simp)⟩ (good_heads _ _) gr
    (fun k hk => by
      show k ∈ lblks v [f, g]
      have : k ∈ (sblk v).toList ++ ((sblk f.sv).toList ++ (sblk g.sv).toList) := List.mem_append.2 hk
      simpa [lblks, LF.blk] using this)
    (fun k hk hk' => h3 k hk k hk' rfl)
  have m3 := (m2.swap12.split (y := Ent.bytes f.sv f.bytes) (z := Ent.bytes g.sv g.bytes) (hf.each f (by simp)) (hf.each g (by simp)) (good_bytes _ _) (good_bytes _ _) (fun k hk => List.mem_append.2 hk) (fun k hk hk' => h5 k hk k hk' rfl))
  exact m3.front3
end
end Go.Proofs
