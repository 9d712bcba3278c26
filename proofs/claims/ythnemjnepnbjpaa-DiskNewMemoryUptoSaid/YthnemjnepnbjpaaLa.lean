/- What the disk laws' loops share: a script's ops in a later world, one op's cells; files' cells. Conditions: each law's own. -/
import Derived.Test.YthnemjnepnbjpaaAs
import Derived.Test.YthnemjnepnbjpaaDp
namespace Go.Proofs
open Go.RowKit Go.Hp Go.Dm Go.Dr
set_option linter.unusedVariables false

theorem flat_at {α β : Type} {f : α → List β} {k : Nat} (hk : ∀ x, (f x).length = k) : ∀ {l : List α} {i : Nat} {x : α} {r : Nat} {u : β}, l[i]? = some x → (f x)[r]? = some u → (l.flatMap f)[i * k + r]? = some u
  | [], i, x, r, u, h, _ => by simp at h
  | y :: l, 0, x, r, u, h, h2 => by
    obtain rfl : y = x := by simpa using h
    have hr : r < k := by rw [← hk y]; exact (List.getElem?_eq_some_iff.1 h2).1
    rw [List.flatMap_cons, Nat.zero_mul, Nat.zero_add, List.getElem?_append_left (by rw [hk]; exact hr)]
    exact h2
  | y :: l, i + 1, x, r, u, h, h2 => by
    rw [List.flatMap_cons, List.getElem?_append_right (by rw [hk, Nat.add_mul]; omega), hk, show (i + 1) * k + r - k = i * k + r by rw [Nat.add_mul]; omega]
    exact flat_at hk (by simpa using h) h2

theorem OpsAt.chg {w w' : World} {v : Value} {ops : List (OpP × Value)} (h : OpsAt w v ops) (hc : Chg (fun _ => False) w w') : OpsAt w' v ops :=
  ⟨RC.chg h.row hc fun _ _ h => h, fun y hy => ⟨(h.each y hy).1, RC.chg (h.each y hy).2 hc fun _ _ h => h⟩, h.len⟩

/-- one op of a script, as it lies -/
theorem OpsAt.op {w : World} {p : Option Addr} {n c : Nat} {ops : List (OpP × Value)} (h : OpsAt w (.slice p n c) ops) {k : Nat} (hk : k < ops.length) :
    ∃ b off y py cy, p = some ⟨b, off, none⟩ ∧ b < w.heap.size ∧ ops[k]? = some y ∧ y.2 = .slice py y.1.b.length cy ∧ y.1.b.length ≤ cy ∧ y.1.Ok ∧ RB w y.2 y.1.b ∧
      w.cell? ⟨b, off + k * 5, none⟩ = some (.int .i64 y.1.kind) ∧ w.cell? ⟨b, off + k * 5 + 1, none⟩ = some (.string y.1.name) ∧ w.cell? ⟨b, off + k * 5 + 2, none⟩ = some y.2 ∧
      w.cell? ⟨b, off + k * 5 + 3, none⟩ = some (.int .i64 y.1.n) ∧ w.cell? ⟨b, off + k * 5 + 4, none⟩ = some (.int .i64 y.1.m) := by
  obtain ⟨p', c', he, hnc, -, hblk⟩ := h.row
  obtain ⟨rfl, rfl, rfl⟩ : p = p' ∧ n = ops.length ∧ c = c' := by simpa only [Value.slice.injEq] using he
  obtain ⟨b, off, arr, t, fz, rfl, hh, hx⟩ := hblk (by omega)
  obtain ⟨y, hy⟩ : ∃ y, ops[k]? = some y := ⟨_, List.getElem?_eq_getElem hk⟩
  have hcell : ∀ r u, (opC y)[r]? = some u → w.cell? ⟨b, off + k * 5 + r, none⟩ = some u := fun r u hu => by
    rw [hcell_of hh, Nat.add_assoc]
    exact hx (k * 5 + r) u (flat_at (f := opC) (k := 5) (fun _ => rfl) hy hu)
  obtain ⟨hyok, hyb⟩ := h.each y (List.mem_of_getElem? hy)
  obtain ⟨py, cy, hyv, hle, -⟩ := id hyb
  exact ⟨b, off, y, py, cy, rfl, hlt_of hh, hy, hyv, hle, hyok, hyb, hcell 0 _ rfl, hcell 1 _ rfl, hcell 2 _ rfl, hcell 3 _ rfl, hcell 4 _ rfl⟩

theorem len_lf : ∀ x : LF, x.enc.length = 3 := fun _ => rfl

/-- one file of a slice of files, as it lies -/
theorem FilesAt.file {w : World} {p : Option Addr} {n c : Nat} {l : List LF} (h : FilesAt w (.slice p n c) l) {k : Nat} (hk : k < l.length) :
    ∃ b x, p = some ⟨b, 0, none⟩ ∧ l[k]? = some x ∧ OB w 5 x.sv x.bytes ∧ x.bytes.length ≤ x.cap ∧
      w.cell? ⟨b, k * 3, none⟩ = some (.string x.name) ∧ w.cell? ⟨b, k * 3 + 1, none⟩ = some x.sv ∧ w.cell? ⟨b, k * 3 + 2, none⟩ = some (.int .i64 (x.sure : Int)) := by
  obtain ⟨p', c', he, hnc, -, -, hblk⟩ := h.sl
  obtain ⟨rfl, rfl, rfl⟩ : p = p' ∧ n = l.length ∧ c = c' := by simpa only [Value.slice.injEq] using he
  obtain ⟨b, arr, rfl, hh, hs, hx⟩ := hblk (by omega)
  obtain ⟨x, hxk⟩ : ∃ x, l[k]? = some x := ⟨_, List.getElem?_eq_getElem hk⟩
  have hcell : ∀ r u, x.enc[r]? = some u → w.cell? ⟨b, k * 3 + r, none⟩ = some u := fun r u hu => by
    rw [hcell_of hh]
    have h1 := flat_at (f := LF.enc) (k := 3) len_lf hxk hu
    rw [← hx, List.getElem?_take] at h1
    split at h1
    · simpa using h1
    · cases h1
  have hob := h.each x (List.mem_of_getElem? hxk)
  obtain ⟨p2, c2, e2, hle, -⟩ := id hob
  obtain ⟨-, -, rfl⟩ : x.p = p2 ∧ True ∧ x.cap = c2 := by
    have : x.p = p2 ∧ x.cap = c2 := by simpa [LF.sv] using e2
    exact ⟨this.1, trivial, this.2⟩
  exact ⟨b, x, rfl, hxk, hob, hle, hcell 0 _ rfl, hcell 1 _ rfl, hcell 2 _ rfl⟩

theorem total_append (a b : List Fl) : total (a ++ b) = total a + total b := by simp [total]
theorem total_take_le (l : List Fl) (k : Nat) : total (l.take k) ≤ total l := by
  have h := total_append (l.take k) (l.drop k)
  rw [List.take_append_drop] at h
  omega
theorem total_take_succ {l : List Fl} {k : Nat} {x : Fl} (h : l[k]? = some x) : total (l.take (k + 1)) = total (l.take k) + x.bytes.length := by
  obtain ⟨hk, rfl⟩ := List.getElem?_eq_some_iff.1 h
  rw [List.take_succ_eq_append_getElem hk, total_append]
  simp [total]
theorem lenOf_sum (l : List LF) : total (l.map LF.fl) = (l.map fun x => x.bytes.length).sum := by
  simp [total, Function.comp_def, LF.fl]

/-- a block that a call on a disk, and then a call that changes nothing, have left alone -/
theorem keep_block {wr w2 w4 : World} {F F2 : List Nat} {o o2 : Obj} (h2 : Ev F F2 (wr.alloc o) w2) (h4 : Chg (fun _ => False) (w2.alloc o2) w4) {k : Nat} (hk : k < (wr.alloc o).heap.size) (hF : k ∉ F) :
    w4.heap[k]? = (wr.alloc o).heap[k]? := by
  have hs := h2.chg.size
  rw [h4.block k (by simp; simp at hk hs; omega) (fun h => h), halloc_lt (by simp at hk hs; omega), h2.block hk hF]
theorem keep_last {w2 w4 : World} {o2 : Obj} (h4 : Chg (fun _ => False) (w2.alloc o2) w4) : w4.heap[w2.heap.size]? = some o2 := by
  rw [h4.block w2.heap.size (by simp) (fun h => h)]; exact halloc_at w2 o2
/-- what an op did to the bytes in use -/
theorem does_used {D : Dk} (ok : D.Ok) (o : OpP) (h1 : o.kind = 1) :
    ((Dk.does D o).1.e = 0 → (Dk.does D o).2.used = D.used + o.b.length ∧ (Dk.does D o).1.n = o.b.length) ∧
    ((Dk.does D o).1.e = 111 → (Dk.does D o).2.used = D.limit ∧ (Dk.does D o).2.used = D.used + (Dk.does D o).1.n ∧ (Dk.does D o).1.n < o.b.length) := by
  unfold Dk.does
  rw [if_pos h1]
  exact append_used ok o.name o.b
theorem _root_.Go.Hp.Ev.quiet {F F' : List Nat} {a b c : World} (h : Ev F F' a b) (k : Chg (fun _ => False) b c) : Ev F F' a c := ⟨h.chg.trans k fun _ h => h.elim, h.new⟩
/-- an answer bears no more files than the disk -/
theorem does_ans_files (D : Dk) (o : OpP) : (Dk.does D o).1.files.length ≤ D.files.length := by
  have ite_le : ∀ {p : Prop} [Decidable p] {x y : Ans × Dk}, x.1.files.length ≤ D.files.length → y.1.files.length ≤ D.files.length → (if p then x else y).1.files.length ≤ D.files.length := by
    intro p _ x y hx hy
    by_cases h : p
    · rw [if_pos h]; exact hx
    · rw [if_neg h]; exact hy
  unfold Dk.does
  repeat' (refine ite_le ?_ ?_)
  all_goals first | exact Nat.zero_le _ | exact Nat.le_refl _
theorem halloc_size (w : World) (o : Obj) : (w.alloc o).heap.size = w.heap.size + 1 := by simp
theorem chg_ev {w W wr : World} {F : List Nat} {o : Obj} (h : Ev [] F (w.alloc o) wr) : Chg (fun _ => False) w wr :=
  ((Chg.refl (fun _ => False) w).alloc o).trans h.chg fun k hk => (by cases hk)
end Go.Proofs
