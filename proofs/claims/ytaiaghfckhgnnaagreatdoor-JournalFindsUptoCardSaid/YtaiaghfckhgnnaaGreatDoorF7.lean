/- JournalFinds' walk; a script of steps that is handed in: what the reading gives. Conditions: the steps are read, their bytes are at most 1048576; the listed variables lie as they were laid. -/
import Derived.Test.YtaiaghfckhgnnaaGreatDoorF6
import Derived.Test.YtaiaghfckhgnnaaGreatDoorJb
import Derived.Test.YtaiaghfckhgnnaaGreatDoorAr
namespace Go.Proofs
open Go.RowKit Go.Hp Go.Dm Go.Dr Go.Jn Go.ChangeShapes Go.WideShapes Go.Deep
set_option linter.unusedVariables false
set_option maxRecDepth 10000
/-- a step -/
structure StP where
  kind : Int
  b : List UInt8
  n : Int
  m : Int
def stC (y : StP × Value) : List Value := [.int .i64 y.1.kind, y.2, .int .i64 y.1.n, .int .i64 y.1.m]
theorem len_stC : ∀ l : List (StP × Value), (l.flatMap stC).length = l.length * 4
  | [] => rfl
  | y :: l => by rw [List.flatMap_cons, List.length_append, len_stC l, List.length_cons]; simp only [stC, List.length_cons, List.length_nil]; omega
/-- a script of steps lies at v -/
structure StepsAt (w : World) (v : Value) (l : List (StP × Value)) : Prop where
  row : RC w 4 v l.length (l.flatMap stC)
  each : ∀ y ∈ l, y.1.b.length ≤ 1048576 ∧ RB w y.2 y.1.b
  len : l.length ≤ 1048576
theorem StepsAt.chg {w w' : World} {v : Value} {l : List (StP × Value)} (h : StepsAt w v l) (hc : Chg (fun _ => False) w w') : StepsAt w' v l :=
  ⟨RC.chg h.row hc fun _ _ h => h, fun y hy => ⟨(h.each y hy).1, RC.chg (h.each y hy).2 hc fun _ _ h => h⟩, h.len⟩
theorem StepsAt.step {w : World} {p : Option Addr} {n c : Nat} {l : List (StP × Value)} (h : StepsAt w (.slice p n c) l) {k : Nat} (hk : k < l.length) :
    ∃ b off y py cy, p = some ⟨b, off, none⟩ ∧ l[k]? = some y ∧ y.2 = .slice py y.1.b.length cy ∧ y.1.b.length ≤ 1048576 ∧ RB w y.2 y.1.b ∧ n ≤ c ∧
      w.cell? ⟨b, off + k * 4, none⟩ = some (.int .i64 y.1.kind) ∧ w.cell? ⟨b, off + k * 4 + 1, none⟩ = some y.2 ∧ w.cell? ⟨b, off + k * 4 + 2, none⟩ = some (.int .i64 y.1.n) ∧ w.cell? ⟨b, off + k * 4 + 3, none⟩ = some (.int .i64 y.1.m) := by
  obtain ⟨p', c', he, hnc, -, hblk⟩ := h.row
  obtain ⟨rfl, rfl, rfl⟩ : p = p' ∧ n = l.length ∧ c = c' := by simpa only [Value.slice.injEq] using he
  obtain ⟨b, off, arr, t, fz, rfl, hh, hx⟩ := hblk (by omega)
  obtain ⟨y, hy⟩ : ∃ y, l[k]? = some y := ⟨_, List.getElem?_eq_getElem hk⟩
  have hcell : ∀ r u, (stC y)[r]? = some u → w.cell? ⟨b, off + k * 4 + r, none⟩ = some u := fun r u hu => by
    rw [hcell_of hh, Nat.add_assoc]
    exact hx (k * 4 + r) u (flat_at (f := stC) (k := 4) (fun _ => rfl) hy hu)
  obtain ⟨hyok, hyb⟩ := h.each y (List.mem_of_getElem? hy)
  obtain ⟨py, cy, hyv, hle, -⟩ := id hyb
  exact ⟨b, off, y, py, cy, rfl, hy, hyv, hyok, hyb, hnc, hcell 0 _ rfl, hcell 1 _ rfl, hcell 2 _ rfl, hcell 3 _ rfl⟩
section
variable {H : Type} {enc : TypeId × Value → H} {w : World} {base : Nat} {held : Bool}
theorem list4 {α : Type} {l : List α} (h : l.length = 4) : ∃ a b c d, l = [a, b, c, d] := by
  match l, h with
  | [a, b, c, d], _ => exact ⟨a, b, c, d, rfl⟩
theorem one3s : Tryz.prog.cellsOf 3 = 1 := by kernel_rfl
theorem one22s : Tryz.prog.cellsOf 23 = 1 := by kernel_rfl
theorem four44 : Tryz.prog.cellsOf 44 = 4 := by kernel_rfl
theorem flat_get4 {α β : Type} {f : α → List β} {k : Nat} (hk : ∀ x, (f x).length = k) : ∀ (l : List α) (j : Nat) (u : β), (l.flatMap f)[j]? = some u → ∃ i x r, l[i]? = some x ∧ (f x)[r]? = some u ∧ j = i * k + r ∧ r < k
  | [], j, u, h => by simp at h
  | x :: l, j, u, h => by
    rw [List.flatMap_cons] at h
    by_cases hj : j < k
    · rw [List.getElem?_append_left (by rw [hk]; exact hj)] at h
      exact ⟨0, x, j, rfl, h, by omega, hj⟩
    · rw [List.getElem?_append_right (by rw [hk]; omega), hk] at h
      obtain ⟨i, y, r, h1, h2, h3, h4⟩ := flat_get4 hk l (j - k) u h
      exact ⟨i + 1, y, r, by simpa using h1, h2, by rw [Nat.add_mul]; omega, h4⟩
theorem step_of_trod {cs : List Value} {fuel : Nat} {x : DataW H × List MemPlace} (h : DataW.trod enc Tryz.prog w base (fun _ => true) held fuel 44 cs = some x) (hk : YtaiaghfckhgnnaaGreatDoor.Rows.uptoBulk x.1 ≤ 1048576) :
    ∃ (o : StP) (bv : Value), cs = [.int .i64 o.kind, bv, .int .i64 o.n, .int .i64 o.m] ∧ o.b.length ≤ 1048576 ∧ RB w bv o.b := by
  obtain ⟨xs, n, rfl, rfl, hcl, hxl, hf⟩ := DataW.trod_struct Tryz.underlying44 h
  rw [four44] at hcl
  obtain ⟨c0, c1, c2, c3, rfl⟩ := list4 hcl
  obtain ⟨x0, x1, x2, x3, rfl⟩ := list4 (l := xs) hxl
  have h0 : DataW.trod enc Tryz.prog w base (fun _ => true) held n 3 [c0] = some x0 := by have := hf 0 _ rfl; simpa [one3s] using this
  have h1 : DataW.trod enc Tryz.prog w base (fun _ => true) held n 23 [c1] = some x1 := by have := hf 1 _ rfl; simpa [one22s] using this
  have h2 : DataW.trod enc Tryz.prog w base (fun _ => true) held n 3 [c2] = some x2 := by have := hf 2 _ rfl; simpa [one3s] using this
  have h3 : DataW.trod enc Tryz.prog w base (fun _ => true) held n 3 [c3] = some x3 := by have := hf 3 _ rfl; simpa [one3s] using this
  obtain ⟨k, e0, rfl, w0⟩ := DataW.trod_int Tryz.underlying3 h0
  obtain ⟨l, hl, hlb⟩ := rb_of_trod h1
  obtain ⟨a, e3, rfl, w3⟩ := DataW.trod_int Tryz.underlying3 h2
  obtain ⟨b, e4, rfl, w4⟩ := DataW.trod_int Tryz.underlying3 h3
  obtain rfl : c0 = .int .i64 k := by simpa using e0
  obtain rfl : c2 = .int .i64 a := by simpa using e3
  obtain rfl : c3 = .int .i64 b := by simpa using e4
  have hb : l.length ≤ 1048576 := by
    simp only [List.map_cons, List.map_nil, YtaiaghfckhgnnaaGreatDoor.Rows.uptoBulk, YtaiaghfckhgnnaaGreatDoor.Rows.uptoBulkAll] at hk
    omega
  exact ⟨⟨k, l, a, b⟩, c1, rfl, hb, hl⟩
theorem steps_of_trod {v : Value} {fuel : Nat} {x : DataW H × List MemPlace} (h : DataW.trod enc Tryz.prog w base (fun _ => true) held fuel 62 [v] = some x) (hk : YtaiaghfckhgnnaaGreatDoor.Rows.uptoBulk x.1 ≤ 1048576) :
    ∃ l : List (StP × Value), StepsAt w v l := by
  have hge : ∀ l : List (DataW H), l.length ≤ YtaiaghfckhgnnaaGreatDoor.Rows.uptoBulkAll l := by
    intro l
    induction l with
    | nil => simp [YtaiaghfckhgnnaaGreatDoor.Rows.uptoBulkAll]
    | cons x r ih =>
      have h1 : 1 ≤ YtaiaghfckhgnnaaGreatDoor.Rows.uptoBulk x := by cases x with
        | lit l => cases l <;> simp [YtaiaghfckhgnnaaGreatDoor.Rows.uptoBulk]
        | _ => simp [YtaiaghfckhgnnaaGreatDoor.Rows.uptoBulk]
      simp only [YtaiaghfckhgnnaaGreatDoor.Rows.uptoBulkAll, List.length_cons]; omega
  have hpart : ∀ (l : List (DataW H)) d, d ∈ l → YtaiaghfckhgnnaaGreatDoor.Rows.uptoBulk d ≤ YtaiaghfckhgnnaaGreatDoor.Rows.uptoBulkAll l := by
    intro l
    induction l with
    | nil => intro d hd; cases hd
    | cons x r ih =>
      intro d hd
      simp only [YtaiaghfckhgnnaaGreatDoor.Rows.uptoBulkAll]
      rcases List.mem_cons.1 hd with rfl | hd
      · omega
      · have := ih d hd; omega
  rcases open_slice Tryz.underlying62 h with ⟨hv, rfl⟩ | ⟨a, len, cap, m, n, D, Pl, hv, hb, hl, hm, hmm, rfl, hi⟩
  · obtain rfl : v = .slice none 0 0 := by simpa using hv
    exact ⟨[], rc_nil w 4, fun y hy => (by cases hy), by simp⟩
  · obtain rfl : v = .slice (some a) len cap := by simpa using hv
    simp only [if_true] at hmm
    subst hmm
    simp only [YtaiaghfckhgnnaaGreatDoor.Rows.uptoBulk] at hk
    have hlen : len ≤ 1048576 := by have := hge ((List.range len).map D); simp at this; omega
    obtain ⟨l, hll, hq⟩ := exists_list (Q := fun i (y : StP × Value) => (∀ r u, (stC y)[r]? = some u → w.cell? ((a.add (i * 4)).add r) = some u) ∧ y.1.b.length ≤ 1048576 ∧ RB w y.2 y.1.b) len (fun i hil => by
      obtain ⟨cs', hc, ht⟩ := hi i (by omega)
      rw [four44] at hc
      obtain ⟨-, hcl, hat⟩ := World.cells?_some hc
      have hbk : YtaiaghfckhgnnaaGreatDoor.Rows.uptoBulk (D i) ≤ 1048576 := by
        have := hpart ((List.range len).map D) (D i) (List.mem_map_of_mem (List.mem_range.2 hil))
        omega
      obtain ⟨o, bv, rfl, ok, hrb⟩ := step_of_trod ht hbk
      refine ⟨(o, bv), fun r u hu => ?_, ok, hrb⟩
      have hr : r < 4 := (List.getElem?_eq_some_iff.1 hu).1
      rw [hat r hr]; exact hu)
    refine ⟨l, ?_, fun y hy => ?_, by omega⟩
    · rw [hll]
      refine ⟨some a, _, rfl, hl, ?_, fun hcap => ?_⟩
      · rw [len_stC, hll]
      · obtain ⟨cs0, hc0, -⟩ := hi 0 (Nat.pos_of_ne_zero hcap)
        rw [four44] at hc0
        obtain ⟨-, hcl0, hat0⟩ := World.cells?_some hc0
        have h00 : w.cell? (a.add 0) = some (cs0[0]'(by omega)) := by
          have := hat0 0 (by omega)
          rw [List.getElem?_eq_getElem (by omega)] at this
          have e0 : (a.add (0 * 4)).add 0 = a.add 0 := by simp [Addr.add]
          rw [e0] at this; exact this
        obtain ⟨hs, arr, t, fz, hh⟩ := block_of_cell h00
        refine ⟨a.block, a.off, arr, t, fz, by cases a; simp only at hs; subst hs; rfl, hh, fun j u hu => ?_⟩
        obtain ⟨i, y, r, g1, g2, rfl, g4⟩ := flat_get4 (f := stC) (k := 4) (fun _ => rfl) l j u hu
        have := (hq i y g1).1 r u g2
        rw [add_none hs, add_none rfl, hcell_of hh] at this
        rw [← this, Nat.add_assoc]
    · obtain ⟨i, hi', rfl⟩ := List.getElem_of_mem hy
      exact (hq i _ (List.getElem?_eq_getElem hi')).2
end
section
variable {W w : World} {L : List Ent} {d j : Nat} {D : Dk} {l : List (List UInt8)} {du su kp : Nat} {er : Value} {G : List Nat}
/-- what the disk's file holds is found -/
theorem FJ.range (h : FJ D l su kp) (hne : l ≠ []) : rangeR D nL l 0 l.length = (l, 0, 0) := by
  have h1 : D.files = [⟨nL, fileOf 0 l, atN l su⟩] := h.fl.elim (fun h => absurd h.2 hne) id
  have hk := h.lk
  rw [if_neg (by rw [h1]; simp)] at hk
  have hrd : D.read nL (atN l 0 : Int) ((atN l l.length : Int) - (atN l 0 : Int)) = (fileOf 0 l, 0) := by
    unfold Dk.read
    rw [if_pos hk, h1, atN_zero, atN_all]
    have e1 : lenOf [(⟨nL, fileOf 0 l, atN l su⟩ : Fl)] nL = (fileOf 0 l).length := by simp [lenOf, Dm.get, beqL]
    have e3 : bytesOf [(⟨nL, fileOf 0 l, atN l su⟩ : Fl)] nL = fileOf 0 l := by simp [bytesOf, Dm.get, beqL]
    rw [e1, e3, if_neg (by omega)]
    simp
  unfold rangeR
  rw [hrd, if_neg (by simp), Nat.sub_zero, jgo_whole (fun x hx => by have := h.sml x hx; omega) (by rw [atN_zero, List.drop_zero]) l.length 0 (Nat.le_refl _) (by omega)]
  simp
set_option maxHeartbeats 4000000 in
theorem jrange_none (hm : Many W w (Ent.house d j ⟨D, nL, endsOf l, du, er⟩ G :: L)) (hll : l.length ≤ 2147483647) :
    Calls Tryz.prog 28 #[.pointer (some ⟨j, 0, none⟩), .int .i64 0, .int .i64 0] w fun e w' => e = .returned (.tuple #[.slice none 0 0, .nilIface]) ∧ w = w' := by
  obtain ⟨F, v, hraw, hG⟩ := hm.first
  have g0 := hcell_of (hraw.jrn).head 0
  have g1 := hcell_of (hraw.jrn).head 1
  have g2 := hcell_of (hraw.jrn).head 2
  have g3 := hcell_of (hraw.jrn).head 3
  have g4 := hcell_of (hraw.jrn).head 4
  simp only [List.getElem?_toArray, List.getElem?_cons_zero, List.getElem?_cons_succ] at g0 g1 g2 g3 g4
  obtain ⟨pv, cv, hpv, -⟩ := id hraw.jrn.oc
  obtain ⟨LN, hLN⟩ : ∃ LN, LN = (endsOf l).length := ⟨_, rfl⟩
  rw [hpv, show ({ D := D, nm := nL, es := endsOf l, du := du, er := er } : Hs).es.length = LN from hLN.symm] at g2
  have iLN0 : (0 : Int) ≤ (LN : Int) := by omega
  have dd3 : decide ((LN : Int) < 0) = false := decide_eq_false (by omega)
  clear hm hll hraw hG hpv hLN g0 g1 g3 g4
  go_enter Tryz.func28, Tryz.ntmps28
  go_wp2
  go_ret2
  exact ⟨by simp, rfl⟩
end
section
variable {w : World} {ops : List (StP × Value)} {p : Option Addr} {c : Nat}
set_option maxHeartbeats 64000000 in
theorem finds_walk (hg : Gl w) (ho : StepsAt w (.slice p ops.length c) ops) :
    Calls Tryz.prog 6 #[.slice p ops.length c] w fun e w' => e = .returned (.bool true) ∧ Chg (fun _ => False) w w' := by
  have HHO := Lib.hid (house_any (Many.nil w))
  have HG := Lib.hid hg
  have hol := ho.len
  obtain ⟨N, hN⟩ : ∃ N, N = ops.length := ⟨_, rfl⟩
  rw [← hN] at ho ⊢
  have HO := Lib.hid (And.intro ho hN)
  have iN : (N : Int) ≤ 1048576 := by omega
  clear hg ho hol hN
  go_enter Tryz.func6, Tryz.ntmps6
  go_wp2_with (first | (go_at_call 15; refine stop ?_))
  refine go ?_
  refine HHO.out.mono ?_
  rintro e w1 ⟨hb, d, j, G, rfl, m1⟩
  have m2 : Many w w1 (Ent.box hb (houseO d j (.slice none 0 0) 0 (.slice none 0 0) ((0 : Nat) : Int)) :: Ent.house d j ⟨⟨1048576, [], false, 0, 0⟩, nL, endsOf (([] : List LF).map LF.bytes), 0, .nilIface⟩ G :: Ent.recs (.slice none 0 0) [] :: []) := (m1.add (y := Ent.recs (.slice none 0 0) []) (Chg.refl _ _) (Recs.nil _) (good_recs _ _) (by simp [Ent.recs, rblks, sblk])).back3
  have L2 : Hid (Lives w w1 hb 0) := Lib.hid ⟨d, j, none, 0, [], _, G, 0, 0, FJ.start, by omega, Nat.le_refl _, m2⟩
  clear m1 m2
  go_wp2
  go_loopw [4, 5] (fun t4 t5 wr => t4 = .bool true ∧ ∃ i : Nat, t5 = .int .i64 (i : Int) ∧ i ≤ N ∧ i ≤ 40 ∧ Lives w wr hb i) (fun _ t5 _ => N - (Lib.intOf t5).toNat)
  case atStart => exact ⟨rfl, 0, rfl, Nat.zero_le _, Nat.zero_le _, L2.out⟩
  case round =>
    obtain ⟨rfl, i, rfl, hi, hi40, hL⟩ := hrel
    have HL := Lib.hid (And.intro hL (And.intro hi hi40))
    have ii0 : (0 : Int) ≤ (i : Int) := by omega
    have ii40 : (i : Int) ≤ 40 := by omega
    have hchg : Chg (fun _ => False) w wr := by obtain ⟨d, j, hp, hc, hs, D, G, su, kp, h1, h2, h3, h4⟩ := hL; exact h4.chg
    have HC := Lib.hid hchg
    clear hL hchg
    by_cases hlt : (i : Int) < (N : Int) ∧ (i : Int) < 40
    · have d1 : decide ((i : Int) < (N : Int)) = true := decide_eq_true hlt.1
      have d1n : decide (i < N) = true := decide_eq_true (by omega)
      have d2 : decide ((i : Int) < 40) = true := decide_eq_true hlt.2
      obtain ⟨b, off, y, py, cy, rfl, hy, hyv, hyl, hyb, hnc, p0, p1, p2, p3⟩ := (HO.out.1.chg HC.out).step (k := i) (by have := HO.out.2; omega)
      have hyb0 : RB w y.2 y.1.b := (HO.out.1.each y (List.mem_of_getElem? hy)).2
      rw [hyv] at p1 hyb0
      have hpl := plays_any y.1.kind y.1.n y.1.m HG.out HL.out.1 (by have := HL.out.2.2; omega) hyb0 hyl
      have HPL := Lib.hid hpl
      have inc : (N : Int) ≤ (c : Int) := by omega
      have HYV := Lib.hid hyv
      have hlt1 := hlt.1
      have hlt2 := hlt.2
      clear hy hyv hyl hyb hnc hyb0 hpl hlt
      go_wp2_with (first | (go_at_call 27; refine stop ?_))
      refine go ?_
      refine HPL.out.mono ?_
      rintro e w5 ⟨rfl, hL5⟩
      have L5 := Lib.hid hL5
      clear hL5 p0 p1 p2 p3
      go_wp2
      go_roundw
      case rel => exact ⟨by trivial, i + 1, by go_num, by omega, by omega, L5.out⟩
      case measure => simp [Lib.intOf]; omega
    · obtain ⟨d, j, hp, hc, hs, D, G, su, kp, hJ, hkp, hsn, hm⟩ := HL.out.1
      have hbx := hm.first
      dsimp only [Ent.box, houseO] at hbx
      have g0 := hcell_of hbx 0
      have g1 := hcell_of hbx 1
      have g2 := hcell_of hbx 2
      simp only [List.getElem?_toArray, List.getElem?_cons_zero, List.getElem?_cons_succ] at g0 g1 g2
      have hmd := hm.quiet ((Chg.refl (fun _ => False) wr).drew)
      obtain ⟨F1, v1, hraw1, hG1⟩ := hmd.swap12.first
      have hle := jlen_any hraw1.jrn
      have hfi := hJ.fit (by rw [List.length_map]; omega)
      simp only [endsOf_len, List.length_map] at hle
      have HLE := Lib.hid hle
      have hrc : Calls Tryz.prog 28 #[.pointer (some ⟨j, 0, none⟩), .int .i64 0, .int .i64 (hs.length : Int)] wr.drew fun e w' => ∃ rv ls, e = .returned (.tuple #[rv, .nilIface]) ∧ ls.map LF.bytes = hs.map LF.bytes ∧
          Many w w' (Ent.recs rv ls :: Ent.house d j ⟨D, nL, endsOf (hs.map LF.bytes), su, .nilIface⟩ G :: Ent.box hb (houseO d j (.slice hp hs.length hc) su (.slice none 0 0) (kp : Int)) :: Ent.recs (.slice hp hs.length hc) hs :: []) := by
        by_cases hne : hs = []
        · have h := jrange_none hmd.swap12 (by rw [List.length_map]; omega)
          rw [hne]
          refine h.mono ?_
          rintro e w' ⟨rfl, rfl⟩
          refine ⟨_, [], rfl, rfl, ?_⟩
          have m := hmd.swap12
          rw [hne] at m
          exact m.add (y := Ent.recs (.slice none 0 0) []) (Chg.refl _ _) (Recs.nil _) (good_recs _ _) (by simp [Ent.recs, rblks, sblk])
        · have hne2 : hs.map LF.bytes ≠ [] := fun e => hne (List.map_eq_nil_iff.1 e)
          have hpos : 0 < hs.length := List.length_pos_iff.2 hne
          have h := jrange_any HG.out hmd.swap12 (show nL.size ≤ maxLen by decide) (by rw [List.length_map]; omega) (by omega) (lo := 0) (hi := (hs.map LF.bytes).length) (by rw [List.length_map]; exact hpos) (Nat.le_refl _) (hJ.range hne2)
          rw [List.length_map] at h
          refine h.mono ?_
          rintro e w' (⟨-, rv, ls, rfl, hls, m⟩ | ⟨h, -⟩)
          · exact ⟨rv, ls, rfl, hls, m⟩
          · exact absurd rfl h
      have HRC := Lib.hid hrc
      have HJ := Lib.hid (And.intro hJ (And.intro hkp (And.intro hsn (And.intro hi40 hi))))
      have ihl : (hs.length : Int) ≤ 40 := by omega
      clear hJ hkp hsn hm hbx hmd hraw1 hG1 hle hfi hrc
      have htest : (decide ((i : Int) < (N : Int)) = false) ∨ (decide ((i : Int) < (N : Int)) = true ∧ decide ((i : Int) < 40) = false) := by
        by_cases h1 : (i : Int) < (N : Int)
        · exact .inr ⟨decide_eq_true h1, decide_eq_false fun h2 => hlt ⟨h1, h2⟩⟩
        · exact .inl (decide_eq_false h1)
      clear hlt
      rcases htest with d1 | ⟨d1, d2⟩
      · have hlt1 : ¬ (i : Int) < (N : Int) := of_decide_eq_false d1
        go_wp2
        refine Rx.ws_region (fun w' => w'.cell? ⟨hb, 1, none⟩ = some (.pointer (some ⟨j, 0, none⟩))) [(4, .r), (5, .r), (6, .r), (7, .r), (0, .h), (1, .h), (2, .h), (3, .h), (8, .e), (9, .e), (10, .r), (11, .r), (12, .r), (13, .r), (14, .r)] (by kernel_rfl) (by kernel_rfl) g1 (fun _ _ x _ _ h => (by cases x <;> exact h)) ?_
        iterate 4 (refine Rx.ws_q rfl rfl ?_; go_wp2; refine Rx.atS_mk ?_)
        iterate 4 (refine Rx.ws_h (v := ?_) rfl rfl ?_ ?_; rotate_left; (intro w' hS'; go_simp; try with_reducible rfl))
        refine Rx.ws_e rfl ?_
        go_wp2_with (first | (go_at_call 25; refine stop ?_))
        refine go ?_
        refine HLE.out.mono ?_
        rintro e w' ⟨rfl, rfl⟩
        go_wp2
        refine ⟨(by exact g1), ?_⟩
        refine Rx.ws_e rfl ?_
        go_wp2_with (first | (go_at_call 28; refine stop ?_))
        refine go ?_
        refine HRC.out.mono ?_
        rintro e w2 ⟨rv, ls, rfl, hls, m2⟩
        obtain ⟨pr, cr, rfl, -⟩ := id (show Recs w2 rv ls from m2.first).oc
        have hbx := m2.get (x := Ent.box hb (houseO d j (.slice hp hs.length hc) su (.slice none 0 0) (kp : Int))) (by simp)
        dsimp only [Ent.box, houseO] at hbx
        have k1 := hcell_of hbx 1
        simp only [List.getElem?_toArray, List.getElem?_cons_zero, List.getElem?_cons_succ] at k1
        have M2 := Lib.hid (And.intro m2 hls)
        have HK1 := Lib.hid k1
        clear m2 hls hbx k1
        go_wp2
        refine ⟨(by exact HK1.out), ?_⟩
        iterate 5 (refine Rx.ws_q rfl rfl ?_; go_wp2; refine Rx.atS_mk ?_)
        refine Rx.ws_nil ?_
        clear g0 g1 g2
        have hbx := M2.out.1.get (x := Ent.box hb (houseO d j (.slice hp hs.length hc) su (.slice none 0 0) (kp : Int))) (by simp)
        dsimp only [Ent.box, houseO] at hbx
        have g2 := hcell_of hbx 2
        simp only [List.getElem?_toArray, List.getElem?_cons_zero, List.getElem?_cons_succ] at g2
        have hrl : Recs w2 (.slice pr ls.length cr) ls := M2.out.1.first
        have hrh : Recs w2 (.slice hp hs.length hc) hs := M2.out.1.get (x := Ent.recs (.slice hp hs.length hc) hs) (by simp)
        have heq := eqAll_same hrl.rows hrh.rows M2.out.2 (by have := congrArg List.length M2.out.2; rw [List.length_map, List.length_map] at this; omega)
        have HEQ := Lib.hid heq
        clear hbx hrl hrh heq
        go_wp2_with (first | (go_at_call 12; refine stop ?_))
        refine go ?_
        refine HEQ.out.mono ?_
        rintro e w3 ⟨rfl, c3⟩
        have m3 := (M2.out.1.quiet c3).tail.swap12
        obtain ⟨F3, m4⟩ := m3.swap12.unhouse
        have hbx := m3.first
        dsimp only [Ent.box, houseO] at hbx
        have k0 := hcell_of hbx 0
        simp only [List.getElem?_toArray, List.getElem?_cons_zero, List.getElem?_cons_succ] at k0
        have harm := arm_any ((0 : Nat) : Int) ((0 : Nat) : Int) (by decide) (by decide) (by decide) m4.first
        obtain ⟨ha1, ha2⟩ := HJ.out.1.armed 0 0
        rw [ha1] at harm
        simp only [show ((0 : Nat) : Int) = 0 from rfl] at harm
        have HARM := Lib.hid harm
        have HA2 := Lib.hid ha2
        have M4 := Lib.hid m4
        clear c3 m3 m4 hbx harm ha1 ha2 g2
        go_wp2_with (first | (go_at_call 29; refine stop ?_))
        refine go ?_
        refine HARM.out.mono ?_
        rintro e w6 ⟨rfl, h6, v6⟩
        obtain ⟨F6, m6⟩ := M4.out.left ⟨F3, h6, v6⟩
        have hbx := m6.swap12.first
        dsimp only [Ent.box, houseO] at hbx
        have g2 := hcell_of hbx 2
        simp only [List.getElem?_toArray, List.getElem?_cons_zero, List.getElem?_cons_succ] at g2
        have hop := openw_len HG.out m6.swap12 HA2.out (by show (0 : Nat) ≠ 1; decide) HJ.out.2.1 (by omega)
        have HOP := Lib.hid hop
        clear h6 v6 m6 hbx hop k0
        go_wp2_with (first | (go_at_call 26; refine stop ?_))
        refine go ?_
        refine HOP.out.mono ?_
        rintro e w7 ⟨rfl, hL⟩
        obtain ⟨d7, j7, hp7, hc7, hs7, D7, G7, su7, kp7, h1, h2, h3, h4⟩ := hL
        have HC7 := Lib.hid h4.chg
        clear h1 h2 h3 h4 g2
        go_wp2
        go_ret
        exact ⟨rfl, HC7.out⟩
      · have hlt1 : (i : Int) < (N : Int) := of_decide_eq_true d1
        have hlt2 : ¬ (i : Int) < 40 := of_decide_eq_false d2
        go_wp2
        refine Rx.ws_region (fun w' => w'.cell? ⟨hb, 1, none⟩ = some (.pointer (some ⟨j, 0, none⟩))) [(4, .r), (5, .r), (6, .r), (7, .r), (0, .h), (1, .h), (2, .h), (3, .h), (8, .e), (9, .e), (10, .r), (11, .r), (12, .r), (13, .r), (14, .r)] (by kernel_rfl) (by kernel_rfl) g1 (fun _ _ x _ _ h => (by cases x <;> exact h)) ?_
        iterate 4 (refine Rx.ws_q rfl rfl ?_; go_wp2; refine Rx.atS_mk ?_)
        iterate 4 (refine Rx.ws_h (v := ?_) rfl rfl ?_ ?_; rotate_left; (intro w' hS'; go_simp; try with_reducible rfl))
        refine Rx.ws_e rfl ?_
        go_wp2_with (first | (go_at_call 25; refine stop ?_))
        refine go ?_
        refine HLE.out.mono ?_
        rintro e w' ⟨rfl, rfl⟩
        go_wp2
        refine ⟨(by exact g1), ?_⟩
        refine Rx.ws_e rfl ?_
        go_wp2_with (first | (go_at_call 28; refine stop ?_))
        refine go ?_
        refine HRC.out.mono ?_
        rintro e w2 ⟨rv, ls, rfl, hls, m2⟩
        obtain ⟨pr, cr, rfl, -⟩ := id (show Recs w2 rv ls from m2.first).oc
        have hbx := m2.get (x := Ent.box hb (houseO d j (.slice hp hs.length hc) su (.slice none 0 0) (kp : Int))) (by simp)
        dsimp only [Ent.box, houseO] at hbx
        have k1 := hcell_of hbx 1
        simp only [List.getElem?_toArray, List.getElem?_cons_zero, List.getElem?_cons_succ] at k1
        have M2 := Lib.hid (And.intro m2 hls)
        have HK1 := Lib.hid k1
        clear m2 hls hbx k1
        go_wp2
        refine ⟨(by exact HK1.out), ?_⟩
        iterate 5 (refine Rx.ws_q rfl rfl ?_; go_wp2; refine Rx.atS_mk ?_)
        refine Rx.ws_nil ?_
        clear g0 g1 g2
        have hbx := M2.out.1.get (x := Ent.box hb (houseO d j (.slice hp hs.length hc) su (.slice none 0 0) (kp : Int))) (by simp)
        dsimp only [Ent.box, houseO] at hbx
        have g2 := hcell_of hbx 2
        simp only [List.getElem?_toArray, List.getElem?_cons_zero, List.getElem?_cons_succ] at g2
        have hrl : Recs w2 (.slice pr ls.length cr) ls := M2.out.1.first
        have hrh : Recs w2 (.slice hp hs.length hc) hs := M2.out.1.get (x := Ent.recs (.slice hp hs.length hc) hs) (by simp)
        have heq := eqAll_same hrl.rows hrh.rows M2.out.2 (by have := congrArg List.length M2.out.2; rw [List.length_map, List.length_map] at this; omega)
        have HEQ := Lib.hid heq
        clear hbx hrl hrh heq
        go_wp2_with (first | (go_at_call 12; refine stop ?_))
        refine go ?_
        refine HEQ.out.mono ?_
        rintro e w3 ⟨rfl, c3⟩
        have m3 := (M2.out.1.quiet c3).tail.swap12
        obtain ⟨F3, m4⟩ := m3.swap12.unhouse
        have hbx := m3.first
        dsimp only [Ent.box, houseO] at hbx
        have k0 := hcell_of hbx 0
        simp only [List.getElem?_toArray, List.getElem?_cons_zero, List.getElem?_cons_succ] at k0
        have harm := arm_any ((0 : Nat) : Int) ((0 : Nat) : Int) (by decide) (by decide) (by decide) m4.first
        obtain ⟨ha1, ha2⟩ := HJ.out.1.armed 0 0
        rw [ha1] at harm
        simp only [show ((0 : Nat) : Int) = 0 from rfl] at harm
        have HARM := Lib.hid harm
        have HA2 := Lib.hid ha2
        have M4 := Lib.hid m4
        clear c3 m3 m4 hbx harm ha1 ha2 g2
        go_wp2_with (first | (go_at_call 29; refine stop ?_))
        refine go ?_
        refine HARM.out.mono ?_
        rintro e w6 ⟨rfl, h6, v6⟩
        obtain ⟨F6, m6⟩ := M4.out.left ⟨F3, h6, v6⟩
        have hbx := m6.swap12.first
        dsimp only [Ent.box, houseO] at hbx
        have g2 := hcell_of hbx 2
        simp only [List.getElem?_toArray, List.getElem?_cons_zero, List.getElem?_cons_succ] at g2
        have hop := openw_len HG.out m6.swap12 HA2.out (by show (0 : Nat) ≠ 1; decide) HJ.out.2.1 (by omega)
        have HOP := Lib.hid hop
        clear h6 v6 m6 hbx hop k0
        go_wp2_with (first | (go_at_call 26; refine stop ?_))
        refine go ?_
        refine HOP.out.mono ?_
        rintro e w7 ⟨rfl, hL⟩
        obtain ⟨d7, j7, hp7, hc7, hs7, D7, G7, su7, kp7, h1, h2, h3, h4⟩ := hL
        have HC7 := Lib.hid h4.chg
        clear h1 h2 h3 h4 g2
        go_wp2
        go_ret
        exact ⟨rfl, HC7.out⟩
end
end Go.Proofs
