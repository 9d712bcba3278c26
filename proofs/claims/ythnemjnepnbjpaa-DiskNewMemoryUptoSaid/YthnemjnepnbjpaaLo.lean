/- The law's own: a copy of files that are handed in. Conditions: the files lie as IFiles says. -/
import Derived.Test.YthnemjnepnbjpaaPl
import Derived.Test.YthnemjnepnbjpaaRe
import Derived.Test.YthnemjnepnbjpaaLa
namespace Go.Proofs
open Go.RowKit Go.Hp Go.Dm Go.Dr
set_option linter.unusedVariables false
set_option maxRecDepth 10000

/-- a file that is handed in, as it lies -/
structure LI where
  name : ByteArray
  p : Option Addr
  cap : Nat
  bytes : List UInt8
  sure : Int
def LI.sv (x : LI) : Value := .slice x.p x.bytes.length x.cap
def LI.enc (x : LI) : List Value := [.string x.name, x.sv, .int .i64 x.sure]
def LI.fi (x : LI) : FI := ⟨x.name, x.bytes, x.sure⟩
def LI.Ok (x : LI) : Prop := x.name.size ≤ maxLen ∧ x.bytes.length ≤ 1099511627776 ∧ x.bytes.length ≤ x.cap ∧ -9223372036854775808 ≤ x.sure ∧ x.sure ≤ 9223372036854775807
theorem len_li : ∀ x : LI, x.enc.length = 3 := fun _ => rfl

structure IFiles (w : World) (v : Value) (l : List LI) : Prop where
  row : RC w 3 v l.length (l.flatMap LI.enc)
  each : ∀ x ∈ l, x.Ok ∧ RB w x.sv x.bytes
  len : l.length ≤ 1048576
  sum : total (l.map fun x => x.fi.fl) ≤ 1099511627776
theorem IFiles.chg {w w' : World} {v : Value} {l : List LI} (h : IFiles w v l) (hc : Chg (fun _ => False) w w') : IFiles w' v l :=
  ⟨RC.chg h.row hc fun _ _ h => h, fun y hy => ⟨(h.each y hy).1, RC.chg (h.each y hy).2 hc fun _ _ h => h⟩, h.len, h.sum⟩

/-- one file of these, as it lies -/
theorem IFiles.file {w : World} {p : Option Addr} {n c : Nat} {l : List LI} (h : IFiles w (.slice p n c) l) {k : Nat} (hk : k < l.length) :
    ∃ b off x, p = some ⟨b, off, none⟩ ∧ n = l.length ∧ l.length ≤ c ∧ b < w.heap.size ∧ l[k]? = some x ∧ x.Ok ∧ RB w x.sv x.bytes ∧
      w.cell? ⟨b, off + k * 3, none⟩ = some (.string x.name) ∧ w.cell? ⟨b, off + k * 3 + 1, none⟩ = some x.sv ∧ w.cell? ⟨b, off + k * 3 + 2, none⟩ = some (.int .i64 x.sure) := by
  obtain ⟨p', c', he, hnc, -, hblk⟩ := h.row
  obtain ⟨rfl, rfl, rfl⟩ : p = p' ∧ n = l.length ∧ c = c' := by simpa only [Value.slice.injEq] using he
  obtain ⟨b, off, arr, t, fz, rfl, hh, hx⟩ := hblk (by omega)
  obtain ⟨x, hxk⟩ : ∃ x, l[k]? = some x := ⟨_, List.getElem?_eq_getElem hk⟩
  have hcell : ∀ q u, x.enc[q]? = some u → w.cell? ⟨b, off + k * 3 + q, none⟩ = some u := fun q u hu => by
    rw [hcell_of hh, Nat.add_assoc]
    exact hx (k * 3 + q) u (flat_at (f := LI.enc) (k := 3) len_li hxk hu)
  obtain ⟨h1, h2⟩ := h.each x (List.mem_of_getElem? hxk)
  exact ⟨b, off, x, rfl, rfl, hnc, hlt_of hh, hxk, h1, h2, hcell 0 _ rfl, hcell 1 _ rfl, hcell 2 _ rfl⟩

/-- the copies so far -/
structure OFiles (w0 w : World) (v : Value) (l : List LI) : Prop where
  sl : OC w 3 41 v l.length (l.flatMap LI.enc)
  each : ∀ x ∈ l, x.Ok ∧ OB w 5 x.sv x.bytes ∧ ∀ k, sblk x.sv = some k → sblk v ≠ some k
  low : ∀ k, sblk v = some k → w0.heap.size ≤ k
  chg : Chg (fun _ => False) w0 w
theorem OFiles.given {w0 w : World} {v : Value} {l : List LI} (h : OFiles w0 w v l) (hl : l.length ≤ 1048576) (hs : total (l.map fun x => x.fi.fl) ≤ 1099511627776) : IFiles w v l :=
  ⟨h.sl.rc, fun x hx => ⟨(h.each x hx).1, (h.each x hx).2.1.rc⟩, hl, hs⟩
theorem OFiles.push {w0 w W w4 : World} {v v' : Value} {l : List LI} {x : LI} (h : OFiles w0 w v l) (hW : Chg (fun _ => False) w W) (hxo : x.Ok) (hx : OB W 5 x.sv x.bytes) (hxn : ∀ b, sblk x.sv = some b → w.heap.size ≤ b)
    (ho : OC w4 3 41 v' (l.length + 1) (l.flatMap LI.enc ++ x.enc)) (hc : Chg (fun b => sblk v = some b) W w4) (hb : ∀ b, sblk v' = some b → sblk v = some b ∨ W.heap.size ≤ b) : OFiles w0 w4 v' (l ++ [x]) := by
  have hs := hW.size
  have hs0 := h.chg.size
  have hvlt : ∀ b, sblk v = some b → b < w.heap.size := fun b hb => OC.lt h.sl hb
  have hxl : ∀ b, sblk x.sv = some b → b < W.heap.size := fun b hb => OC.lt hx hb
  refine ⟨?_, fun y hy => ?_, fun k hk => ?_, (h.chg.trans hW fun _ h => h.elim).trans hc fun k hk => .inr (h.low k hk)⟩
  · rw [List.length_append, List.flatMap_append]
    simpa using ho
  · rcases List.mem_append.1 hy with hy | hy
    · obtain ⟨h1, h2, h3⟩ := h.each y hy
      have hlt : ∀ b, sblk y.sv = some b → b < w.heap.size := fun b hb => OC.lt h2 hb
      refine ⟨h1, OC.keep h2 fun b hb => ?_, fun k hk e => ?_⟩
      · rw [hc.block b (by have := hlt b hb; omega) (h3 b hb), hW.block b (hlt b hb) (fun h => h)]
      · rcases hb k e with h' | h'
        · exact h3 k hk h'
        · have := hlt k hk; omega
    · obtain rfl : y = x := by simpa using hy
      refine ⟨hxo, OC.keep hx fun b hb => hc.block b (hxl b hb) fun e => by have := hvlt b e; have := hxn b hb; omega, fun k hk e => ?_⟩
      rcases hb k e with h' | h'
      · have := hvlt k h'; have := hxn k hk; omega
      · have := hxl k hk; omega
  · rcases hb k hk with h' | h'
    · exact h.low k h'
    · omega

section
variable {w w' : World} {l : List LI}

set_option maxHeartbeats 4000000 in
theorem own_any {pi : Option Addr} {ni ci : Nat} (h : IFiles w (.slice pi ni ci) l) :
    Calls Try.prog 40 #[.slice pi ni ci] w fun e w' => ∃ v l', e = .returned v ∧ IFiles w' v l' ∧ l'.map LI.fi = l.map LI.fi ∧ Chg (fun _ => False) w w' := by
  obtain ⟨rfl, hlc, hlen⟩ : ni = l.length ∧ l.length ≤ ci ∧ l.length ≤ 1048576 := by
    obtain ⟨p', c', he, hnc, -⟩ := id h.row
    obtain ⟨rfl, rfl, rfl⟩ : pi = p' ∧ ni = l.length ∧ ci = c' := by simpa only [Value.slice.injEq] using he
    exact ⟨rfl, hnc, h.len⟩
  have hleni : (l.length : Int) ≤ 1048576 := by omega
  have hlci : (l.length : Int) ≤ ci := by omega
  have H := Lib.hid h
  have HLEN := Lib.hid hlen
  clear h hlen hlc
  go_enter Try.func40, Try.ntmps40
  go_wp2
  go_loopw [3, 4] (fun v i wr => ∃ pv nv cv, v = .slice pv nv cv ∧ ∃ (j : Nat) (lf : List LI), i = .int .i64 (j : Int) ∧ j ≤ l.length ∧ lf.map LI.fi = (l.take j).map LI.fi ∧ OFiles w wr (.slice pv nv cv) lf) (fun _ i _ => l.length - (Lib.intOf i).toNat)
  case atStart => exact ⟨none, 0, 0, rfl, 0, [], rfl, Nat.zero_le _, rfl, OC_nil w 3 41, fun x hx => (by cases hx), fun k hk => (by cases hk), Chg.refl _ _⟩
  case round =>
    obtain ⟨pv, nv, cv, rfl, j, lf, rfl, hj, hm, hF⟩ := hrel
    have H1 := Lib.hid (H.out.chg hF.chg)
    have HF := Lib.hid hF
    have HM := Lib.hid hm
    clear hF hm
    by_cases hjl : (j : Int) < l.length
    · obtain ⟨b, off, x, he, -, -, hbl, hx, hxo, hrb, z0, z1, z2⟩ := H1.out.file (k := j) (by omega)
      have hb0 : b < w.heap.size := by obtain ⟨b', off', x', he', -, -, hbl', -⟩ := H.out.file (k := j) (by omega); rw [he] at he'; simp only [Option.some.injEq, Addr.mk.injEq] at he'; omega
      have HB0 := Lib.hid hb0
      clear hb0
      subst he
      have hj0 : (0 : Int) ≤ (j : Int) := by omega
      have e2 : x.sv = .slice x.p x.bytes.length x.cap := rfl
      rw [e2] at z1
      have hcp := fun U (hU : Chg (fun _ => False) wr U) => copied_any (w := U) (by have := hxo.2.1; omega) (RC.chg hrb hU fun _ _ h => h)
      rw [e2] at hcp
      have hlf : lf.length = j := by
        have e1 := congrArg List.length HM.out
        rw [List.length_map, List.length_map, List.length_take] at e1; omega
      have HX := Lib.hid hx
      have HXO := Lib.hid hxo
      have HCP := Lib.hid hcp
      have HLF := Lib.hid hlf
      have HBL := Lib.hid hbl
      clear hx hxo hrb hcp hlf hbl e2
      go_wp2
      refine Rx.wp_region_sched (fun w' => w'.cell? ⟨b, off + j * 3, none⟩ = some (.string x.name) ∧ w'.cell? ⟨b, off + j * 3 + 2, none⟩ = some (.int .i64 x.sure)) [(6, .r), (7, .r), (8, .r), (9, .r), (10, .r), (0, .h), (1, .h), (2, .h), (3, .h), (4, .h), (12, .h), (13, .h), (14, .h), (15, .h), (5, .h), (16, .h), (11, .e), (17, .r), (18, .e), (19, .e), (20, .r)] (by kernel_rfl) (by kernel_rfl) (⟨z0, z2⟩) (fun _ _ x _ _ h => (by cases x <;> exact h)) ?_
      iterate 5 (refine Rx.wpSched_q rfl rfl ?_; go_wp2; refine ⟨rfl, ?_⟩)
      iterate 11 (refine Rx.wpSched_h (v := ?_) rfl rfl ?_ ?_; rotate_left; (intro w' hS'; go_simp; try with_reducible rfl))
      refine Rx.wpSched_e rfl ?_
      go_wp2_with (first | (go_at_call 20; refine stop ?_))
      refine go ?_
      refine (HCP.out _ (by first | exact (Chg.refl (fun _ => False) _).drew | exact Chg.refl _ _)).mono ?_
      rintro e w2 ⟨v2, rfl, o2, c2, n2⟩
      obtain ⟨p2, l2, cc2, rfl⟩ : ∃ p l c, v2 = .slice p l c := (by obtain ⟨p3, cc3, e, -⟩ := id o2; exact ⟨_, _, _, e⟩)
      obtain rfl : l2 = x.bytes.length := OB_len o2
      have hle2 : x.bytes.length ≤ cc2 := (by obtain ⟨p3, cc3, e, h1, -⟩ := id o2; simp only [Value.slice.injEq] at e; omega)
      have c2 : Chg (fun _ => False) wr w2 := (by first | exact ((Chg.refl (fun _ => False) _).drew).trans c2 (fun k hk => hk.elim) | exact c2)
      have k0 : w2.cell? ⟨b, off + j * 3, none⟩ = some (.string x.name) := (World.cell?_of_block (a := ⟨b, off + j * 3, none⟩) (c2.block b HBL.out (fun h => h))).trans z0
      have k2 : w2.cell? ⟨b, off + j * 3 + 2, none⟩ = some (.int .i64 x.sure) := (World.cell?_of_block (a := ⟨b, off + j * 3 + 2, none⟩) (c2.block b HBL.out (fun h => h))).trans z2
      have hb2 : b < w2.heap.size := (by have := c2.size; have := HBL.out; omega)
      have m0 : (w2.alloc (.cells #[.string x.name, .slice p2 x.bytes.length cc2, .int .i64 x.sure] 41)).cell? ⟨b, off + j * 3, none⟩ = some (.string x.name) := (World.cell?_of_block (a := ⟨b, off + j * 3, none⟩) (halloc_lt hb2)).trans k0
      have m2 : (w2.alloc (.cells #[.string x.name, .slice p2 x.bytes.length cc2, .int .i64 x.sure] 41)).cell? ⟨b, off + j * 3 + 2, none⟩ = some (.int .i64 x.sure) := (World.cell?_of_block (a := ⟨b, off + j * 3 + 2, none⟩) (halloc_lt hb2)).trans k2
      have HK := Lib.hid (And.intro k0 k2)
      have HM2 := Lib.hid (And.intro m0 m2)
      have HB2 := Lib.hid hb2
      have HLE2 := Lib.hid hle2
      have O2 := Lib.hid o2
      have C2 := Lib.hid c2
      have N2 := Lib.hid n2
      have HSL2 := Lib.hid (OC.chg HF.out.sl (c2.alloc (.cells #[.string x.name, .slice p2 x.bytes.length cc2, .int .i64 x.sure] 41)) fun _ _ h => h)
      have HRC := Lib.hid (OC_new w2 3 41 #[.string x.name, .slice p2 x.bytes.length cc2, .int .i64 x.sure] 1 1 (by decide) (by unfold maxLen; decide) rfl).rc
      clear o2 c2 n2 k0 k2 m0 m2 hb2 hle2
      go_wp2
      refine ⟨(by exact HK.out), ?_⟩
      (refine Rx.wpSched_q rfl rfl ?_; go_wp2; refine ⟨rfl, ?_⟩)
      refine Rx.wpSched_e rfl ?_
      go_wp2
      refine ⟨(by exact HM2.out), ?_⟩
      refine Rx.wpSched_e rfl ?_
      (obtain ⟨i0, hi, hz0, hz1, hz2⟩ := info_parts info_file)
      refine wpList_append_oc rfl _ _ 38 rfl 41 i0 _ 3 48 Try.underlying38 hi hz0 hz1 hz2 rfl (by decide) rfl rfl HSL2.out HRC.out (by intro u hu; simp at hu; rcases hu with rfl | rfl | rfl <;> rfl) (by decide) (by have := HLF.out; have := HLEN.out; omega) ?_
      intro v' w4 b1 b2 b3 b4
      obtain ⟨pv', cv', rfl, -⟩ := id b1
      have hend := HF.out.push (x := ⟨x.name, p2, cc2, x.bytes, x.sure⟩) (C2.out.alloc (.cells #[.string x.name, .slice p2 x.bytes.length cc2, .int .i64 x.sure] 41)) ⟨HXO.out.1, HXO.out.2.1, HLE2.out, HXO.out.2.2.2.1, HXO.out.2.2.2.2⟩ (OC.chg O2.out ((Chg.refl (fun _ => False) w2).alloc _) fun _ _ h => h) (fun b hb => N2.out b hb) b1 b2 b3
      have hb4 : sblk (.slice pv nv cv) ≠ some b := (fun e => by have h1 := HF.out.low b e; have h2 := HB0.out; omega)
      have hc4 := b2.block b (by have := HB2.out; simp; omega) hb4
      have HS4 := Lib.hid (And.intro ((World.cell?_of_block (a := ⟨b, off + j * 3, none⟩) hc4).trans HM2.out.1) ((World.cell?_of_block (a := ⟨b, off + j * 3 + 2, none⟩) hc4).trans HM2.out.2))
      have HEND := Lib.hid hend
      clear b1 b2 b3 b4 hi hz0 hz1 hz2 hend hb4 hc4
      go_wp2
      refine ⟨(by exact HS4.out), ?_⟩
      (refine Rx.wpSched_q rfl rfl ?_; go_wp2; refine ⟨rfl, ?_⟩)
      refine Rx.wpSched_nil ?_
      have hmm : (lf ++ [(⟨x.name, p2, cc2, x.bytes, x.sure⟩ : LI)]).map LI.fi = (l.take (j + 1)).map LI.fi := by
        rw [List.take_add_one, HX.out, List.map_append, List.map_append, HM.out]; rfl
      have HMM := Lib.hid hmm
      clear hmm
      go_wp2
      go_roundw
      case rel => exact ⟨_, _, _, rfl, j + 1, _, by go_num, by omega, HMM.out, HEND.out⟩
      case measure => simp [Lib.intOf]; omega
    · have hje : l.take j = l := List.take_of_length_le (by omega)
      have hm := HM.out
      rw [hje] at hm
      have HM1 := Lib.hid hm
      clear hje hm
      go_wp2
      go_ret
      exact ⟨.slice pv nv cv, rfl, lf, HF.out.given (by have h1 := congrArg List.length HM1.out; have := HLEN.out; simp only [List.length_map] at h1; omega) (by have h1 := congrArg (fun l => total (l.map FI.fl)) HM1.out; simp only [List.map_map] at h1; exact Nat.le_trans (Nat.le_of_eq h1) H.out.sum), HM1.out, HF.out.chg⟩
end
end Go.Proofs
