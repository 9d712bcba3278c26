/- Copies of bytes (slices.Clone, the laws' own 'copied'), and package disk's Read and Append. Conditions: the disk lies as DRep says; the lengths are below 2^46. -/
import Derived.Test.YtaiaghfckhgnnaaGreatDoorD4
namespace Go.Proofs
open Go.RowKit Go.Hp Go.Dm Go.Dr
set_option linter.unusedVariables false
set_option maxRecDepth 10000

theorem info_u8 : (Tryz.prog.info? 5).map (fun i => (i.zero, i.size, i.bytes)) = some (some (.int .u8 0), 1, 1) := by kernel_rfl

/-- fresh bytes are handed back, nothing that was there has changed -/
def FreshB (w : World) (l : List UInt8) (e : Ending) (w' : World) : Prop :=
  ∃ v, e = .returned v ∧ OB w' 5 v l ∧ Chg (fun _ => False) w w' ∧ ∀ b, sblk v = some b → w.heap.size ≤ b

section
variable {w : World} {d m : Nat} {D D' : Dk} {L : List Raw} {clock : Nat} {r : Raw} {F : List Nat} {nm : ByteArray}

/-- append of bytes -/
theorem wpList_append_bytes {ops : Array Oper} {rest : List Oper} {o : Oper} {a : Act} {Q : Exit → Act → World → Prop} (hg : o.guard = none) (s x : Operand)
    (hop : o.op = .call { callee := .builtin .append, args := #[s, x], argTypes := #[23, 23] }) {v y : Value} {l m : List UInt8} (hs : a.eval s = v) (hx : a.eval x = y)
    (hv : OB w 5 v l) (hy : RB w y m) (hlen : l.length + m.length ≤ 140737488355328)
    (h : ∀ pv lv cv w', OB w' 5 (.slice pv lv cv) (l ++ m) → Chg (fun b => sblk v = some b) w w' → (∀ b, sblk (.slice pv lv cv) = some b → sblk v = some b ∨ w.heap.size ≤ b) →
      (Value.slice pv lv cv = .slice none 0 0 ↔ v = .slice none 0 0 ∧ m.length = 0) → wpList Tryz.prog ops Q rest (a.put o.dst (.slice pv lv cv)) w') : wpList Tryz.prog ops Q (o :: rest) a w := by
  obtain ⟨i0, hi, hz0, hz1, hz2⟩ := info_parts info_u8
  refine wpList_append_oc hg s x 23 hop 5 i0 _ 1 1 Tryz.underlying23 hi hz0 hz1 hz2 rfl (by decide) hs hx hv hy (u8_one m) (by decide) (by omega) fun v' w' h1 h2 h3 h4 => ?_
  have h1' : OB w' 5 v' (l ++ m) := by
    show OC w' 1 5 v' (l ++ m).length ((l ++ m).map u8)
    rw [List.length_append, List.map_append]; exact h1
  obtain ⟨pv, cv, rfl, _⟩ := id h1'
  exact h pv _ cv w' h1' h2 h3 h4

theorem OB_nil (w : World) (E : TypeId) : OB w E (.slice none 0 0) [] := OC_nil w 1 E
theorem OB_zero (w : World) (E : TypeId) (p : Option Addr) : OB w E (.slice p 0 0) [] := OC_zero w 1 E p

theorem copied_any {v : Value} {l : List UInt8} (hl : l.length ≤ 140737488355328) (h : RB w v l) : Calls Tryz.prog 11 #[v] w (FreshB w l) := by
  have H := Lib.hid h
  have HL := Lib.hid hl
  clear h hl
  go_enter Tryz.func11, Tryz.ntmps11
  go_wp2_with (at_builtin; refine stop ?_)
  refine go ?_
  refine wpList_append_bytes rfl _ _ rfl (v := .slice none 0 0) rfl rfl (OB_nil w 5) H.out (by have := HL.out; simp; omega) ?_
  intro pv lv cv w' h1 h2 h3 h4
  have H1 := Lib.hid h1
  have H2 := Lib.hid h2
  have H3 := Lib.hid h3
  clear h1 h2 h3 h4
  go_wp2
  go_ret
  exact ⟨_, rfl, H1.out, H2.out.mono (fun k hk => by cases hk), fun b hb => (H3.out b hb).elim (fun h => by cases h) id⟩

theorem clone_any {v : Value} {l : List UInt8} (hl : l.length ≤ 140737488355328) (h : RB w v l) : Calls Tryz.prog 78 #[v] w (FreshB w l) := by
  have H := Lib.hid h
  obtain ⟨p, c, rfl, h1, h2, h3⟩ := h
  have HL := Lib.hid hl
  cases p with
  | none =>
    have hc : c = 0 := by
      by_cases hc : c = 0
      · exact hc
      · obtain ⟨_, _, _, _, _, hp, _⟩ := h3 hc; cases hp
    have hl0 : l = [] := List.eq_nil_of_length_eq_zero (by omega)
    subst hl0 hc
    clear hl h1 h2 h3
    have hnil : ∀ w, (binOp .eql 23 (.slice none 0 0) (.slice none 0 0)).run Tryz.prog w = .ok (.bool true) w := fun w => by
      simpa using Lib.run_eql_slice_nil (P := Tryz.prog) w 23 5 none 0 0 0 0 Tryz.underlying23
    go_enter Tryz.func78, Tryz.ntmps78
    go_wp2
    go_ret
    exact ⟨_, rfl, OB_nil w _, Chg.refl _ _, fun b hb => by cases hb⟩
  | some a =>
    clear hl h1 h2 h3
    have hnil : ∀ w, (binOp .eql 23 (.slice (some a) l.length c) (.slice none 0 0)).run Tryz.prog w = .ok (.bool false) w := fun w => by
      simpa using Lib.run_eql_slice_nil (P := Tryz.prog) w 23 5 (some a) l.length c 0 0 Tryz.underlying23
    go_enter Tryz.func78, Tryz.ntmps78
    go_wp2_with (at_builtin; refine stop ?_)
    refine go ?_
    refine wpList_append_bytes rfl _ _ rfl (v := .slice (some ⟨w.heap.size, 0, none⟩) 0 0) rfl rfl (OB_zero _ _ _) (RC.keep H.out fun b hb => halloc_lt (RC.lt H.out hb)) (by have := HL.out; simp; omega) ?_
    intro pv lv cv w' h1 h2 h3 h4
    have H1 := Lib.hid h1
    have H2 := Lib.hid h2
    have H3 := Lib.hid h3
    clear h1 h2 h3 h4 hnil
    go_wp2
    go_ret
    exact ⟨_, rfl, H1.out, (((Chg.refl (fun _ => False) w).alloc _).trans H2.out (fun k hk => by cases hk)), fun b hb => (H3.out b hb).elim (fun h => by cases h) (fun h => by simp at h; omega)⟩

/-- bytes of a slice, from off on, n of them -/
theorem RB_sub {v : Value} {l : List UInt8} {p : Option Addr} {c : Nat} (hv : v = .slice p l.length c) (h : RB w v l) (off n : Nat) (hn : off + n ≤ l.length) :
    RB w (.slice (if n = 0 then p else p.map (·.add (off * 1))) n n) ((l.drop off).take n) := by
  have hlen : ((l.drop off).take n).length = n := by simp; omega
  subst hv
  obtain ⟨p', c', he, h1, h2, h3⟩ := h
  cases he
  refine ⟨_, n, by rw [hlen], by omega, by simp, fun hc => ?_⟩
  obtain ⟨b, o, arr, t, fz, rfl, hh, hx⟩ := h3 (by omega)
  refine ⟨b, o + off, arr, t, fz, ?_, hh, fun i u hu => ?_⟩
  · rw [if_neg hc]
    simp [Addr.add]
  · have : (l.map u8)[off + i]? = some u := by
      rw [List.map_take, List.map_drop, List.getElem?_take] at hu
      split at hu
      · rw [List.getElem?_drop] at hu; exact hu
      · cases hu
    have := hx _ _ this
    rwa [← Nat.add_assoc] at this

set_option maxHeartbeats 1600000 in
theorem read_ok (a b : Nat) (hs : r.name.size ≤ maxLen) (h : DRaw w d m D L clock) (hl : D.look r.name = 0) (hr : r ∈ L) (hk : a + b ≤ r.bytes.length) :
    Calls Tryz.prog 37 #[.pointer (some ⟨d, 0, none⟩), .string r.name, .int .i64 (a : Int), .int .i64 (b : Int)] w fun e w' => ∃ v, e = .returned (.tuple #[v, .int .i64 0]) ∧
      OB w' 5 v ((r.bytes.drop a).take b) ∧ Chg (fun _ => False) w w' ∧ ∀ b, sblk v = some b → w.heap.size ≤ b := by
  have hrok := h.raws r hr
  have q0 := hrok.cell0
  obtain ⟨p, c, hsv, hnc, hcm, hlen, hown⟩ := hrok.own
  rw [hsv] at q0
  have hrb := RB_sub hsv hrok.own.rb a b hk
  have HRB := Lib.hid hrb
  have ha0 : ¬ (a : Int) < 0 := by omega
  have hb0 : ¬ (b : Int) < 0 := by omega
  have ha1 : (a : Int) ≤ r.bytes.length := by omega
  have hnc' : (r.bytes.length : Int) ≤ c := by omega
  have hb1 : ¬ (r.bytes.length : Int) - a < b := by omega
  have hab : (a : Int) + b ≤ c := by omega
  have hcm' : (c : Int) ≤ 9223372036854775807 := by unfold maxLen at hcm; omega
  have hlb : r.bytes.length ≤ 1099511627776 := by
    have h1 := get_le (h.get_of hr)
    have h1 : r.bytes.length ≤ total D.files := h1
    have h2 := h.ok.used
    have h3 := h.ok.limit
    have h4 : D.used = total D.files := rfl
    omega
  have HLB := Lib.hid hlb
  have H := Lib.hid h
  have HL := Lib.hid hl
  have HR := Lib.hid hr
  clear h hl hr hrok hsv hnc hcm hlen hown hk hrb hlb
  by_cases hb : b = 0
  · subst hb
    clear hb0 hb1
    go_enter Tryz.func37, Tryz.ntmps37
    go_wp2_with (first | (go_at_call 77; refine (find_yes hs H.out HL.out HR.out).mono ?_; rintro e w' ⟨rfl, nd, rfl⟩) | (go_at_call 78; refine stop ?_))
    refine go ?_
    refine (clone_any (l := (r.bytes.drop a).take 0) (by simp) (by simpa [RB] using RC.keep (w' := w.drewN nd) HRB.out fun _ _ => rfl)).mono ?_
    rintro e w' ⟨v, rfl, h1, h2, h3⟩
    have H1 := Lib.hid h1
    have H2 := Lib.hid h2
    have H3 := Lib.hid h3
    clear h1 h2 h3
    go_wp2
    go_ret2
    exact ⟨v, rfl, H1.out, (((Chg.refl (fun _ => False) w).drewN nd).trans H2.out (fun k hk => .inl hk)), H3.out⟩
  · have hb' : (1 : Int) ≤ b := by omega
    have hbn : ¬ (b = 0) := hb
    have hrb2 := HRB.out
    rw [if_neg hb, Nat.mul_one] at hrb2
    have HRB2 := Lib.hid hrb2
    have HB := Lib.hid hb
    clear hb hrb2 HRB
    go_enter Tryz.func37, Tryz.ntmps37
    go_wp2_with (first | (go_at_call 77; refine (find_yes hs H.out HL.out HR.out).mono ?_; rintro e w' ⟨rfl, nd, rfl⟩) | (go_at_call 78; refine stop ?_))
    refine go ?_
    refine (clone_any (l := (r.bytes.drop a).take b) (by have := HLB.out; simp; omega) (RC.keep (w' := w.drewN nd) HRB2.out fun _ _ => rfl)).mono ?_
    rintro e w' ⟨v, rfl, h1, h2, h3⟩
    have H1 := Lib.hid h1
    have H2 := Lib.hid h2
    have H3 := Lib.hid h3
    clear h1 h2 h3
    go_wp2
    go_ret2
    exact ⟨v, rfl, H1.out, (((Chg.refl (fun _ => False) w).drewN nd).trans H2.out (fun k hk => .inl hk)), H3.out⟩
end
end Go.Proofs
