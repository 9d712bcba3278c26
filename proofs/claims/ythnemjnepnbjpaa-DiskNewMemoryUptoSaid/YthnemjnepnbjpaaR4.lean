/- The document's disk: survives, store. Conditions: the disk lies as RRep says; at most 2^40 files. -/
import Derived.Test.YthnemjnepnbjpaaR3
import Derived.Test.YthnemjnepnbjpaaRp
namespace Go.Proofs
open Go.RowKit Go.Hp Go.Dm Go.Dr
set_option linter.unusedVariables false
set_option maxRecDepth 10000
section
variable {w w' : World} {r : Nat} {D D' : Dk} {K K' L : Int} {v : Value} {l : List RF} {G : List Nat} {nm : ByteArray}

set_option maxHeartbeats 1000000 in
/-- what a crash that keeps q bytes leaves of a file -/
theorem rsurv_some (a : Addr) (len c s q m : Nat) (hs : s ≤ len) (hl : len ≤ 1099511627776) (hc : len ≤ c) (hq : (q : Int) ≤ 9223372036854775807) (hm : Hid (m = s + min q (len - s))) :
    Calls Try.prog 103 #[fileV nm true (some a) len c s, .int .i64 (q : Int)] w fun e w' => e = .returned (fileV nm (decide (0 < m)) (some a) m c m) ∧ Chg (fun _ => False) w w' := by
  have hsi : (s : Int) ≤ len := by omega
  have hli : (len : Int) ≤ 1099511627776 := by omega
  have hci : (len : Int) ≤ c := by omega
  have hmin : (s : Int) + min (q : Int) ((len : Int) - s) = (m : Int) := by rw [hm.out]; omega
  have hml : (m : Int) ≤ c := by omega
  unfold fileV
  clear hs hl hc
  go_enter Try.func103, Try.ntmps103
  go_wp2
  refine bodyPost_ret (results_cell1 (p := 4) (cs := #[.string nm, .bool (decide (0 < m)), .slice (some a) m c, .int .i64 (m : Int)]) rfl _ _ (w.heap.size + 1) 130 (0, 0) _ rfl ?_ Try.underlying130 rfl info_rfile) rfl ?_
  · have := halloc_at (w.alloc (.cells #[.string nm, .bool (decide (0 < m)), .slice (some a) m c, .int .i64 (m : Int)] 130)) (.cells #[.string nm, .bool (decide (0 < m)), .slice (some a) m c, .int .i64 (m : Int)] 130)
    rw [halloc_size] at this
    exact this
  exact ⟨rfl, ((Chg.refl _ w).alloc _).alloc _⟩

set_option maxHeartbeats 1000000 in
theorem rsurv_none (q : Nat) (hq : (q : Int) ≤ 9223372036854775807) :
    Calls Try.prog 103 #[fileV nm true none 0 0 0, .int .i64 (q : Int)] w fun e w' => e = .returned (fileV nm false none 0 0 0) ∧ Chg (fun _ => False) w w' := by
  have hmin : min (q : Int) 0 = 0 := by omega
  have hmin2 : min q 0 = 0 := by omega
  unfold fileV
  go_enter Try.func103, Try.ntmps103
  go_wp2
  refine bodyPost_ret (results_cell1 (p := 4) (cs := #[.string nm, .bool false, .slice none 0 0, .int .i64 0]) rfl _ _ (w.heap.size + 1) 130 (0, 0) _ rfl ?_ Try.underlying130 rfl info_rfile) rfl ?_
  · have := halloc_at (w.alloc (.cells #[.string nm, .bool false, .slice none 0 0, .int .i64 0] 130)) (.cells #[.string nm, .bool false, .slice none 0 0, .int .i64 0] 130)
    rw [halloc_size] at this
    exact this
  exact ⟨rfl, ((Chg.refl _ w).alloc _).alloc _⟩

theorem RB.takeP {p : Option Addr} {c : Nat} {bs : List UInt8} (h : RB w (.slice p bs.length c) bs) (m : Nat) (hm : m ≤ bs.length) : RB w (.slice p m c) (bs.take m) := by
  obtain ⟨p', c', he, hnc, hlen, hblk⟩ := h
  obtain ⟨rfl, -, rfl⟩ : p = p' ∧ bs.length = bs.length ∧ c = c' := by simpa only [Value.slice.injEq] using he
  have e : (bs.take m).length = m := by simp; omega
  refine ⟨p, c, by rw [e], by rw [e]; omega, by simp, fun hc => ?_⟩
  obtain ⟨b, off, arr, t, fz, rfl, hh, hx⟩ := hblk hc
  refine ⟨b, off, arr, t, fz, rfl, hh, fun i u hu => hx i u ?_⟩
  rw [List.map_take, List.getElem?_take] at hu
  split at hu
  · exact hu
  · cases hu

/-- what a crash that keeps q bytes leaves of a file -/
theorem rsurv_any {f : Fl} {p : Option Addr} {c : Nat} (q : Nat) (hs : f.sure ≤ f.bytes.length) (hl : f.bytes.length ≤ 1099511627776) (hq : (q : Int) ≤ 9223372036854775807) (hrb : RB w (.slice p f.bytes.length c) f.bytes) :
    Calls Try.prog 103 #[fileV f.name true p f.bytes.length c f.sure, .int .i64 (q : Int)] w fun e w' =>
      e = .returned (fileV f.name (decide (0 < (survF q f).bytes.length)) p (survF q f).bytes.length c (survF q f).bytes.length) ∧ Chg (fun _ => False) w w' := by
  have em : (survF q f).bytes.length = f.sure + min q (f.bytes.length - f.sure) := by unfold survF; simp; omega
  obtain ⟨p', c', he, hnc, -, hblk⟩ := id hrb
  obtain ⟨rfl, -, rfl⟩ : p = p' ∧ f.bytes.length = f.bytes.length ∧ c = c' := by simpa only [Value.slice.injEq] using he
  cases p with
  | none =>
    have hc : c = 0 := by
      by_cases hc : c = 0
      · exact hc
      · obtain ⟨b, off, arr, t, fz, hp, -⟩ := hblk hc; cases hp
    have h0 : f.bytes.length = 0 := by omega
    have h1 : f.sure = 0 := by omega
    rw [em, h0, h1, hc]
    have : 0 + min q (0 - 0) = 0 := by omega
    rw [this]
    exact rsurv_none q hq
  | some a => exact rsurv_some a f.bytes.length c f.sure q _ hs hl hnc hq (Lib.hid em)
end
end Go.Proofs
