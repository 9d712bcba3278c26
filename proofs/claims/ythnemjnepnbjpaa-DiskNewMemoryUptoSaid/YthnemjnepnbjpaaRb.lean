/- The document's disk: Read, Size, Files, Append. Conditions: the disk lies as RRep says; at most 2^40 files. -/
import Derived.Test.YthnemjnepnbjpaaRa
import Derived.Test.YthnemjnepnbjpaaAr
namespace Go.Proofs
open Go.RowKit Go.Hp Go.Dm Go.Dr
set_option linter.unusedVariables false
set_option maxRecDepth 10000

section
variable {w w' : World} {r : Nat} {D D' : Dk} {K K' L : Int} {v : Value} {l : List RF} {G : List Nat} {nm : ByteArray}

theorem rb_mid {p : Option Addr} {c : Nat} {bs : List UInt8} (h : RB w (.slice p bs.length c) bs) {a n : Nat} (hn : a + n ≤ bs.length) : RB w (.slice (Option.map (fun x => x.add a) p) n (c - a)) ((bs.drop a).take n) := by
  obtain ⟨p', c', he, hnc, hlen, hblk⟩ := h
  obtain ⟨rfl, -, rfl⟩ : p = p' ∧ bs.length = bs.length ∧ c = c' := by simpa only [Value.slice.injEq] using he
  have e : ((bs.drop a).take n).length = n := by simp; omega
  refine ⟨_, c - a, by rw [e], by rw [e]; omega, by simp, fun hc => ?_⟩
  obtain ⟨b, off, arr, t, fz, rfl, hh, hx⟩ := hblk (by omega)
  refine ⟨b, off + a, arr, t, fz, by simp only [Option.map_some]; rw [add_none rfl], hh, fun i u hu => ?_⟩
  rw [List.map_take, List.getElem?_take] at hu
  split at hu
  · rw [List.map_drop, List.getElem?_drop] at hu
    rw [Nat.add_assoc]
    exact hx (a + i) u hu
  · cases hu
theorem rb_end {p : Option Addr} {bs : List UInt8} {a n : Nat} (hn : a + n ≤ bs.length) (ha : bs.length ≤ a) : RB w (.slice p n 0) ((bs.drop a).take n) := by
  have hn0 : n = 0 := by omega
  subst hn0
  exact ⟨p, 0, by simp, by simp, by simp, fun h => absurd rfl h⟩

/-- bytes are handed back in memory of their own, with an error's number; nothing that was there has changed -/
def RTell (w : World) (l : List UInt8) (c : Nat) (e : Ending) (w' : World) : Prop :=
  ∃ v, e = .returned (.tuple #[v, .int .i64 (c : Int)]) ∧ OB w' 5 v l ∧ (∀ b, sblk v = some b → w.heap.size ≤ b) ∧ Chg (fun _ => False) w w'
theorem rtell_no (c : Nat) (hc : Chg (fun _ => False) w w') : RTell w [] c (.returned (.tuple #[.slice none 0 0, .int .i64 (c : Int)])) w' := ⟨_, rfl, OB_nil _ _, fun b hb => by simp at hb, hc⟩

set_option maxHeartbeats 2000000 in
theorem rread_any (x y : Int) (hs : nm.size ≤ maxLen) (hN : D.files.length ≤ 1099511627776) (h : RRep w r D G) :
    Calls Try.prog 67 #[.pointer (some ⟨r, 0, none⟩), .string nm, .int .i64 x, .int .i64 y] w (RTell w (D.read nm x y).1 (D.read nm x y).2) := by
  unfold Dk.read
  by_cases hl : D.look nm = 0
  · rw [if_pos hl]
    obtain ⟨fb, fs, hg⟩ := rlook_zero hl
    have hlen : lenOf D.files nm = fb.length := by unfold lenOf; rw [hg]
    have hbyt : bytesOf D.files nm = fb := by unfold bytesOf; rw [hg]
    obtain ⟨hb1, hb2⟩ := get_bounds h.ok hg
    have hb1i : (fb.length : Int) ≤ 1099511627776 := by omega
    have HCODE := Lib.hid ((lookC_true D nm).trans hl)
    have HLK := Lib.hid (rlook_any true hs hN h)
    have HG := Lib.hid hg
    rw [hlen, hbyt]
    by_cases hk : x < 0 ∨ y < 0 ∨ (fb.length : Int) < x ∨ (fb.length : Int) - x < y
    · rw [if_pos hk]
      by_cases k0 : x < 0
      · clear hl hg hs hN h hlen hk hb1 hb2 hb1i hbyt
        go_enter Try.func67, Try.ntmps67
        go_wp2_with (first | (go_at_call 92; refine stop ?_))
        refine go ?_
        refine HLK.out.mono ?_
        rintro e w2 ⟨a, b, p, n, c, s, rfl, hfi, hc⟩
        rw [HCODE.out]
        unfold fileV
        obtain ⟨rfl, rfl, hnc, hrb⟩ := looked_file HG.out (hfi HCODE.out rfl)
        have HC := Lib.hid hc
        clear hfi hc hnc hrb
        go_wp2
        go_ret2
        exact rtell_no 12 (HC.out.alloc _)
      · by_cases k1 : y < 0
        · clear hl hg hs hN h hlen hk hb1 hb2 hb1i hbyt
          go_enter Try.func67, Try.ntmps67
          go_wp2_with (first | (go_at_call 92; refine stop ?_))
          refine go ?_
          refine HLK.out.mono ?_
          rintro e w2 ⟨a, b, p, n, c, s, rfl, hfi, hc⟩
          rw [HCODE.out]
          unfold fileV
          obtain ⟨rfl, rfl, hnc, hrb⟩ := looked_file HG.out (hfi HCODE.out rfl)
          have HC := Lib.hid hc
          clear hfi hc hnc hrb
          go_wp2
          go_ret2
          exact rtell_no 12 (HC.out.alloc _)
        · by_cases k2 : (fb.length : Int) < x
          · clear hl hg hs hN h hlen hk hb1 hb2 hb1i hbyt
            go_enter Try.func67, Try.ntmps67
            go_wp2_with (first | (go_at_call 92; refine stop ?_))
            refine go ?_
            refine HLK.out.mono ?_
            rintro e w2 ⟨a, b, p, n, c, s, rfl, hfi, hc⟩
            rw [HCODE.out]
            unfold fileV
            obtain ⟨rfl, rfl, hnc, hrb⟩ := looked_file HG.out (hfi HCODE.out rfl)
            have HC := Lib.hid hc
            clear hfi hc hnc hrb
            go_wp2
            go_ret2
            exact rtell_no 12 (HC.out.alloc _)
          · have k3 : (fb.length : Int) - x < y := by omega
            clear hl hg hs hN h hlen hk hb1 hb2 hbyt
            go_enter Try.func67, Try.ntmps67
            go_wp2_with (first | (go_at_call 92; refine stop ?_))
            refine go ?_
            refine HLK.out.mono ?_
            rintro e w2 ⟨a, b, p, n, c, s, rfl, hfi, hc⟩
            rw [HCODE.out]
            unfold fileV
            obtain ⟨rfl, rfl, hnc, hrb⟩ := looked_file HG.out (hfi HCODE.out rfl)
            have HC := Lib.hid hc
            clear hfi hc hnc hrb
            go_wp2
            go_ret2
            exact rtell_no 12 (HC.out.alloc _)
    · rw [if_neg hk]
      obtain ⟨a1, rfl⟩ := Int.eq_ofNat_of_zero_le (by omega : 0 ≤ x)
      obtain ⟨n1, rfl⟩ := Int.eq_ofNat_of_zero_le (by omega : 0 ≤ y)
      have k2 : ¬ (fb.length : Int) < (a1 : Int) := by omega
      have k2n : ¬ fb.length < a1 := by omega
      have k3 : ¬ (fb.length : Int) - (a1 : Int) < (n1 : Int) := by omega
      have k4 : (a1 : Int) ≤ (a1 : Int) + n1 := by omega
      have k4n : (a1 : Int) + n1 ≤ (fb.length : Int) := by omega
      have HB1 := Lib.hid hb1
      rw [Int.toNat_natCast, Int.toNat_natCast]
      clear hl hg hs hN h hlen hk hb1 hb2 hbyt
      go_enter Try.func67, Try.ntmps67
      go_wp2_with (first | (go_at_call 92; refine stop ?_))
      refine go ?_
      refine HLK.out.mono ?_
      rintro e w2 ⟨a, b, p, n, c, s, rfl, hfi, hc⟩
      rw [HCODE.out]
      unfold fileV
      obtain ⟨rfl, rfl, hnc, hrb⟩ := looked_file HG.out (hfi HCODE.out rfl)
      have hnci : (fb.length : Int) ≤ c := by omega
      have HC := Lib.hid hc
      have HRB := Lib.hid hrb
      clear hfi hc hnc hrb
      have HNC := Lib.hid (show fb.length ≤ c by omega)
      have HK4 := Lib.hid (show a1 + n1 ≤ fb.length by omega)
      go_wp2_with (first | (go_at_call 91; refine stop ?_))
      · refine go ?_
        refine (rcopied_any (l := (fb.drop a1).take n1) (by have := HB1.out; simp; omega) (rb_end HK4.out (by have := HNC.out; omega))).mono ?_
        rintro e w3 ⟨v3, rfl, o3, c3, n3⟩
        obtain ⟨p3, l3, cc3, rfl⟩ : ∃ p l c, v3 = .slice p l c := by obtain ⟨p3, cc3, e, -⟩ := id o3; exact ⟨_, _, _, e⟩
        have O3 := Lib.hid o3
        have C3 := Lib.hid c3
        have N3 := Lib.hid n3
        clear o3 c3 n3
        go_wp2
        go_ret2
        exact ⟨.slice p3 l3 cc3, rfl, O3.out, fun b hb => by have h1 := N3.out b hb; have h2 := HC.out.size; simp at h1; omega, (HC.out.alloc _).trans C3.out fun _ h => h.elim⟩
      · refine go ?_
        refine (rcopied_any (l := (fb.drop a1).take n1) (by have := HB1.out; simp; omega) (rb_mid (RC.keep HRB.out fun b hb => halloc_lt (RC.lt HRB.out hb)) HK4.out)).mono ?_
        rintro e w3 ⟨v3, rfl, o3, c3, n3⟩
        obtain ⟨p3, l3, cc3, rfl⟩ : ∃ p l c, v3 = .slice p l c := by obtain ⟨p3, cc3, e, -⟩ := id o3; exact ⟨_, _, _, e⟩
        have O3 := Lib.hid o3
        have C3 := Lib.hid c3
        have N3 := Lib.hid n3
        clear o3 c3 n3
        go_wp2
        go_ret2
        exact ⟨.slice p3 l3 cc3, rfl, O3.out, fun b hb => by have h1 := N3.out b hb; have h2 := HC.out.size; simp at h1; omega, (HC.out.alloc _).trans C3.out fun _ h => h.elim⟩
  · rw [if_neg hl]
    have hcd : ((lookC D nm true : Nat) : Int) ≠ 0 := by rw [lookC_true]; omega
    have HLK := Lib.hid (rlook_any true hs hN h)
    have HH := Lib.hid h
    rw [← lookC_true] at *
    generalize hcdg : lookC D nm true = cd at *
    have g0 : ((cd : Int) != 0) = true := by simpa using hcd
    have HCD := Lib.hid hcdg
    clear hcd hl hs hN h hcdg
    go_enter Try.func67, Try.ntmps67
    go_wp2_with (first | (go_at_call 92; refine stop ?_))
    refine go ?_
    refine HLK.out.mono ?_
    rintro e w2 ⟨a, b, p, n, c, s, rfl, -, hc⟩
    rw [HCD.out]
    have HC := Lib.hid hc
    clear hc
    unfold fileV
    go_wp2
    go_ret2
    exact rtell_no _ (HC.out.alloc _)
end
end Go.Proofs
