/- What the journal's laws share: rest, record, Eq, EqAll. Conditions: what is handed in is read; lengths are small. Pieces of memory of the journal's laws: a record put behind others, a house and its disk. -/
import Derived.Test.YtaiaghfckhgnnaaDoorJo
import Derived.Test.YtaiaghfckhgnnaaDoorWt
namespace Go.Proofs
open Go.RowKit Go.Hp Go.Dm Go.Dr Go.Jn
set_option linter.unusedVariables false
set_option maxRecDepth 10000
/-- slices of bytes that are read -/
structure RRows (w : World) (v : Value) (ls : List LF) : Prop where
  rc : RC w 1 v ls.length (ls.map LF.sv)
  each : ∀ x ∈ ls, RB w x.sv x.bytes
theorem RRows.chg {w w' : World} {v : Value} {ls : List LF} (h : RRows w v ls) (hc : Chg (fun _ => False) w w') : RRows w' v ls := ⟨RC.chg h.rc hc fun _ _ h => h, fun x hx => RC.chg (h.each x hx) hc fun _ _ h => h⟩
theorem Recs.rows {w : World} {v : Value} {ls : List LF} (h : Recs w v ls) : RRows w v ls := ⟨h.oc.rc, fun x hx => (h.each x hx).rb⟩
theorem RRows.nil (w : World) : RRows w (.slice none 0 0) [] := ⟨(OC_nil _ _ 33).rc, by simp⟩
theorem RRows.at_ {w : World} {p : Option Addr} {n c k : Nat} {ls : List LF} {x : LF} (h : RRows w (.slice p n c) ls) (hx : ls[k]? = some x) : ∃ b o, p = some ⟨b, o, none⟩ ∧ n = ls.length ∧ n ≤ c ∧ w.cell? ⟨b, o + k, none⟩ = some (.slice x.p x.bytes.length x.cap) ∧ RB w (.slice x.p x.bytes.length x.cap) x.bytes := by
  obtain ⟨p0, c0, e0, h1, h2, h3⟩ := h.rc
  simp only [Value.slice.injEq] at e0
  obtain ⟨rfl, rfl, rfl⟩ := e0
  have hl := (List.getElem?_eq_some_iff.1 hx).1
  obtain ⟨b, o, arr, t, fz, rfl, hh, hxx⟩ := h3 (by omega)
  exact ⟨b, o, rfl, rfl, h1, by rw [hcell_of hh]; exact hxx k _ (by rw [List.getElem?_map, hx]; rfl), h.each x (List.mem_of_getElem? hx)⟩
section
variable {w : World}
theorem rest_any (n : Int) {m : Nat} (hm : 0 < m) (hm2 : m ≤ 1000000) : Calls Tryd.prog 5 #[.int .i64 n, .int .i64 (m : Int)] w fun e w' => ∃ k : Nat, k < m ∧ e = .returned (.int .i64 (k : Int)) ∧ w = w' := by
  obtain ⟨k, hk⟩ : ∃ k : Nat, (k : Int) = (n.tmod m + m).tmod m := ⟨((n.tmod m + m).tmod m).toNat, by
    have h1 : -(m : Int) < n.tmod m := by have := Int.lt_tmod_of_pos n (b := (m : Int)) (by omega); omega
    have h2 : 0 ≤ (n.tmod m + m).tmod m := Int.tmod_nonneg _ (by omega)
    omega⟩
  have hkm : k < m := by
    have := Int.tmod_lt_of_pos (n.tmod m + m) (b := (m : Int)) (by omega)
    omega
  have b1 : -(m : Int) < n.tmod m := Int.lt_tmod_of_pos n (by omega)
  have b2 : n.tmod m < (m : Int) := Int.tmod_lt_of_pos n (by omega)
  have h0 : ¬ (m : Int) = 0 := by omega
  have him : (m : Int) ≤ 1000000 := by omega
  have h00 : ((m : Int) == 0) = false := by rw [beq_eq_false_iff_ne]; exact h0
  clear hm hm2
  go_enter Tryd.func5, Tryd.ntmps5
  go_wp2
  go_ret
  have hte : (n.tmod m + m).tmod m = n.tmod m % m := by rw [Int.tmod_eq_emod_of_nonneg (by omega), Int.add_emod_right]
  exact ⟨k, hkm, by rw [hk]; simp [hte], rfl⟩
set_option maxHeartbeats 4000000 in
theorem lrecord_any {bs : List UInt8} {p : Option Addr} {c : Nat} (hb : RB w (.slice p bs.length c) bs) (hl : bs.length ≤ 1099511627776) : Calls Tryd.prog 8 #[.slice p bs.length c] w (FreshB w (bs.take 200)) := by
  have HL := Lib.hid hl
  have HB := Lib.hid hb
  have hnc : bs.length ≤ c := by obtain ⟨_, _, e, h1, -⟩ := hb; simp only [Value.slice.injEq] at e; omega
  have inc : (bs.length : Int) ≤ (c : Int) := by omega
  by_cases h200 : (200 : Int) < (bs.length : Int)
  · have hd : decide ((200 : Int) < (bs.length : Int)) = true := decide_eq_true h200
    have i2 : (200 : Int) ≤ (c : Int) := by omega
    have hcp := copied_any (w := w) (v := .slice p 200 c) (l := bs.take 200) (by rw [List.length_take]; omega) (by
      have h2 : (bs.take 200).length = 200 := by rw [List.length_take]; omega
      obtain ⟨p', c', he, hnc', hlen, hblk⟩ := hb
      simp only [Value.slice.injEq] at he
      obtain ⟨rfl, -, rfl⟩ := he
      refine ⟨p, c, by rw [h2], by rw [h2]; omega, by simp, fun hc => ?_⟩
      obtain ⟨b, off, arr, t, fz, rfl, hh, hx⟩ := hblk hc
      refine ⟨b, off, arr, t, fz, rfl, hh, fun i u hu => hx i u ?_⟩
      rw [List.map_take, List.getElem?_take] at hu
      split at hu
      · exact hu
      · cases hu)
    have HCP := Lib.hid hcp
    clear hcp hb hl hnc
    go_enter Tryd.func8, Tryd.ntmps8
    go_wp2_with (first | (go_at_call 10; refine stop ?_))
    refine go ?_
    refine HCP.out.mono ?_
    rintro e w1 ⟨v, rfl, o1, c1, n1⟩
    go_wp2
    go_ret
    exact ⟨v, rfl, o1, c1, n1⟩
  · have hd : decide ((200 : Int) < (bs.length : Int)) = false := decide_eq_false h200
    have e : bs.take 200 = bs := List.take_of_length_le (by omega)
    rw [e]
    have HCP := Lib.hid (copied_any (w := w) (by omega) hb)
    clear hb hl hnc e
    go_enter Tryd.func8, Tryd.ntmps8
    go_wp2_with (first | (go_at_call 10; refine stop ?_))
    refine go ?_
    refine HCP.out.mono ?_
    rintro e w1 ⟨v, rfl, o1, c1, n1⟩
    go_wp2
    go_ret
    exact ⟨v, rfl, o1, c1, n1⟩
theorem leq_any {a b : List UInt8} {p q : Option Addr} {c c' : Nat} (ha : RB w (.slice p a.length c) a) (hb : RB w (.slice q b.length c') b) (hab : a = b) :
    Calls Tryd.prog 21 #[.slice p a.length c, .slice q b.length c'] w fun e w' => e = .returned (.bool true) ∧ w = w' := by
  have h1 : (convert 33 9 (.slice p a.length c)).run Tryd.prog w = .ok (.string ⟨a.toArray⟩) w := run_toString (P := Tryd.prog) w 33 9 5 Tryd.underlying33 Tryd.underlying5 Tryd.underlying9 ha
  have h2 : (convert 33 9 (.slice q b.length c')).run Tryd.prog w = .ok (.string ⟨b.toArray⟩) w := run_toString (P := Tryd.prog) w 33 9 5 Tryd.underlying33 Tryd.underlying5 Tryd.underlying9 hb
  rw [show (⟨b.toArray⟩ : ByteArray) = ⟨a.toArray⟩ by rw [hab]] at h2
  clear ha hb hab
  go_enter Tryd.func21, Tryd.ntmps21
  go_wp2
  go_ret
  exact ⟨by simp, rfl⟩
set_option maxHeartbeats 8000000 in
theorem eqAll_same {ls ms : List LF} {p q : Option Addr} {c c' : Nat} (ha : RRows w (.slice p ls.length c) ls) (hb : RRows w (.slice q ms.length c') ms) (hab : ls.map LF.bytes = ms.map LF.bytes) (hn : ls.length ≤ 1099511627776) :
    Calls Tryd.prog 19 #[.slice p ls.length c, .slice q ms.length c'] w fun e w' => e = .returned (.bool true) ∧ Chg (fun _ => False) w w' := by
  have hlen : ls.length = ms.length := by have := congrArg List.length hab; simpa using this
  obtain ⟨n, hnn⟩ : ∃ n, n = ls.length := ⟨_, rfl⟩
  rw [← hlen]
  rw [← hnn]
  have HA := Lib.hid (And.intro ha (And.intro hb (And.intro hab (And.intro hlen hnn))))
  have inn : (n : Int) ≤ 1099511627776 := by omega
  rw [← hlen, ← hnn] at hb
  rw [← hnn] at ha
  have HR := Lib.hid (And.intro ha hb)
  clear ha hb hab hn hlen hnn
  go_enter Tryd.func19, Tryd.ntmps19
  go_wp2
  go_loopw [5] (fun t5 wr => Chg (fun _ => False) w wr ∧ ∃ k : Nat, t5 = .int .i64 (k : Int) ∧ k ≤ n) (fun t5 _ => n - (Lib.intOf t5).toNat)
  case atStart => exact ⟨Chg.refl _ _, 0, rfl, Nat.zero_le _⟩
  case round =>
    obtain ⟨hC, k, rfl, hk⟩ := hrel
    have HC := Lib.hid hC
    have ik0 : (0 : Int) ≤ (k : Int) := by omega
    clear hC
    by_cases hkn : (k : Int) < (n : Int)
    · obtain ⟨x, hx⟩ : ∃ x, ls[k]? = some x := ⟨_, List.getElem?_eq_getElem (by have := HA.out.2.2.2.2; omega)⟩
      obtain ⟨y, hy⟩ : ∃ y, ms[k]? = some y := ⟨_, List.getElem?_eq_getElem (by have := HA.out.2.2.2.2; have := HA.out.2.2.2.1; omega)⟩
      have hxy : x.bytes = y.bytes := by
        have h1 : (ls.map LF.bytes)[k]? = some x.bytes := by rw [List.getElem?_map, hx]; rfl
        have h2 : (ms.map LF.bytes)[k]? = some y.bytes := by rw [List.getElem?_map, hy]; rfl
        rw [HA.out.2.2.1, h2] at h1
        exact (Option.some.inj h1).symm
      obtain ⟨b1, o1, rfl, -, hc1, q1, r1⟩ := (HR.out.1.chg HC.out).at_ hx
      obtain ⟨b2, o2, rfl, -, hc2, q2, r2⟩ := (HR.out.2.chg HC.out).at_ hy
      have i1 : (n : Int) ≤ (c : Int) := by omega
      have i2 : (n : Int) ≤ (c' : Int) := by omega
      have heq := leq_any (w := wr.drew) (RC.chg r1 ((Chg.refl (fun _ => False) wr).drew) fun _ _ h => h) (RC.chg r2 ((Chg.refl (fun _ => False) wr).drew) fun _ _ h => h) hxy
      have HEQ := Lib.hid heq
      clear hx hy hxy hc1 hc2 r1 r2 heq
      go_wp2
      refine Rx.ws_region (fun _ => True) [(0, .r), (1, .r), (2, .r), (3, .r), (4, .r), (5, .r), (6, .r), (7, .r), (8, .e), (9, .r)] (by kernel_rfl) (by kernel_rfl) trivial (fun _ _ x _ _ h => (by cases x <;> exact h)) ?_
      iterate 8 (refine Rx.ws_q rfl rfl ?_; go_wp2; refine Rx.atS_mk ?_)
      refine Rx.ws_e rfl ?_
      go_wp2_with (first | (go_at_call 21; refine stop ?_))
      refine go ?_
      refine HEQ.out.mono ?_
      rintro e w' ⟨rfl, rfl⟩
      go_wp2
      refine ⟨trivial, ?_⟩
      (refine Rx.ws_q rfl rfl ?_; go_wp2; refine Rx.atS_mk ?_)
      refine Rx.ws_nil ?_
      go_wp2
      go_roundw
      case rel => exact ⟨HC.out.drew, k + 1, by go_num, by omega⟩
      case measure => simp [Lib.intOf]; omega
    · go_wp2
      go_ret
      exact ⟨rfl, HC.out⟩
end
end Go.Proofs
namespace Go.Proofs
open Go.RowKit Go.Hp Go.Dm Go.Dr Go.Jn
set_option linter.unusedVariables false
set_option maxRecDepth 10000
section
variable {W w w1 w2 : World} {L : List Ent}
/-- bytes put behind the records -/
theorem Many.pushRec {v v' : Value} {ls : List LF} {x : LF} (h : Many W w (Ent.bytes x.sv x.bytes :: Ent.recs v ls :: L)) (hc : Chg (fun _ => False) w w1)
    (ho : OC w2 1 33 v' (ls.map LF.sv ++ [x.sv]).length (ls.map LF.sv ++ [x.sv])) (h2 : Chg (fun b => sblk v = some b) w1 w2) (hb : ∀ b, sblk v' = some b → sblk v = some b ∨ w1.heap.size ≤ b) : Many W w2 (Ent.recs v' (ls ++ [x]) :: L) := by
  have h1 := h.quiet hc
  have hx : OB w1 5 x.sv x.bytes := h1.first
  have hr : Recs w1 v ls := h1.tail.first
  have hap := (List.pairwise_cons.1 h1.apart).1 (Ent.recs v ls) (by simp)
  have hxv : ∀ k, sblk x.sv = some k → sblk v ≠ some k := fun k hk e => hap k (by simp [Ent.bytes, hk]) (by simp [Ent.recs, rblks, e])
  have hold : ∀ y ∈ ls ++ [x], ∀ k, sblk y.sv = some k → k < w1.heap.size ∧ sblk v ≠ some k := fun y hy k hk => by
    rcases List.mem_append.1 hy with hy | hy
    · exact ⟨OC.lt (hr.each y hy) hk, hr.off y hy k hk⟩
    · obtain rfl : y = x := by simpa using hy
      exact ⟨OC.lt hx hk, hxv k hk⟩
  have hrec : Recs w2 v' (ls ++ [x]) := by
    refine ⟨?_, fun y hy => ?_, fun y hy k hk e => ?_⟩
    · rw [List.length_append, List.map_append]
      rw [List.length_append, List.length_map] at ho
      exact ho
    · have h0 : OB w1 5 y.sv y.bytes := by
        rcases List.mem_append.1 hy with hy | hy
        · exact hr.each y hy
        · obtain rfl : y = x := by simpa using hy
          exact hx
      exact OC.chg h0 h2 fun k hk e => (hold y hy k hk).2 e
    · obtain ⟨h3, h4⟩ := hold y hy k hk
      rcases hb k e with h5 | h5
      · exact h4 h5
      · omega
  let z : Ent := ⟨(sblk x.sv).toList ++ rblks v ls, fun w => OB w 5 x.sv x.bytes ∧ Recs w v ls⟩
  have gz : z.Good := ⟨fun h hk => ⟨OC.keep h.1 fun b hb => hk b (by simp [z, hb]), h.2.keep fun k hk' => hk k (List.mem_append.2 (.inr hk'))⟩,
    fun h k hk => (List.mem_append.1 hk).elim (fun hk => OC.lt h.1 (by simpa using hk)) (fun hk => h.2.lt k hk)⟩
  refine (h1.join (z := z) ⟨hx, hr⟩ gz fun k hk => List.mem_append.1 hk).turn (y := Ent.recs v' (ls ++ [x])) hrec (good_recs _ _) ⟨h2.mono fun k hk => .inl (List.mem_append.2 (.inr (by simp [rblks, hk]))), fun k hk => ?_⟩
  rcases List.mem_append.1 hk with hk | hk
  · rcases hb k (by simpa using hk) with h5 | h5
    · exact .inl (List.mem_append.2 (.inr (by simp [rblks, h5])))
    · exact .inr h5
  · rw [List.flatMap_append] at hk
    rcases List.mem_append.1 hk with hk | hk
    · exact .inl (List.mem_append.2 (.inr (List.mem_append.2 (.inr hk))))
    · exact .inl (List.mem_append.2 (.inl (by simpa [LF.blk] using hk)))
theorem Many.drop2b {x y z : Ent} (h : Many W w (x :: y :: z :: L)) : Many W w (x :: z :: L) := (h.swap12.tail)
/-- a house's disk alone -/
theorem Many.unhouse {d j : Nat} {H : Hs} {G : List Nat} (h : Many W w (Ent.house d j H G :: L)) : ∃ F, Many W w (Ent.disk d H.D F :: L) := by
  obtain ⟨F, v, hr, rfl⟩ := h.first
  exact ⟨F, h.turn (y := Ent.disk d H.D F) hr.disk (good_disk _ _ _) ⟨Chg.refl _ _, fun k hk => .inl (List.mem_append.2 (.inl hk))⟩⟩
/-- a call on the disk of a house -/
theorem Many.houseDisk {d j : Nat} {H : Hs} {G : List Nat} {D' : Dk} (h : Many W w (Ent.house d j H G :: L)) (hl : ∀ F, DRep w d H.D F → Left w d F D' w2) : ∃ G', Many W w2 (Ent.house d j { H with D := D' } G' :: L) := by
  obtain ⟨F, v, hr, rfl⟩ := h.first
  obtain ⟨F', h1, h2⟩ := hr.left (hl F hr.disk)
  exact ⟨_, h.turn (y := Ent.house d j { H with D := D' } (F' ++ jbl j v)) ⟨F', v, h1, rfl⟩ (good_house _ _ _ _) h2⟩
end
end Go.Proofs
