/- frame.Open. Conditions: what is handed in is read; lengths are small. journal.Records of places in range. Conditions: the journal lies as the pieces say, its ends are those of its records; the listed variables lie as they were laid. -/
import Derived.Test.YtaiaghfckhgnnaaDoorJ1
import Derived.Test.YtaiaghfckhgnnaaDoorJd
namespace Go.Jn
/-- the payload of bytes that are one frame -/
def jopen (b : List UInt8) : List UInt8 × Nat := if (jfirst b).2.2 ≠ 0 then ([], (jfirst b).2.2) else if (jfirst b).2.1 < b.length then ([], 94) else ((jfirst b).1, 0)
theorem open_wrap {p : List UInt8} (h : p.length ≤ 131072) : jopen (jwrap p) = (p, 0) := by
  unfold jopen
  have := first_wrap (r := []) h
  rw [List.append_nil] at this
  rw [this]
  simp [wrap_len]
end Go.Jn
namespace Go.Proofs
open Go.RowKit Go.Hp Go.Dm Go.Dr Go.Jn
set_option linter.unusedVariables false
set_option maxRecDepth 10000
section
variable {w : World} {bs : List UInt8} {p : Option Addr} {c : Nat}
set_option maxHeartbeats 4000000 in
theorem fopen_any (hg : Gl w) (hb : RB w (.slice p bs.length c) bs) (hl : bs.length ≤ 1099511627776) :
    Calls Tryd.prog 45 #[.slice p bs.length c] w fun e w' => ∃ v, e = .returned (.tuple #[v, .int .i64 ((jopen bs).2 : Nat)]) ∧ OB w' 5 v (jopen bs).1 ∧ Chg (fun _ => False) w w' ∧ ∀ b, sblk v = some b → w.heap.size ≤ b := by
  have hf := first_any hg hb hl
  obtain ⟨P, N, E, hE⟩ : ∃ P N E, jfirst bs = (P, N, E) := ⟨_, _, _, rfl⟩
  rw [hE] at hf
  have ho : jopen bs = if E ≠ 0 then ([], E) else if N < bs.length then ([], 94) else (P, 0) := by unfold jopen; rw [hE]
  have HF := Lib.hid hf
  have HO := Lib.hid ho
  obtain ⟨n, hn⟩ : ∃ n, n = bs.length := ⟨_, rfl⟩
  rw [← hn] at HF HO ⊢
  have inn : (n : Int) ≤ 1099511627776 := by omega
  clear hg hb hl hE ho hf hn
  go_enter Tryd.func45, Tryd.ntmps45
  go_wp2_with (first | (go_at_call 48; refine stop ?_))
  refine go ?_
  refine HF.out.mono ?_
  rintro e w1 ⟨v1, rfl, o1, c1, n1⟩
  obtain ⟨p1, cc1, rfl, -⟩ := id o1
  have H1 := Lib.hid (And.intro o1 (And.intro c1 n1))
  clear o1 c1 n1
  by_cases hE0 : E = 0
  · subst hE0
    by_cases hN : (N : Int) < (n : Int)
    · have hd : decide ((N : Int) < (n : Int)) = true := decide_eq_true hN
      have hdn : decide (N < n) = true := decide_eq_true (by omega)
      have ho : jopen bs = ([], 94) := by rw [HO.out, if_neg (by simp), if_pos (by omega)]
      have HO := Lib.hid ho
      clear ho hN
      go_wp2
      go_ret2
      rw [HO.out]
      exact ⟨.slice none 0 0, by simp, OB_nil _ _, H1.out.2.1, fun b hb => by cases hb⟩
    · have hd : decide ((N : Int) < (n : Int)) = false := decide_eq_false hN
      have hdn : decide (N < n) = false := decide_eq_false (by omega)
      have ho : jopen bs = (P, 0) := by rw [HO.out, if_neg (by simp), if_neg (by omega)]
      have HO := Lib.hid ho
      clear ho hN
      go_wp2
      go_ret2
      rw [HO.out]
      exact ⟨.slice p1 P.length cc1, by simp, H1.out.1, H1.out.2.1, H1.out.2.2⟩
  · have hE1 : ((E : Int) == 0) = false := by rw [beq_eq_false_iff_ne]; omega
    have ho : jopen bs = ([], E) := by rw [HO.out, if_pos hE0]
    have HO := Lib.hid ho
    clear hE0 ho
    go_wp2
    go_ret2
    rw [HO.out]
    exact ⟨.slice none 0 0, by simp, OB_nil _ _, H1.out.2.1, fun b hb => by cases hb⟩
end
end Go.Proofs
namespace Go.Jn
/-- one record of a journal's bytes: its frame opened, its number looked at -/
def jone (k : Nat) (b : List UInt8) : List UInt8 × Nat := if (jopen b).2 ≠ 0 then ([], (jopen b).2) else jrecord k (jopen b).1
theorem jone_wrap {k : Nat} {r : List UInt8} (h : r.length ≤ 131068) : jone k (jwrap (jpay k r)) = (r, 0) := by
  unfold jone
  rw [open_wrap (by rw [payload_len]; omega)]
  simp only [ne_eq, not_true_eq_false, if_false]
  exact record_payload k r
end Go.Jn
namespace Go.Proofs
open Go.RowKit Go.Hp Go.Dm Go.Dr Go.Jn
set_option linter.unusedVariables false
set_option linter.unusedSimpArgs false
set_option maxRecDepth 10000
/-- n records from number k on, out of the bytes B that begin at record lo: they, the fault's place and number -/
def jgo (B : List UInt8) (l : List (List UInt8)) (lo : Nat) : Nat → Nat → List (List UInt8) × Nat × Nat
  | 0, _ => ([], 0, 0)
  | n + 1, k => if (jone k ((B.drop (atN l k - atN l lo)).take (atN l (k + 1) - atN l k))).2 ≠ 0 then ([], k, (jone k ((B.drop (atN l k - atN l lo)).take (atN l (k + 1) - atN l k))).2)
    else if (jgo B l lo n (k + 1)).2.2 ≠ 0 then ([], (jgo B l lo n (k + 1)).2) else ((jone k ((B.drop (atN l k - atN l lo)).take (atN l (k + 1) - atN l k))).1 :: (jgo B l lo n (k + 1)).1, 0, 0)
/-- Records, plainly: the records, the fault's place and number -/
def rangeR (D : Dk) (nm : ByteArray) (l : List (List UInt8)) (lo hi : Nat) : List (List UInt8) × Nat × Nat :=
  if (D.read nm (atN l lo : Int) ((atN l hi : Int) - (atN l lo : Int))).2 ≠ 0 then ([], lo, (D.read nm (atN l lo : Int) ((atN l hi : Int) - (atN l lo : Int))).2)
  else jgo (D.read nm (atN l lo : Int) ((atN l hi : Int) - (atN l lo : Int))).1 l lo (hi - lo) lo
theorem open_len (b : List UInt8) : (jopen b).1.length ≤ b.length := by
  unfold jopen
  split
  · exact Nat.zero_le _
  · split
    · exact Nat.zero_le _
    · exact first_len b
def nRec : ByteArray := ⟨#[82, 101, 99, 111, 114, 100, 115]⟩
section
variable {l : List (List UInt8)}
theorem ends_prefix (l : List (List UInt8)) (r : List UInt8) {k : Nat} (hk : k ≤ l.length) : endN (endsOf (l ++ [r])) k = endN (endsOf l) k := by
  unfold endN
  split
  · rfl
  · rw [endsOf_snoc]
    simp only [List.getD]
    rw [List.getElem?_append_left (by rw [endsOf_len]; omega)]
/-- where the first k records' frames end -/
theorem endN_file : ∀ {l : List (List UInt8)} {k : Nat}, k ≤ l.length → endN (endsOf l) k = atN l k := by
  intro l
  induction l using snoc_ind with
  | h0 => intro k hk; obtain rfl : k = 0 := by simpa using hk
          rfl
  | h1 l r ih =>
    intro k hk
    rw [List.length_append, List.length_singleton] at hk
    by_cases h : k = l.length + 1
    · subst h
      rw [show l.length + 1 = (endsOf (l ++ [r])).length by rw [endsOf_len, List.length_append]; rfl, endsOf_end, endsOf_len, atN_all]
    · rw [ends_prefix l r (by omega), ih (by omega), atN_snoc r (by omega)]
/-- what the loop has come to: acc is found, n records are still to come from k on -/
theorem jgo_step {B : List UInt8} {lo k : Nat} (n : Nat) {X : List UInt8 × Nat} (hX : jone k ((B.drop (atN l k - atN l lo)).take (atN l (k + 1) - atN l k)) = X) :
    jgo B l lo (n + 1) k = if X.2 ≠ 0 then ([], k, X.2) else if (jgo B l lo n (k + 1)).2.2 ≠ 0 then ([], (jgo B l lo n (k + 1)).2) else (X.1 :: (jgo B l lo n (k + 1)).1, 0, 0) := by
  rw [jgo, hX]
theorem jgo_norm {B : List UInt8} {lo : Nat} : ∀ (n k : Nat), (if (jgo B l lo n k).2.2 ≠ 0 then ([], (jgo B l lo n k).2) else ((jgo B l lo n k).1, 0, 0)) = jgo B l lo n k
  | 0, k => by simp [jgo]
  | n + 1, k => by
    rw [jgo]
    split
    · rename_i h; simp only [if_pos h]
    · by_cases h : (jgo B l lo n (k + 1)).2.2 ≠ 0
      · simp only [if_pos h]
      · simp only [if_neg h]
        simp
/-- what the loop has come to: acc is found -/
def JgoAt (B : List UInt8) (l : List (List UInt8)) (lo : Nat) (acc : List (List UInt8)) (n k : Nat) (R : List (List UInt8) × Nat × Nat) : Prop :=
  R = if (jgo B l lo n k).2.2 ≠ 0 then ([], (jgo B l lo n k).2) else (acc ++ (jgo B l lo n k).1, 0, 0)
theorem JgoAt.start {B : List UInt8} {lo n k : Nat} : JgoAt B l lo [] n k (jgo B l lo n k) := by
  unfold JgoAt
  rw [List.nil_append, jgo_norm]
theorem JgoAt.over {B : List UInt8} {lo k : Nat} {acc : List (List UInt8)} {R : List (List UInt8) × Nat × Nat} (h : JgoAt B l lo acc 0 k R) : R = (acc, 0, 0) := by
  unfold JgoAt at h
  simpa [jgo] using h
theorem JgoAt.bad {B : List UInt8} {lo n k : Nat} {acc : List (List UInt8)} {R : List (List UInt8) × Nat × Nat} (h : JgoAt B l lo acc (n + 1) k R) {X : List UInt8 × Nat} (hX : jone k ((B.drop (atN l k - atN l lo)).take (atN l (k + 1) - atN l k)) = X) (hx : X.2 ≠ 0) : R = ([], k, X.2) := by
  unfold JgoAt at h
  rw [h, jgo_step n hX]
  simp only [if_pos hx]
theorem JgoAt.go {B : List UInt8} {lo n k : Nat} {acc : List (List UInt8)} {R : List (List UInt8) × Nat × Nat} (h : JgoAt B l lo acc (n + 1) k R) {X : List UInt8 × Nat} (hX : jone k ((B.drop (atN l k - atN l lo)).take (atN l (k + 1) - atN l k)) = X) (hx : X.2 = 0) : JgoAt B l lo (acc ++ [X.1]) n (k + 1) R := by
  obtain ⟨X1, X2⟩ := X
  obtain rfl : X2 = 0 := hx
  unfold JgoAt at h ⊢
  rw [h, jgo_step n hX]
  by_cases h2 : (jgo B l lo n (k + 1)).2.2 = 0
  · simp [h2]
  · simp [h2]
theorem read_len {D : Dk} {nm : ByteArray} {a b : Nat} {B : List UInt8} (hab : a ≤ b) (h : D.read nm (a : Int) ((b : Int) - (a : Int)) = (B, 0)) : B.length = b - a := by
  unfold Dk.read at h
  split at h
  · split at h
    · simp at h
    · rename_i hl hn
      simp only [Prod.mk.injEq, and_true] at h
      have e1 : lenOf D.files nm = (bytesOf D.files nm).length := by unfold lenOf bytesOf; split <;> rfl
      rw [← h, List.length_take, List.length_drop, show ((a : Int)).toNat = a by omega, show ((b : Int) - (a : Int)).toNat = b - a by omega]
      rw [e1] at hn
      omega
  · rename_i hl
    simp only [Prod.mk.injEq] at h
    exact absurd h.2 hl
/-- all that is in its place is found -/
theorem jgo_whole {B : List UInt8} {lo : Nat} (hr : ∀ x ∈ l, x.length ≤ 131068) (hB : B = (fileOf 0 l).drop (atN l lo)) : ∀ (n k : Nat), lo ≤ k → k + n ≤ l.length → jgo B l lo n k = ((l.drop k).take n, 0, 0)
  | 0, k, _, _ => by simp [jgo]
  | n + 1, k, h1, h2 => by
    obtain ⟨x, hx⟩ : ∃ x, l[k]? = some x := ⟨_, List.getElem?_eq_getElem (by omega)⟩
    have ha := atN_succ hx
    have hm : atN l lo ≤ atN l k := atN_mono h1 (by omega)
    have e : (B.drop (atN l k - atN l lo)).take (atN l (k + 1) - atN l k) = jwrap (jpay k x) := by
      have hl1 : (fileOf 0 (l.take k)).length = atN l k := rfl
      have hwl : (jwrap (jpay k x)).length = x.length + 16 := by rw [wrap_len, payload_len]
      rw [hB, List.drop_drop, show atN l lo + (atN l k - atN l lo) = atN l k by omega, file_at hx, List.drop_append_of_le_length (by omega), List.drop_of_length_le (by omega), List.nil_append,
        List.take_append_of_le_length (by omega), List.take_of_length_le (by omega)]
    have hj : jone k ((B.drop (atN l k - atN l lo)).take (atN l (k + 1) - atN l k)) = (x, 0) := by rw [e]; exact jone_wrap (hr x (List.mem_of_getElem? hx))
    rw [jgo_step n hj, jgo_whole hr hB n (k + 1) (by omega) (by omega)]
    have hl := (List.getElem?_eq_some_iff.1 hx).1
    simp only [ne_eq, not_true_eq_false, if_false]
    rw [List.drop_eq_getElem_cons hl, (List.getElem?_eq_some_iff.1 hx).2, List.take_succ_cons]
end
section
variable {W w : World} {L : List Ent} {d j : Nat} {D : Dk} {nm : ByteArray} {l : List (List UInt8)} {du : Nat} {er : Value} {G : List Nat} {lo hi : Nat}
set_option maxHeartbeats 32000000 in
theorem jrange_any (hg : Gl W) (hm : Many W w (Ent.house d j ⟨D, nm, endsOf l, du, er⟩ G :: L)) (hs : nm.size ≤ maxLen) (hll : l.length ≤ 2147483647) (hz : (fileOf 0 l).length ≤ 2147483647) (hlo : lo < hi) (hhi : hi ≤ l.length) {rs : List (List UInt8)} {at_ code : Nat}
    (hR : rangeR D nm l lo hi = (rs, at_, code)) :
    Calls Tryd.prog 25 #[.pointer (some ⟨j, 0, none⟩), .int .i64 (lo : Int), .int .i64 (hi : Int)] w fun e w' =>
      (code = 0 ∧ ∃ rv ls, e = .returned (.tuple #[rv, .nilIface]) ∧ ls.map LF.bytes = rs ∧ Many W w' (Ent.recs rv ls :: Ent.house d j ⟨D, nm, endsOf l, du, er⟩ G :: L)) ∨
      (code ≠ 0 ∧ ∃ b, e = .returned (.tuple #[.slice none 0 0, faultV b]) ∧ Many W w' (Ent.box b (faultO nRec (at_ : Int) code) :: Ent.house d j ⟨D, nm, endsOf l, du, er⟩ G :: L)) := by
  obtain ⟨F, v, hraw, hG⟩ := hm.first
  have hel : (endsOf l).length = l.length := endsOf_len _
  have hend := fun (w1 : World) (hc : Chg (fun _ => False) w w1) (k : Nat) (hk : k ≤ l.length) => end_any (hraw.quiet hc).jrn (k := k) (show k ≤ (endsOf l).length by rw [hel]; exact hk) (show (endsOf l).length ≤ _ by rw [hel]; omega)
  simp only at hend
  have hend2 : ∀ (w1 : World), Chg (fun _ => False) w w1 → ∀ k x : Nat, k ≤ l.length → x = atN l k → Calls Tryd.prog 44 #[.pointer (some ⟨j, 0, none⟩), .int .i64 (k : Int)] w1 fun e w' => e = .returned (.int .i64 (x : Int)) ∧ w1 = w' := fun w1 hc k x hk hx => by
    have := hend w1 hc k hk
    rw [endN_file hk, ← hx] at this
    exact this
  have HE := Lib.hid hend2
  have hatm : ∀ i k, i ≤ k → k ≤ l.length → atN l i ≤ atN l k := fun i k h1 h2 => atN_mono h1 h2
  have hatz : ∀ k, k ≤ l.length → atN l k ≤ 2147483647 := fun k hk => Nat.le_trans (by
    have := hatm k l.length hk (Nat.le_refl _)
    rw [atN_all] at this
    exact this) hz
  have HAT := Lib.hid (And.intro hatm hatz)
  obtain ⟨LN, hLN⟩ : ∃ LN, LN = l.length := ⟨_, rfl⟩
  have HHI := Lib.hid (And.intro hlo (And.intro hhi hLN))
  have g0 := hcell_of (hraw.jrn).head 0
  have g1 := hcell_of (hraw.jrn).head 1
  have g2 := hcell_of (hraw.jrn).head 2
  have g3 := hcell_of (hraw.jrn).head 3
  have g4 := hcell_of (hraw.jrn).head 4
  simp only [List.getElem?_toArray, List.getElem?_cons_zero, List.getElem?_cons_succ] at g0 g1 g2 g3 g4
  obtain ⟨pv, cv, hpv, -⟩ := id hraw.jrn.oc
  have hpv : v = .slice pv LN cv := by rw [hpv, hel, hLN]
  rw [hpv] at g2
  have iLN : (LN : Int) ≤ 2147483647 := by omega
  have ilo : (lo : Int) < (hi : Int) := by omega
  have ihi : (hi : Int) ≤ (LN : Int) := by omega
  have ilo0 : (0 : Int) ≤ (lo : Int) := by omega
  have ne1 : ((lo : Int) == (hi : Int)) = false := by rw [beq_eq_false_iff_ne]; omega
  have ne2 : (lo == hi) = false := by rw [beq_eq_false_iff_ne]; omega
  have ne3 : ¬ ((lo : Int) = (hi : Int)) := by omega
  have dd1 : decide ((lo : Int) < 0) = false := decide_eq_false (by omega)
  have dd2 : decide ((hi : Int) < (lo : Int)) = false := decide_eq_false (by omega)
  have dd2n : decide (hi < lo) = false := decide_eq_false (by omega)
  have dd3 : decide ((LN : Int) < (hi : Int)) = false := decide_eq_false (by omega)
  have dd3n : decide (LN < hi) = false := decide_eq_false (by omega)
  obtain ⟨fr, hfr⟩ : ∃ fr, fr = atN l lo := ⟨_, rfl⟩
  obtain ⟨to, hto⟩ : ∃ to, to = atN l hi := ⟨_, rfl⟩
  have HFT := Lib.hid (And.intro hfr hto)
  have ito : (to : Int) ≤ 2147483647 := by have := hatz hi hhi; omega
  have ift : (fr : Int) ≤ (to : Int) := by have := hatm lo hi (by omega) hhi; omega
  have ifr0 : (0 : Int) ≤ (fr : Int) := by omega
  have HR := Lib.hid hR
  have HM := Lib.hid (And.intro hm (And.intro hraw hG))
  have HG := Lib.hid hg
  have hrd := read_any (fr : Int) ((to : Int) - (fr : Int)) hs (hraw.quiet ((Chg.refl (fun _ => False) w).drew)).disk
  simp only at hrd
  obtain ⟨RB', RC', hRR⟩ : ∃ B C, D.read nm (fr : Int) ((to : Int) - (fr : Int)) = (B, C) := ⟨_, _, rfl⟩
  rw [hRR] at hrd
  have HRD := Lib.hid hrd
  have HRR := Lib.hid hRR
  have HS := Lib.hid hs
  clear hg hm hs hll hz hlo hhi hR hraw hG hel hend hend2 hatm hatz hLN hpv hfr hto hrd hRR g3 g4
  go_enter Tryd.func25, Tryd.ntmps25
  go_wp2_with (first | (go_at_call 44; refine stop ?_))
  refine go ?_
  refine (HE.out _ (Chg.refl _ _) lo fr (by have := HHI.out; omega) HFT.out.1).mono ?_
  rintro e w' ⟨rfl, rfl⟩
  clear g2
  go_wp2
  refine Rx.ws_region (fun w' => w'.cell? ⟨j, 0, none⟩ = some (.pointer (some ⟨d, 0, none⟩)) ∧ w'.cell? ⟨j, 1, none⟩ = some (.string nm)) [(9, .r), (10, .r), (0, .h), (1, .h), (2, .h), (4, .h), (5, .h), (6, .h), (8, .h), (12, .h), (3, .h), (7, .h), (11, .e), (13, .r), (14, .e), (15, .r), (16, .r), (17, .r), (18, .r), (19, .r)] (by kernel_rfl) (by kernel_rfl) ⟨g0, g1⟩ (fun _ _ x _ _ h => (by cases x <;> exact h)) ?_
  iterate 2 (refine Rx.ws_q rfl rfl ?_; go_wp2; refine Rx.atS_mk ?_)
  iterate 10 (refine Rx.ws_h (v := ?_) rfl rfl ?_ ?_; rotate_left; (intro w' hS'; go_simp; try with_reducible rfl))
  refine Rx.ws_e rfl ?_
  go_wp2_with (first | (go_at_call 44; refine stop ?_))
  refine go ?_
  refine (HE.out _ ((Chg.refl (fun _ => False) _).drew) hi to (by have := HHI.out; omega) HFT.out.2).mono ?_
  rintro e w' ⟨rfl, rfl⟩
  go_wp2
  refine ⟨(by exact ⟨g0, g1⟩), ?_⟩
  (refine Rx.ws_q rfl rfl ?_; go_wp2; refine Rx.atS_mk ?_)
  refine Rx.ws_e rfl ?_
  go_wp2_with (first | (go_at_call 28; refine stop ?_))
  refine go ?_
  refine HRD.out.mono ?_
  rintro e w1 ⟨v1, rfl, o1, n1, c1, -⟩
  obtain ⟨p1, cc1, rfl, -⟩ := id o1
  have H1 := Lib.hid (And.intro o1 (And.intro n1 (((Chg.refl (fun _ => False) w).drew).trans c1 fun _ h => h.elim)))
  clear o1 n1 c1
  go_wp2
  refine ⟨(by exact ⟨Chg.cellSome H1.out.2.2 g0, Chg.cellSome H1.out.2.2 g1⟩), ?_⟩
  iterate 5 (refine Rx.ws_q rfl rfl ?_; go_wp2; refine Rx.atS_mk ?_)
  refine Rx.ws_nil ?_
  have hm1 := HM.out.1.quiet H1.out.2.2
  clear g0 g1
  by_cases hrc : RC' = 0
  · subst hrc
    have hBl := read_len (by rw [HFT.out.1, HFT.out.2]; exact HAT.out.1 lo hi (by have := HHI.out; omega) (by have := HHI.out; omega)) HRR.out
    have hR0 : JgoAt RB' l lo [] (hi - lo) lo (rs, at_, code) := by
      have h := HR.out
      unfold rangeR at h
      rw [← HFT.out.1, ← HFT.out.2, HRR.out, if_neg (by simp)] at h
      rw [← h]
      exact JgoAt.start
    have m2 := HM.out.1.addBytes H1.out.1 H1.out.2.2 (fun b hb => H1.out.2.1 b hb)
    have m3 := m2.add (y := Ent.recs (.slice none 0 0) []) (Chg.refl _ _) (Recs.nil _) (good_recs _ _) (by simp [Ent.recs, rblks, sblk])
    have HB := Lib.hid (And.intro hBl hR0)
    have M3 := Lib.hid m3
    obtain ⟨BN, hBN⟩ : ∃ n, n = RB'.length := ⟨_, rfl⟩
    rw [← hBN]
    have HBN := Lib.hid hBN
    clear hm1 m2 m3 hBl hR0 hBN
    (try simp only [show ((0 : Nat) : Int) = 0 from rfl])
    go_wp2
    go_loopw [11, 12] (fun t11 t12 wr => ∃ (hp : Option Addr) (hc : Nat) (ls : List LF) (k : Nat), t11 = .slice hp ls.length hc ∧ t12 = .int .i64 (k : Int) ∧ lo ≤ k ∧ k ≤ hi ∧ ls.length ≤ k ∧ JgoAt RB' l lo (ls.map LF.bytes) (hi - k) k (rs, at_, code) ∧
      Many W wr (Ent.recs (.slice hp ls.length hc) ls :: Ent.bytes (.slice p1 RB'.length cc1) RB' :: Ent.house d j ⟨D, nm, endsOf l, du, er⟩ G :: L)) (fun _ t12 _ => hi - (Lib.intOf t12).toNat)
    case atStart => exact ⟨none, 0, [], lo, rfl, rfl, Nat.le_refl _, by have := HHI.out; omega, Nat.zero_le _, HB.out.2, M3.out⟩
    case round =>
      obtain ⟨hp, hc, ls, k, rfl, rfl, hk1, hk2, hlk, hJ, hMk⟩ := hrel
      have ik0 : (0 : Int) ≤ (k : Int) := by omega
      have HK := Lib.hid (And.intro hk1 (And.intro hk2 hlk))
      by_cases hkh : (k : Int) < (hi : Int)
      · have dk : decide ((k : Int) < (hi : Int)) = true := decide_eq_true hkh
        have dkn : decide (k < hi) = true := decide_eq_true (by omega)
        have hkl : k < l.length := by have := HHI.out; omega
        obtain ⟨F2, v2, hraw2, -⟩ := hMk.get (x := Ent.house d j ⟨D, nm, endsOf l, du, er⟩ G) (by simp)
        have hmk := HAT.out.1 lo k hk1 (by omega)
        have hmk1 := HAT.out.1 (k + 1) hi (by omega) (by have := HHI.out; omega)
        have hlt := atN_lt hkl
        have hzz := HAT.out.2 (k + 1) (by omega)
        rw [← HFT.out.1] at hmk
        rw [← HFT.out.2] at hmk1
        obtain ⟨a, ha⟩ : ∃ a, atN l k = a + fr := ⟨atN l k - fr, by omega⟩
        obtain ⟨z, hz⟩ : ∃ z, atN l (k + 1) = z + fr := ⟨atN l (k + 1) - fr, by omega⟩
        have hzB : z ≤ RB'.length := by have := HB.out.1; omega
        have he1 : Calls Tryd.prog 44 #[.pointer (some ⟨j, 0, none⟩), .int .i64 (k : Int)] wr fun e w' => e = .returned (.int .i64 ((a : Int) + (fr : Int))) ∧ wr = w' := by
          have h := end_any hraw2.jrn (k := k) (show k ≤ (endsOf l).length by rw [endsOf_len]; omega) (show (endsOf l).length ≤ _ by rw [endsOf_len]; have := HHI.out; omega)
          rw [show ({ D := D, nm := nm, es := endsOf l, du := du, er := er } : Hs).es = endsOf l from rfl, endN_file (by omega), ha, Int.natCast_add] at h
          exact h
        have he2 : Calls Tryd.prog 44 #[.pointer (some ⟨j, 0, none⟩), .int .i64 ((k : Int) + 1)] wr fun e w' => e = .returned (.int .i64 ((z : Int) + (fr : Int))) ∧ wr = w' := by
          have h := end_any hraw2.jrn (k := k + 1) (show k + 1 ≤ (endsOf l).length by rw [endsOf_len]; omega) (show (endsOf l).length ≤ _ by rw [endsOf_len]; have := HHI.out; omega)
          rw [show ({ D := D, nm := nm, es := endsOf l, du := du, er := er } : Hs).es = endsOf l from rfl, endN_file (by omega), hz, Int.natCast_add, Int.natCast_add, show ((1 : Nat) : Int) = 1 from rfl] at h
          exact h
        obtain ⟨x0, hx0⟩ : ∃ x, RB'[0]? = some x := ⟨_, List.getElem?_eq_getElem (by omega)⟩
        have hbb : OB wr 5 (.slice p1 RB'.length cc1) RB' := hMk.get (x := Ent.bytes (.slice p1 RB'.length cc1) RB') (by simp)
        obtain ⟨b0, o0, rfl, -, hnc, -⟩ := RB.at_ (OB.rb hbb) hx0
        have hrb := RB.sub (OB.rb hbb) (i := a) (j := z) (by omega) hzB
        have hlen : ((RB'.drop a).take (z - a)).length = z - a := by rw [List.length_take, List.length_drop]; omega
        have hfo := fopen_any (HG.out.chg hMk.chg) (bs := (RB'.drop a).take (z - a)) (by rw [hlen]; exact hrb) (by rw [hlen]; omega)
        obtain ⟨P, E, hPE⟩ : ∃ P E, jopen ((RB'.drop a).take (z - a)) = (P, E) := ⟨_, _, rfl⟩
        have hPl : P.length ≤ 2147483647 := by
          have h1 := open_len ((RB'.drop a).take (z - a))
          rw [hPE, hlen] at h1
          simp only at h1
          omega
        rw [hlen, hPE] at hfo
        have hX : jone k ((RB'.drop (atN l k - atN l lo)).take (atN l (k + 1) - atN l k)) = if E ≠ 0 then ([], E) else jrecord k P := by
          rw [show atN l k - atN l lo = a by rw [← HFT.out.1]; omega, show atN l (k + 1) - atN l k = z - a by omega]
          unfold jone
          rw [hPE]
        have hJ1 : JgoAt RB' l lo (ls.map LF.bytes) ((hi - k - 1) + 1) k (rs, at_, code) := by rw [show hi - k - 1 + 1 = hi - k by omega]; exact hJ
        have HE1 := Lib.hid he1
        have HE2 := Lib.hid he2
        have HFO := Lib.hid hfo
        have HX := Lib.hid (And.intro hX (And.intro hJ1 hPl))
        have MK := Lib.hid hMk
        have iaz : (a : Int) ≤ (z : Int) := by omega
        have izB : (z : Int) ≤ (BN : Int) := by have := HBN.out; omega
        have iBc : (BN : Int) ≤ (cc1 : Int) := by have := HBN.out; omega
        have izf : (z : Int) + (fr : Int) ≤ 2147483647 := by omega
        have iac : (a : Int) ≤ (cc1 : Int) := by omega
        have hca : ¬ cc1 = a := by omega
        have ia0 : (0 : Int) ≤ (a : Int) := by omega
        have iz0 : (0 : Int) ≤ (z : Int) := by omega
        clear hk1 hk2 hlk hJ hMk hkl hraw2 hmk hmk1 hlt hzz ha hz hzB he1 he2 hx0 hbb hnc hrb hlen hfo hPE hX hJ1 hPl
        go_wp2_with (first | (go_at_call 44; first | ((with_reducible refine (HE1.out).mono ?_); rintro e w' ⟨rfl, rfl⟩) | ((with_reducible refine (HE2.out).mono ?_); rintro e w' ⟨rfl, rfl⟩)) | (go_at_call 45; refine stop ?_))
        refine go ?_
        refine HFO.out.mono ?_
        rintro e w2 ⟨v3, rfl, o3, c3, n3⟩
        obtain ⟨p3, cc3, rfl, -⟩ := id o3
        have m4 := MK.out.addBytes o3 c3 n3
        by_cases hE : E = 0
        · subst hE
          have hra := record_any (w := w2) (k := k) (by have := HK.out; have := HHI.out; omega) (OB.rb o3) (by show P.length ≤ _; have := HX.out.2.2; omega)
          obtain ⟨R, Q, hRQ⟩ : ∃ R Q, jrecord k P = (R, Q) := ⟨_, _, rfl⟩
          rw [hRQ] at hra
          have hX2 : jone k ((RB'.drop (atN l k - atN l lo)).take (atN l (k + 1) - atN l k)) = (R, Q) := by rw [HX.out.1, if_neg (by simp)]; exact hRQ
          have HRA := Lib.hid hra
          have HX2 := Lib.hid hX2
          have M4 := Lib.hid m4.tail
          clear o3 c3 n3 m4 hra hRQ hX2
          (try simp only [show ((0 : Nat) : Int) = 0 from rfl])
          go_wp2_with (first | (go_at_call 46; refine stop ?_))
          refine go ?_
          refine HRA.out.mono ?_
          rintro e w3 ⟨v4, rfl, o4, c4, n4⟩
          obtain ⟨p4, cc4, rfl, -⟩ := id o4
          have m5 := M4.out.addBytes o4 c4 n4
          have M5 := Lib.hid m5
          clear o4 c4 n4 m5
          by_cases hQ : Q = 0
          · subst hQ
            have hgo := HX.out.2.1.go HX2.out rfl
            have HGO := Lib.hid hgo
            have ils : ls.length ≤ 2147483647 := by have := HK.out; have := HHI.out; omega
            have HLS := Lib.hid ils
            clear hgo ils
            (try simp only [show ((0 : Nat) : Int) = 0 from rfl])
            go_wp2_with (first | (at_builtin; refine stop ?_))
            refine go ?_
            have hc6 : Chg (fun _ => False) w3 (w3.alloc (.cells #[.slice p4 R.length cc4] 33)) := (Chg.refl _ w3).alloc _
            have hrec6 : Recs (w3.alloc (.cells #[.slice p4 R.length cc4] 33)) (.slice hp ls.length hc) ls := (M5.out.quiet hc6).get (x := Ent.recs (.slice hp ls.length hc) ls) (by simp)
            have HR6 := Lib.hid (And.intro hc6 hrec6)
            clear hc6 hrec6
            refine wpList_append_rows rfl _ _ rfl (v := .slice hp ls.length hc) (l := ls.map LF.sv) (m := [.slice p4 R.length cc4]) rfl rfl (by rw [List.length_map]; exact HR6.out.2.oc) (OC_new w3 1 33 #[.slice p4 R.length cc4] 1 1 (by decide) (by unfold maxLen; decide) rfl).rc (by simp [Value.oneCell']) (by have := HLS.out; simp; omega) ?_
            intro hp7 lv7 hc7 w7 a1 a2 a3 a4
            have hm6 : Many W w3 (Ent.bytes (⟨⟨#[]⟩, p4, cc4, R, 0⟩ : LF).sv (⟨⟨#[]⟩, p4, cc4, R, 0⟩ : LF).bytes :: Ent.recs (.slice hp ls.length hc) ls :: _) := M5.out
            have m7 := hm6.pushRec HR6.out.1 a1 a3 a4
            have hlv : lv7 = (ls ++ [(⟨⟨#[]⟩, p4, cc4, R, 0⟩ : LF)]).length := by rw [a2]; simp
            rw [hlv] at m7 ⊢
            have M7 := Lib.hid m7
            clear a1 a2 a3 a4 hm6 m7 hlv
            go_wp2
            go_roundw
            case rel =>
              refine ⟨hp7, hc7, ls ++ [(⟨⟨#[]⟩, p4, cc4, R, 0⟩ : LF)], k + 1, by simp, by go_num, by have := HK.out; omega, by omega, by rw [List.length_append, List.length_singleton]; have := HK.out; omega, ?_, M7.out⟩
              rw [List.map_append, show hi - (k + 1) = hi - k - 1 by omega]
              exact HGO.out
            case measure => simp [Lib.intOf]; omega
          · have hq1 : ((Q : Int) == 0) = false := by rw [beq_eq_false_iff_ne]; omega
            have hbad := HX.out.2.1.bad HX2.out hQ
            simp only [Prod.mk.injEq] at hbad
            have HBAD := Lib.hid (And.intro hbad hQ)
            have hmx := M5.out
            clear hbad hQ
            have hfa := fault_any (HG.out.chg hmx.chg) nRec (k : Int) Q
            unfold errV at hfa
            have HFA := Lib.hid hfa
            have MX := Lib.hid hmx
            clear hfa hmx
            (try simp only [show ((0 : Nat) : Int) = 0 from rfl] at HFA ⊢)
            go_wp2_with (first | (go_at_call 26; refine stop ?_))
            refine go ?_
            refine HFA.out.mono ?_
            rintro e w9 ⟨b, rfl, hbn, hb, c9⟩
            have m9 := MX.out.add (y := Ent.box b (faultO nRec (k : Int) Q)) c9 hb (good_box _ _) (fun k hk => by
              obtain rfl : k = b := by simpa [Ent.box] using hk
              exact hbn)
            have M9 := Lib.hid m9
            clear hbn hb c9 m9
            go_wp2
            go_ret2
            refine .inr ⟨by rw [HBAD.out.1.2.2]; exact HBAD.out.2, b, by simp, ?_⟩
            rw [HBAD.out.1.2.1, HBAD.out.1.2.2]
            exact Many.sub M9.out (.cons_cons _ (.cons _ (.cons _ (.cons _ (List.Sublist.refl _)))))
        · have hq1 : ((E : Int) == 0) = false := by rw [beq_eq_false_iff_ne]; omega
          have hbad := HX.out.2.1.bad (X := ([], E)) (by rw [HX.out.1, if_pos hE]) hE
          simp only [Prod.mk.injEq] at hbad
          have HBAD := Lib.hid (And.intro hbad hE)
          clear hbad hE o3 c3 n3
          have hfa := fault_any (HG.out.chg m4.chg) nRec (k : Int) E
          unfold errV at hfa
          have HFA := Lib.hid hfa
          have MX := Lib.hid m4
          clear hfa m4
          (try simp only [show ((0 : Nat) : Int) = 0 from rfl] at HFA ⊢)
          go_wp2_with (first | (go_at_call 26; refine stop ?_))
          refine go ?_
          refine HFA.out.mono ?_
          rintro e w9 ⟨b, rfl, hbn, hb, c9⟩
          have m9 := MX.out.add (y := Ent.box b (faultO nRec (k : Int) E)) c9 hb (good_box _ _) (fun k hk => by
            obtain rfl : k = b := by simpa [Ent.box] using hk
            exact hbn)
          have M9 := Lib.hid m9
          clear hbn hb c9 m9
          go_wp2
          go_ret2
          refine .inr ⟨by rw [HBAD.out.1.2.2]; exact HBAD.out.2, b, by simp, ?_⟩
          rw [HBAD.out.1.2.1, HBAD.out.1.2.2]
          exact Many.sub M9.out (.cons_cons _ (.cons _ (.cons _ (.cons _ (List.Sublist.refl _)))))
      · have dk : decide ((k : Int) < (hi : Int)) = false := decide_eq_false hkh
        have dkn : decide (k < hi) = false := decide_eq_false (by omega)
        have hov : (rs, at_, code) = (ls.map LF.bytes, 0, 0) := by
          have h := hJ
          rw [show hi - k = 0 by omega] at h
          exact h.over
        simp only [Prod.mk.injEq] at hov
        have HOV := Lib.hid (And.intro hov hMk)
        clear hov hMk hJ
        go_wp2
        go_ret2
        exact .inl ⟨HOV.out.1.2.2, _, by simp, ls, HOV.out.1.1.symm, Many.sub HOV.out.2 (.cons_cons _ (.cons _ (List.Sublist.refl _)))⟩
  · have hrc1 : ((RC' : Int) == 0) = false := by rw [beq_eq_false_iff_ne]; omega
    have hfin : at_ = lo ∧ code = RC' ∧ code ≠ 0 := by
      have h := HR.out
      unfold rangeR at h
      rw [← HFT.out.1, ← HFT.out.2, HRR.out, if_pos hrc] at h
      simp only [Prod.mk.injEq] at h
      exact ⟨h.2.1.symm, h.2.2.symm, by rw [← h.2.2]; exact hrc⟩
    have HFIN := Lib.hid hfin
    clear hrc hfin
    have hfa := fault_any (HG.out.chg hm1.chg) nRec (lo : Int) RC'
    unfold errV at hfa
    have HFA := Lib.hid hfa
    have MX := Lib.hid hm1
    clear hfa hm1
    (try simp only [show ((0 : Nat) : Int) = 0 from rfl] at HFA ⊢)
    go_wp2_with (first | (go_at_call 26; refine stop ?_))
    refine go ?_
    refine HFA.out.mono ?_
    rintro e w9 ⟨b, rfl, hbn, hb, c9⟩
    have m9 := MX.out.add (y := Ent.box b (faultO nRec (lo : Int) RC')) c9 hb (good_box _ _) (fun k hk => by
      obtain rfl : k = b := by simpa [Ent.box] using hk
      exact hbn)
    have M9 := Lib.hid m9
    clear hbn hb c9 m9
    go_wp2
    go_ret2
    refine .inr ⟨HFIN.out.2.2, b, by simp, ?_⟩
    rw [HFIN.out.1, HFIN.out.2.1]
    exact M9.out
end
end Go.Proofs
