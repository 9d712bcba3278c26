/- The journal's frames, plainly: the checksum, a frame, what a frame's beginning says, a file's records. No program in sight. The journal's frames, plainly: a frame cut or spoilt; what Parse finds of any bytes; Open, plainly. No program in sight. -/
import Derived.WalkKit
import Derived.Test.YtaiaghfckhgnnaaDoorDm
namespace Go.Jn
set_option linter.unusedVariables false

/-- what four shifts do to a register -/
def jtab : List Nat := [0, 274646895, 549293790, 820201905, 1098587580, 1361435347, 1640403810, 1905808397, 2197175160, 2460548119, 2722870694, 2987750089, 3280807620, 3553878443, 3811616794, 4084100981]
def nib (c : Nat) : Nat := (c / 16) ^^^ jtab.getD (c % 16) 0
def jstep (c : Nat) (x : UInt8) : Nat := nib (nib (c ^^^ x.toNat))
def jreg (b : List UInt8) : Nat := b.foldl jstep 4294967295
def crc (b : List UInt8) : Nat := 4294967295 ^^^ jreg b
def be4 (n : Nat) : List UInt8 := [UInt8.ofNat (n / 16777216), UInt8.ofNat (n / 65536), UInt8.ofNat (n / 256), UInt8.ofNat n]
def be3 (n : Nat) : List UInt8 := [UInt8.ofNat (n / 65536), UInt8.ofNat (n / 256), UInt8.ofNat n]
def jcomp (b : List UInt8) : List UInt8 := b.map fun x => 255 ^^^ x
def jsum (b : List UInt8) : List UInt8 := be4 (crc b)
/-- a payload's frame -/
def jwrap (p : List UInt8) : List UInt8 := [199, 157] ++ be3 p.length ++ jcomp (be3 p.length) ++ jsum p ++ p

theorem be3_len (n : Nat) : (be3 n).length = 3 := rfl
theorem be4_len (n : Nat) : (be4 n).length = 4 := rfl
theorem sum_len (b : List UInt8) : (jsum b).length = 4 := rfl
theorem comp_len (b : List UInt8) : (jcomp b).length = b.length := by simp [jcomp]
theorem wrap_len (p : List UInt8) : (jwrap p).length = p.length + 12 := by simp [jwrap, be3_len, comp_len, sum_len]; omega

theorem tab_lt : ∀ i, jtab.getD i 0 < 4294967296 := by
  intro i
  by_cases h : i < 16
  · have : ∀ j : Fin 16, jtab.getD j.val 0 < 4294967296 := by decide
    exact this ⟨i, h⟩
  · have : jtab.getD i 0 = 0 := by simp [List.getD, List.getElem?_eq_none (show jtab.length ≤ i by simp [jtab]; omega)]
    rw [this]; decide
theorem nib_lt {c : Nat} (h : c < 4294967296) : nib c < 4294967296 := by
  unfold nib
  exact Nat.xor_lt_two_pow (n := 32) (by omega) (tab_lt _)
theorem step_lt {c : Nat} (h : c < 4294967296) (x : UInt8) : jstep c x < 4294967296 := by
  unfold jstep
  exact nib_lt (nib_lt (Nat.xor_lt_two_pow (n := 32) h (by have := x.toNat_lt; omega)))
theorem fold_lt : ∀ (b : List UInt8) (c : Nat), c < 4294967296 → b.foldl jstep c < 4294967296
  | [], c, h => h
  | x :: b, c, h => fold_lt b _ (step_lt h x)
theorem reg_lt (b : List UInt8) : jreg b < 4294967296 := fold_lt b _ (by decide)
theorem reg_snoc (b : List UInt8) (x : UInt8) : jreg (b ++ [x]) = jstep (jreg b) x := by simp [jreg]
theorem reg_take {b : List UInt8} {i : Nat} {x : UInt8} (h : b[i]? = some x) : jreg (b.take (i + 1)) = jstep (jreg (b.take i)) x := by
  rw [List.take_add_one, h]
  exact reg_snoc _ _

/-- what three bytes name -/
def val3 (a b c : UInt8) : Nat := a.toNat * 65536 + b.toNat * 256 + c.toNat
/-- where the payload of the frame that b begins with ends, and an error's number -/
def jwhole (b : List UInt8) : Nat × Nat :=
  match b with
  | [] => (0, 90)
  | m0 :: r =>
    if m0 ≠ 199 then (0, 91) else
    match r with
    | [] => (0, 90)
    | m1 :: _ =>
      if m1 ≠ 157 then (0, 91) else
      if b.length < 8 then (0, 90) else
      if (b.drop 5).take 3 ≠ jcomp ((b.drop 2).take 3) then (0, 91) else
      let n := val3 (b.getD 2 0) (b.getD 3 0) (b.getD 4 0)
      if 131072 < n then (0, 92) else
      if b.length < 12 + n then (0, 90) else
      if jsum ((b.drop 12).take n) ≠ (b.drop 8).take 4 then (0, 93) else (12 + n, 0)
/-- the payload of the frame that b begins with, and how long the frame is -/
def jfirst (b : List UInt8) : List UInt8 × Nat × Nat :=
  if (jwhole b).2 = 0 then ((b.drop 12).take ((jwhole b).1 - 12), (jwhole b).1, 0) else ([], 0, (jwhole b).2)
def jpay (k : Nat) (r : List UInt8) : List UInt8 := be4 k ++ r
/-- the record of the payload that stands as number k -/
def jrecord (k : Nat) (p : List UInt8) : List UInt8 × Nat :=
  if p.length < 4 then ([], 102) else if p.take 4 ≠ be4 k then ([], 121) else (p.drop 4, 0)
/-- one step: the next record, how long its frame is; or why there is none -/
def jnext (k : Nat) (b : List UInt8) : List UInt8 × Nat × Nat :=
  if (jfirst b).2.2 = 0 then ((jrecord k (jfirst b).1).1, (jfirst b).2.1, (jrecord k (jfirst b).1).2) else ([], 0, (jfirst b).2.2)
/-- the records of a file's bytes behind the first k, how many bytes they are, and why it ended there -/
def jparseN : Nat → Nat → List UInt8 → List (List UInt8) × Nat × Nat
  | 0, k, b => ([], 0, 0)
  | f + 1, k, b =>
    if b = [] then ([], 0, 0) else
    if (jnext k b).2.2 ≠ 0 then ([], 0, (jnext k b).2.2) else
    ((jnext k b).1 :: (jparseN f (k + 1) (b.drop (jnext k b).2.1)).1, (jnext k b).2.1 + (jparseN f (k + 1) (b.drop (jnext k b).2.1)).2.1, (jparseN f (k + 1) (b.drop (jnext k b).2.1)).2.2)
def jparse (b : List UInt8) : List (List UInt8) × Nat × Nat := jparseN b.length 0 b

/-! ### a frame is found again -/
theorem ofNat_mod (n : Nat) : (UInt8.ofNat n).toNat = n % 256 := by simp
theorem val3_be3 {n : Nat} (h : n < 16777216) : val3 (UInt8.ofNat (n / 65536)) (UInt8.ofNat (n / 256)) (UInt8.ofNat n) = n := by
  unfold val3
  rw [ofNat_mod, ofNat_mod, ofNat_mod]
  omega
theorem whole_wrap {p r : List UInt8} (h : p.length ≤ 131072) : jwhole (jwrap p ++ r) = (12 + p.length, 0) := by
  have e : jwrap p ++ r = 199 :: 157 :: (be3 p.length ++ jcomp (be3 p.length) ++ jsum p ++ p ++ r) := by simp [jwrap]
  have hl : (jwrap p ++ r).length = p.length + 12 + r.length := by rw [List.length_append, wrap_len]
  have e2 : jwrap p ++ r = [199, 157, UInt8.ofNat (p.length / 65536), UInt8.ofNat (p.length / 256), UInt8.ofNat p.length, 255 ^^^ UInt8.ofNat (p.length / 65536), 255 ^^^ UInt8.ofNat (p.length / 256), 255 ^^^ UInt8.ofNat p.length,
    UInt8.ofNat (crc p / 16777216), UInt8.ofNat (crc p / 65536), UInt8.ofNat (crc p / 256), UInt8.ofNat (crc p)] ++ (p ++ r) := by simp [jwrap, be3, jcomp, jsum, be4]
  unfold jwhole
  rw [e2]
  simp only [List.cons_append, List.nil_append, List.drop_succ_cons, List.drop_zero, List.take_succ_cons, List.take_zero, List.getD_cons_succ, List.getD_cons_zero, List.length_cons]
  rw [val3_be3 (by omega)]
  rw [if_neg (by decide), if_neg (by decide), if_neg (by simp), if_neg (by simp [jcomp]), if_neg (by omega), if_neg (by simp; omega), if_neg (by simp [jsum, be4])]
theorem first_wrap {p r : List UInt8} (h : p.length ≤ 131072) : jfirst (jwrap p ++ r) = (p, p.length + 12, 0) := by
  unfold jfirst
  rw [whole_wrap h]
  simp only [if_true]
  have e : (jwrap p ++ r).drop 12 = p ++ r := by
    have h1 : (jwrap p).drop 12 = p := by simp [jwrap, be3, jcomp, jsum, be4]
    rw [List.drop_append_of_le_length (by rw [wrap_len]; omega), h1]
  rw [e, show 12 + p.length - 12 = p.length by omega, List.take_left]
  simp; omega
theorem record_payload (k : Nat) (r : List UInt8) : jrecord k (jpay k r) = (r, 0) := by
  unfold jrecord jpay
  rw [if_neg (by simp [be4_len])]
  have h1 : (be4 k ++ r).take 4 = be4 k := by simp [be4]
  have h2 : (be4 k ++ r).drop 4 = r := by simp [be4]
  rw [h1, if_neg (by simp), h2]
theorem payload_len (k : Nat) (r : List UInt8) : (jpay k r).length = r.length + 4 := by simp [jpay, be4_len]; omega
theorem next_wrap {k : Nat} {r t : List UInt8} (h : r.length ≤ 131068) : jnext k (jwrap (jpay k r) ++ t) = (r, r.length + 16, 0) := by
  unfold jnext
  rw [first_wrap (by rw [payload_len]; omega), record_payload, payload_len]
  simp
/-- the bytes of a file: the records' frames, the first one's number k -/
def fileOf : Nat → List (List UInt8) → List UInt8
  | _, [] => []
  | k, r :: l => jwrap (jpay k r) ++ fileOf (k + 1) l
theorem fileOf_append : ∀ (l m : List (List UInt8)) (k : Nat), fileOf k (l ++ m) = fileOf k l ++ fileOf (k + l.length) m
  | [], m, k => by simp [fileOf]
  | r :: l, m, k => by
    simp only [List.cons_append, fileOf, fileOf_append l m (k + 1), List.append_assoc, List.length_cons]
    rw [show k + 1 + l.length = k + (l.length + 1) by omega]
theorem fileOf_snoc (l : List (List UInt8)) (r : List UInt8) : fileOf 0 (l ++ [r]) = fileOf 0 l ++ jwrap (jpay l.length r) := by
  rw [fileOf_append]; simp [fileOf]
theorem fileOf_len : ∀ (l : List (List UInt8)) (k : Nat), (fileOf k l).length = (l.map fun r => r.length + 16).sum
  | [], k => rfl
  | r :: l, k => by simp [fileOf, wrap_len, payload_len, fileOf_len l]
theorem parseN_file : ∀ (l : List (List UInt8)) (f k : Nat), (∀ r ∈ l, r.length ≤ 131068) → l.length ≤ f → jparseN f k (fileOf k l) = (l, (fileOf k l).length, 0)
  | [], 0, k, _, _ => rfl
  | [], f + 1, k, _, _ => by simp [jparseN, fileOf]
  | r :: l, 0, k, _, h => by simp at h
  | r :: l, f + 1, k, hr, hf => by
    have hne : ¬ fileOf k (r :: l) = [] := fun e => by
      have := congrArg List.length e
      simp [fileOf, wrap_len] at this
    have hn : jnext k (fileOf k (r :: l)) = (r, r.length + 16, 0) := next_wrap (hr r (by simp))
    have hd : (fileOf k (r :: l)).drop (r.length + 16) = fileOf (k + 1) l := by
      have h1 : (jwrap (jpay k r)).length = r.length + 16 := by rw [wrap_len, payload_len]
      show (jwrap (jpay k r) ++ fileOf (k + 1) l).drop (r.length + 16) = _
      rw [← h1, List.drop_left]
    rw [jparseN, if_neg hne, hn]
    simp only [ne_eq, not_true_eq_false, if_false, hd]
    rw [parseN_file l f (k + 1) (fun x hx => hr x (by simp [hx])) (by simpa using hf)]
    simp only [fileOf, List.length_append, wrap_len, payload_len]
theorem count_le : ∀ (l : List (List UInt8)) (k : Nat), l.length ≤ (fileOf k l).length
  | [], _ => Nat.zero_le _
  | r :: l, k => by
    have := count_le l (k + 1)
    simp only [fileOf, List.length_cons, List.length_append, wrap_len]; omega
theorem parse_file {l : List (List UInt8)} (h : ∀ r ∈ l, r.length ≤ 131068) : jparse (fileOf 0 l) = (l, (fileOf 0 l).length, 0) := parseN_file l _ 0 h (count_le l 0)
end Go.Jn
namespace Go.Jn
set_option linter.unusedVariables false
set_option linter.unusedSimpArgs false

/-! ### the checksum tells one byte that is another one -/
theorem tab_top : ∀ i j : Fin 16, jtab.getD i.val 0 / 268435456 = jtab.getD j.val 0 / 268435456 → i = j := by decide
theorem xor_top (a b : Nat) (ha : a < 268435456) : (a ^^^ b) / 268435456 = b / 268435456 := by
  have h := Nat.shiftRight_xor_distrib (a := a) (b := b) (i := 28)
  rw [Nat.shiftRight_eq_div_pow, Nat.shiftRight_eq_div_pow, Nat.shiftRight_eq_div_pow, show (2 : Nat) ^ 28 = 268435456 from rfl, Nat.div_eq_of_lt ha, Nat.zero_xor] at h
  exact h
theorem nib_inj {c d : Nat} (hc : c < 4294967296) (hd : d < 4294967296) (h : nib c = nib d) : c = d := by
  unfold nib at h
  have h1 := congrArg (· / 268435456) h
  rw [xor_top _ _ (by omega), xor_top _ _ (by omega)] at h1
  have h2 : c % 16 = d % 16 := by
    have := tab_top ⟨c % 16, by omega⟩ ⟨d % 16, by omega⟩ h1
    simpa using this
  rw [h2] at h
  have h3 := congrArg (· ^^^ jtab.getD (d % 16) 0) h
  simp only [Nat.xor_assoc, Nat.xor_self, Nat.xor_zero] at h3
  omega
theorem xor_lt {c : Nat} (hc : c < 4294967296) (x : UInt8) : c ^^^ x.toNat < 4294967296 := Nat.xor_lt_two_pow (n := 32) hc (by have := x.toNat_lt; omega)
theorem step_inj {c d : Nat} {x y : UInt8} (hc : c < 4294967296) (hd : d < 4294967296) (h : jstep c x = jstep d y) : c ^^^ x.toNat = d ^^^ y.toNat :=
  nib_inj (xor_lt hc x) (xor_lt hd y) (nib_inj (nib_lt (xor_lt hc x)) (nib_lt (xor_lt hd y)) h)
theorem fold_inj : ∀ (b : List UInt8) {c d : Nat}, c < 4294967296 → d < 4294967296 → b.foldl jstep c = b.foldl jstep d → c = d
  | [], c, d, _, _, h => h
  | x :: b, c, d, hc, hd, h => by
    have h1 := fold_inj b (step_lt hc x) (step_lt hd x) h
    have h2 := step_inj hc hd h1
    have h3 := congrArg (· ^^^ x.toNat) h2
    simpa only [Nat.xor_assoc, Nat.xor_self, Nat.xor_zero] using h3
theorem reg_ne (a b : List UInt8) {x y : UInt8} (h : x ≠ y) : jreg (a ++ x :: b) ≠ jreg (a ++ y :: b) := fun e => by
  unfold jreg at e
  rw [List.foldl_append, List.foldl_append, List.foldl_cons, List.foldl_cons] at e
  have h0 := fold_lt a 4294967295 (by decide)
  have h1 := fold_inj b (step_lt h0 x) (step_lt h0 y) e
  have h2 := step_inj h0 h0 h1
  have h3 := congrArg (a.foldl jstep 4294967295 ^^^ ·) h2
  simp only [← Nat.xor_assoc, Nat.xor_self, Nat.zero_xor] at h3
  exact h (UInt8.toNat.inj h3)
theorem crc_lt (b : List UInt8) : crc b < 4294967296 := Nat.xor_lt_two_pow (n := 32) (by decide) (reg_lt b)
theorem be4_inj {m n : Nat} (hm : m < 4294967296) (hn : n < 4294967296) (h : be4 m = be4 n) : m = n := by
  unfold be4 at h
  simp only [List.cons.injEq, and_true] at h
  obtain ⟨h0, h1, h2, h3⟩ := h
  have g0 := congrArg UInt8.toNat h0
  have g1 := congrArg UInt8.toNat h1
  have g2 := congrArg UInt8.toNat h2
  have g3 := congrArg UInt8.toNat h3
  rw [ofNat_mod, ofNat_mod] at g0 g1 g2 g3
  omega
theorem sum_ne (a b : List UInt8) {x y : UInt8} (h : x ≠ y) : jsum (a ++ x :: b) ≠ jsum (a ++ y :: b) := fun e => by
  have h1 := be4_inj (crc_lt _) (crc_lt _) e
  unfold crc at h1
  have h2 := congrArg (4294967295 ^^^ ·) h1
  simp only [← Nat.xor_assoc, Nat.xor_self, Nat.zero_xor] at h2
  exact reg_ne a b h h2

/-! ### a strict beginning of a frame -/
theorem whole_short {p : List UInt8} (hp : p.length ≤ 131072) {m : Nat} (hm0 : 0 < m) (hm : m < p.length + 12) (r : List UInt8) : jwhole ((jwrap p).take m) = (0, 90) := by
  have e2 : jwrap p = 199 :: 157 :: UInt8.ofNat (p.length / 65536) :: UInt8.ofNat (p.length / 256) :: UInt8.ofNat p.length :: (255 ^^^ UInt8.ofNat (p.length / 65536)) :: (255 ^^^ UInt8.ofNat (p.length / 256)) :: (255 ^^^ UInt8.ofNat p.length) :: (jsum p ++ p) := by
    simp [jwrap, be3, jcomp]
  have hl : ((jwrap p).take m).length = m := by rw [List.length_take, wrap_len]; omega
  by_cases h8 : m < 8
  · rw [e2] at hl ⊢
    match m, hm0, h8 with
    | 1, _, _ => rfl
    | m + 2, _, h8 =>
      unfold jwhole
      simp only [List.take_succ_cons] at hl ⊢
      refine (if_neg (by decide)).trans ((if_neg (by decide)).trans (if_pos (by rw [hl]; exact h8)))
  · obtain ⟨q, rfl⟩ : ∃ q, m = q + 8 := ⟨m - 8, by omega⟩
    rw [e2] at hl ⊢
    unfold jwhole
    simp only [List.take_succ_cons] at hl ⊢
    refine (if_neg (by decide)).trans ((if_neg (by decide)).trans ((if_neg (by rw [hl]; omega)).trans ?_))
    simp only [List.drop_succ_cons, List.drop_zero, List.take_succ_cons, List.take_zero, List.getD_cons_succ, List.getD_cons_zero]
    rw [val3_be3 (by omega), if_neg (by simp [jcomp]), if_neg (by omega), if_pos (by rw [hl]; omega)]
/-- what Parse finds of whole records and something behind them that is none -/
theorem parseN_stop : ∀ (l : List (List UInt8)) (f k : Nat) (rest : List UInt8), (∀ r ∈ l, r.length ≤ 131068) → l.length + rest.length ≤ f → rest ≠ [] → (jnext (k + l.length) rest).2.2 ≠ 0 →
    jparseN f k (fileOf k l ++ rest) = (l, (fileOf k l).length, (jnext (k + l.length) rest).2.2)
  | [], 0, k, rest, _, hf, hne, _ => by
    have := List.length_pos_iff.2 hne
    simp at hf
    exact absurd hf hne
  | [], f + 1, k, rest, _, hf, hne, he => by
    simp only [fileOf, List.nil_append, List.length_nil, Nat.add_zero] at he ⊢
    rw [jparseN, if_neg hne, if_pos he]
  | r :: l, 0, k, rest, _, hf, _, _ => by simp at hf
  | r :: l, f + 1, k, rest, hr, hf, hne, he => by
    have hn0 : ¬ fileOf k (r :: l) ++ rest = [] := fun e => hne (List.append_eq_nil_iff.1 e).2
    have hn : jnext k (fileOf k (r :: l) ++ rest) = (r, r.length + 16, 0) := by
      show jnext k ((jwrap (jpay k r) ++ fileOf (k + 1) l) ++ rest) = _
      rw [List.append_assoc]
      exact next_wrap (hr r (by simp))
    have hd : (fileOf k (r :: l) ++ rest).drop (r.length + 16) = fileOf (k + 1) l ++ rest := by
      have h1 : (jwrap (jpay k r)).length = r.length + 16 := by rw [wrap_len, payload_len]
      show ((jwrap (jpay k r) ++ fileOf (k + 1) l) ++ rest).drop (r.length + 16) = _
      rw [List.append_assoc, ← h1, List.drop_left]
    have he' : (jnext (k + 1 + l.length) rest).2.2 ≠ 0 := by
      rw [List.length_cons, show k + (l.length + 1) = k + 1 + l.length by omega] at he
      exact he
    rw [jparseN, if_neg hn0, hn]
    simp only [ne_eq, not_true_eq_false, if_false, hd]
    rw [parseN_stop l f (k + 1) rest (fun x hx => hr x (by simp [hx])) (by simp at hf; omega) hne he']
    rw [List.length_cons, show k + (l.length + 1) = k + 1 + l.length by omega]
    simp only [fileOf, List.length_append, wrap_len, payload_len]
theorem parse_stop {l : List (List UInt8)} {rest : List UInt8} (hr : ∀ r ∈ l, r.length ≤ 131068) (hne : rest ≠ []) (he : (jnext l.length rest).2.2 ≠ 0) :
    jparse (fileOf 0 l ++ rest) = (l, (fileOf 0 l).length, (jnext l.length rest).2.2) := by
  have h := parseN_stop l (fileOf 0 l ++ rest).length 0 rest hr (by rw [List.length_append]; have := count_le l 0; omega) hne (by rw [Nat.zero_add]; exact he)
  rw [Nat.zero_add] at h
  exact h
theorem next_err {k : Nat} {b : List UInt8} (h : (jwhole b).2 ≠ 0) : (jnext k b).2.2 = (jwhole b).2 := by
  have h1 : (jfirst b).2.2 = (jwhole b).2 := by unfold jfirst; rw [if_neg h]
  unfold jnext
  rw [h1, if_neg h]
/-- the file cut within a frame -/
theorem parse_cut {l : List (List UInt8)} {r : List UInt8} (hr : ∀ x ∈ l, x.length ≤ 131068) (hr1 : r.length ≤ 131068) {m : Nat} (hm0 : 0 < m) (hm : m < r.length + 16) :
    jparse (fileOf 0 l ++ (jwrap (jpay l.length r)).take m) = (l, (fileOf 0 l).length, 90) := by
  have hw := whole_short (p := jpay l.length r) (by rw [payload_len]; omega) hm0 (by rw [payload_len]; omega) []
  have he : (jnext l.length ((jwrap (jpay l.length r)).take m)).2.2 = 90 := by rw [next_err (by rw [hw]; simp), hw]
  have hne : (jwrap (jpay l.length r)).take m ≠ [] := fun e => by
    have := congrArg List.length e
    rw [List.length_take, wrap_len, payload_len] at this
    simp at this
    omega
  rw [parse_stop hr hne (by rw [he]; simp), he]
/-! ### one byte of a frame is another one -/
theorem wrap_list (p : List UInt8) : jwrap p = 199 :: 157 :: UInt8.ofNat (p.length / 65536) :: UInt8.ofNat (p.length / 256) :: UInt8.ofNat p.length :: (255 ^^^ UInt8.ofNat (p.length / 65536)) :: (255 ^^^ UInt8.ofNat (p.length / 256)) :: (255 ^^^ UInt8.ofNat p.length) ::
    UInt8.ofNat (crc p / 16777216) :: UInt8.ofNat (crc p / 65536) :: UInt8.ofNat (crc p / 256) :: UInt8.ofNat (crc p) :: p := by
  simp [jwrap, be3, jcomp, jsum, be4]
/-- what 'whole' says of twelve bytes and what stands behind them -/
theorem whole_eq (m0 m1 a b c d e f s0 s1 s2 s3 : UInt8) (r : List UInt8) : jwhole (m0 :: m1 :: a :: b :: c :: d :: e :: f :: s0 :: s1 :: s2 :: s3 :: r) =
    if m0 ≠ 199 then (0, 91) else if m1 ≠ 157 then (0, 91) else if [d, e, f] ≠ [255 ^^^ a, 255 ^^^ b, 255 ^^^ c] then (0, 91) else if 131072 < val3 a b c then (0, 92) else if r.length < val3 a b c then (0, 90) else
    if jsum (r.take (val3 a b c)) ≠ [s0, s1, s2, s3] then (0, 93) else (12 + val3 a b c, 0) := by
  have hl : (m0 :: m1 :: a :: b :: c :: d :: e :: f :: s0 :: s1 :: s2 :: s3 :: r).length = r.length + 12 := by simp
  unfold jwhole
  rw [hl]
  simp only [List.drop_succ_cons, List.drop_zero, List.take_succ_cons, List.take_zero, List.getD_cons_succ, List.getD_cons_zero, jcomp, List.map_cons, List.map_nil]
  have e1 : (r.length + 12 < 8) = False := eq_false (by omega)
  have e2 : (r.length + 12 < 12 + val3 a b c) = (r.length < val3 a b c) := propext ⟨by omega, by omega⟩
  simp only [e1, e2, if_false]
theorem xor255 {x y : UInt8} (h : 255 ^^^ x = 255 ^^^ y) : x = y := by
  have h1 := congrArg (255 ^^^ ·) h
  simpa [← UInt8.xor_assoc] using h1
theorem whole_spoilt {p t : List UInt8} (hp : p.length ≤ 131072) {o : Nat} {x y : UInt8} (hx : (jwrap p)[o]? = some x) (hxy : y ≠ x) : jwhole ((jwrap p).set o y ++ t) = (0, if o < 8 then 91 else 93) := by
  have hv := val3_be3 (n := p.length) (by omega)
  have hsum : jsum p = [UInt8.ofNat (crc p / 16777216), UInt8.ofNat (crc p / 65536), UInt8.ofNat (crc p / 256), UInt8.ofNat (crc p)] := rfl
  have htk : (p ++ t).take p.length = p := List.take_left
  rw [wrap_list] at hx ⊢
  match o, hx with
  | 0, hx =>
    obtain rfl : (199 : UInt8) = x := by simpa using hx
    simp only [List.set_cons_zero, List.cons_append]
    rw [whole_eq, if_pos hxy]; rfl
  | 1, hx =>
    obtain rfl : (157 : UInt8) = x := by simpa using hx
    simp only [List.set_cons_zero, List.set_cons_succ, List.cons_append]
    rw [whole_eq, if_neg (by simp), if_pos hxy]; rfl
  | 2, hx =>
    obtain rfl : UInt8.ofNat (p.length / 65536) = x := by simpa using hx
    simp only [List.set_cons_zero, List.set_cons_succ, List.cons_append]
    rw [whole_eq, if_neg (by simp), if_neg (by simp), if_pos (fun h => hxy (by simp only [List.cons.injEq] at h; exact (xor255 h.1).symm))]; rfl
  | 3, hx =>
    obtain rfl : UInt8.ofNat (p.length / 256) = x := by simpa using hx
    simp only [List.set_cons_zero, List.set_cons_succ, List.cons_append]
    rw [whole_eq, if_neg (by simp), if_neg (by simp), if_pos (fun h => hxy (by simp only [List.cons.injEq] at h; exact (xor255 h.2.1).symm))]; rfl
  | 4, hx =>
    obtain rfl : UInt8.ofNat p.length = x := by simpa using hx
    simp only [List.set_cons_zero, List.set_cons_succ, List.cons_append]
    rw [whole_eq, if_neg (by simp), if_neg (by simp), if_pos (fun h => hxy (by simp only [List.cons.injEq] at h; exact (xor255 h.2.2.1).symm))]; rfl
  | 5, hx =>
    obtain rfl : 255 ^^^ UInt8.ofNat (p.length / 65536) = x := by simpa using hx
    simp only [List.set_cons_zero, List.set_cons_succ, List.cons_append]
    rw [whole_eq, if_neg (by simp), if_neg (by simp), if_pos (fun h => hxy (by simp only [List.cons.injEq] at h; exact h.1))]; rfl
  | 6, hx =>
    obtain rfl : 255 ^^^ UInt8.ofNat (p.length / 256) = x := by simpa using hx
    simp only [List.set_cons_zero, List.set_cons_succ, List.cons_append]
    rw [whole_eq, if_neg (by simp), if_neg (by simp), if_pos (fun h => hxy (by simp only [List.cons.injEq] at h; exact h.2.1))]; rfl
  | 7, hx =>
    obtain rfl : 255 ^^^ UInt8.ofNat p.length = x := by simpa using hx
    simp only [List.set_cons_zero, List.set_cons_succ, List.cons_append]
    rw [whole_eq, if_neg (by simp), if_neg (by simp), if_pos (fun h => hxy (by simp only [List.cons.injEq] at h; exact h.2.2.1))]; rfl
  | 8, hx =>
    obtain rfl : UInt8.ofNat (crc p / 16777216) = x := by simpa using hx
    simp only [List.set_cons_zero, List.set_cons_succ, List.cons_append]
    rw [whole_eq, if_neg (by simp), if_neg (by simp), if_neg (by simp), hv, if_neg (by omega), if_neg (by simp), htk, hsum, if_pos (fun h => hxy (by simp only [List.cons.injEq] at h; exact h.1.symm))]; rfl
  | 9, hx =>
    obtain rfl : UInt8.ofNat (crc p / 65536) = x := by simpa using hx
    simp only [List.set_cons_zero, List.set_cons_succ, List.cons_append]
    rw [whole_eq, if_neg (by simp), if_neg (by simp), if_neg (by simp), hv, if_neg (by omega), if_neg (by simp), htk, hsum, if_pos (fun h => hxy (by simp only [List.cons.injEq] at h; exact h.2.1.symm))]; rfl
  | 10, hx =>
    obtain rfl : UInt8.ofNat (crc p / 256) = x := by simpa using hx
    simp only [List.set_cons_zero, List.set_cons_succ, List.cons_append]
    rw [whole_eq, if_neg (by simp), if_neg (by simp), if_neg (by simp), hv, if_neg (by omega), if_neg (by simp), htk, hsum, if_pos (fun h => hxy (by simp only [List.cons.injEq] at h; exact h.2.2.1.symm))]; rfl
  | 11, hx =>
    obtain rfl : UInt8.ofNat (crc p) = x := by simpa using hx
    simp only [List.set_cons_zero, List.set_cons_succ, List.cons_append]
    rw [whole_eq, if_neg (by simp), if_neg (by simp), if_neg (by simp), hv, if_neg (by omega), if_neg (by simp), htk, hsum, if_pos (fun h => hxy (by simp only [List.cons.injEq] at h; exact h.2.2.2.1.symm))]; rfl
  | q + 12, hx =>
    have hq : p[q]? = some x := by simpa using hx
    simp only [List.set_cons_succ, List.cons_append]
    have hl : (p.set q y).length = p.length := by simp
    have htk2 : (p.set q y ++ t).take p.length = p.set q y := by rw [← hl, List.take_left]
    have hne : jsum (p.set q y) ≠ jsum p := by
      have hql := (List.getElem?_eq_some_iff.1 hq).1
      have hpx : p = p.take q ++ x :: p.drop (q + 1) := by
        have h1 : p.drop q = x :: p.drop (q + 1) := by rw [List.drop_eq_getElem_cons hql]; congr 1; exact (List.getElem?_eq_some_iff.1 hq).2
        rw [← h1, List.take_append_drop]
      have hps : p.set q y = p.take q ++ y :: p.drop (q + 1) := by rw [List.set_eq_take_append_cons_drop, if_pos hql]
      rw [hps]
      intro h
      exact sum_ne (p.take q) (p.drop (q + 1)) hxy (h.trans (congrArg jsum hpx))
    rw [whole_eq, if_neg (by simp), if_neg (by simp), if_neg (by simp), hv, if_neg (by omega), if_neg (by simp), htk2, ← hsum, if_pos hne]
    simp
end Go.Jn
namespace Go.Jn
set_option linter.unusedVariables false
open Go.Dm

theorem list12 {b : List UInt8} (h : 12 ≤ b.length) : ∃ m0 m1 a1 b1 c1 d e f s0 s1 s2 s3 r, b = m0 :: m1 :: a1 :: b1 :: c1 :: d :: e :: f :: s0 :: s1 :: s2 :: s3 :: r := by
  match b, h with
  | m0 :: m1 :: a1 :: b1 :: c1 :: d :: e :: f :: s0 :: s1 :: s2 :: s3 :: r, _ => exact ⟨m0, m1, a1, b1, c1, d, e, f, s0, s1, s2, s3, r, rfl⟩
theorem whole_12 {b : List UInt8} (h : (jwhole b).2 = 0) : 12 ≤ b.length := by
  match b with
  | [] => simp [jwhole] at h
  | [m0] => unfold jwhole at h; by_cases h0 : m0 = 199 <;> simp [h0] at h
  | m0 :: m1 :: r =>
    unfold jwhole at h
    simp only at h
    by_cases h0 : m0 = 199
    · rw [if_neg (by simpa using h0)] at h
      by_cases h1 : m1 = 157
      · rw [if_neg (by simpa using h1)] at h
        split at h
        · simp at h
        · split at h
          · simp at h
          · split at h
            · simp at h
            · split at h
              · simp at h
              · omega
      · rw [if_pos h1] at h; simp at h
    · rw [if_pos h0] at h; simp at h
theorem be3_val3 (a b c : UInt8) : be3 (val3 a b c) = [a, b, c] := by
  have ha := a.toNat_lt
  have hb := b.toNat_lt
  have hc := c.toNat_lt
  unfold be3 val3
  have e1 : UInt8.ofNat ((a.toNat * 65536 + b.toNat * 256 + c.toNat) / 65536) = a := UInt8.toNat.inj (by rw [ofNat_mod]; omega)
  have e2 : UInt8.ofNat ((a.toNat * 65536 + b.toNat * 256 + c.toNat) / 256) = b := UInt8.toNat.inj (by rw [ofNat_mod]; omega)
  have e3 : UInt8.ofNat (a.toNat * 65536 + b.toNat * 256 + c.toNat) = c := UInt8.toNat.inj (by rw [ofNat_mod]; omega)
  rw [e1, e2, e3]
/-- bytes that begin with a frame -/
theorem whole_inv {b : List UInt8} (h : (jwhole b).2 = 0) : ∃ p t, p.length ≤ 131072 ∧ b = jwrap p ++ t ∧ (jwhole b).1 = 12 + p.length := by
  obtain ⟨m0, m1, a1, b1, c1, d, e, f, s0, s1, s2, s3, r, rfl⟩ := list12 (whole_12 h)
  rw [whole_eq] at h ⊢
  by_cases h0 : m0 = 199
  · rw [if_neg (by simpa using h0)] at h ⊢
    by_cases h1 : m1 = 157
    · rw [if_neg (by simpa using h1)] at h ⊢
      by_cases h2 : [d, e, f] = [255 ^^^ a1, 255 ^^^ b1, 255 ^^^ c1]
      · rw [if_neg (by simpa using h2)] at h ⊢
        by_cases h3 : 131072 < val3 a1 b1 c1
        · rw [if_pos h3] at h; simp at h
        · rw [if_neg h3] at h ⊢
          by_cases h4 : r.length < val3 a1 b1 c1
          · rw [if_pos h4] at h; simp at h
          · rw [if_neg h4] at h ⊢
            by_cases h5 : jsum (r.take (val3 a1 b1 c1)) = [s0, s1, s2, s3]
            · rw [if_neg (by simpa using h5)]
              have hl : (r.take (val3 a1 b1 c1)).length = val3 a1 b1 c1 := by rw [List.length_take]; omega
              refine ⟨r.take (val3 a1 b1 c1), r.drop (val3 a1 b1 c1), by omega, ?_, by rw [hl]⟩
              simp only [jwrap, hl, be3_val3, h5, jcomp, List.map_cons, List.map_nil, List.cons_append, List.nil_append, List.append_assoc, List.take_append_drop]
              simp only [List.cons.injEq, and_true] at h2
              rw [h0, h1, h2.1, h2.2.1, h2.2.2]
            · rw [if_pos h5] at h; simp at h
      · rw [if_pos h2] at h; simp at h
    · rw [if_pos h1] at h; simp at h
  · rw [if_pos h0] at h; simp at h
theorem first_inv {b : List UInt8} (h : (jfirst b).2.2 = 0) : (jfirst b).1.length ≤ 131072 ∧ (∃ t, b = jwrap (jfirst b).1 ++ t) ∧ (jfirst b).2.1 = (jfirst b).1.length + 12 := by
  have hw : (jwhole b).2 = 0 := by
    unfold jfirst at h
    split at h
    · assumption
    · exact h
  obtain ⟨p, t, hp, hb, -⟩ := whole_inv hw
  rw [hb, first_wrap hp]
  exact ⟨hp, ⟨t, rfl⟩, rfl⟩
theorem record_inv {k : Nat} {p : List UInt8} (h : (jrecord k p).2 = 0) : p = jpay k (jrecord k p).1 := by
  unfold jrecord at h ⊢
  split at h
  · simp at h
  · split at h
    · simp at h
    · rename_i h1 h2
      rw [if_neg h1, if_neg h2]
      have h3 : p.take 4 = be4 k := by simpa using h2
      unfold jpay
      rw [← h3, List.take_append_drop]
theorem next_inv {k : Nat} {b : List UInt8} (h : (jnext k b).2.2 = 0) : (jnext k b).1.length ≤ 131068 ∧ (∃ t, b = jwrap (jpay k (jnext k b).1) ++ t) ∧ (jnext k b).2.1 = (jnext k b).1.length + 16 := by
  have hf : (jfirst b).2.2 = 0 := by
    unfold jnext at h
    split at h
    · assumption
    · exact h
  obtain ⟨h1, ⟨t, h2⟩, h3⟩ := first_inv hf
  unfold jnext at h ⊢
  rw [if_pos hf] at h ⊢
  have h4 := record_inv h
  have h5 : (jfirst b).1.length = (jrecord k (jfirst b).1).1.length + 4 := by
    have := congrArg List.length h4
    rw [payload_len] at this
    exact this
  simp only at h ⊢
  refine ⟨by omega, ⟨t, ?_⟩, by omega⟩
  rw [← h4]; exact h2
/-- what Parse finds lies in the bytes that are good -/
theorem parseN_inv : ∀ (f k : Nat) (b : List UInt8), (∀ r ∈ (jparseN f k b).1, r.length ≤ 131068) ∧ (∃ t, b = fileOf k (jparseN f k b).1 ++ t) ∧ (jparseN f k b).2.1 = (fileOf k (jparseN f k b).1).length
  | 0, k, b => ⟨by simp [jparseN], ⟨b, by simp [jparseN, fileOf]⟩, by simp [jparseN, fileOf]⟩
  | f + 1, k, b => by
    unfold jparseN
    by_cases hb : b = []
    · rw [if_pos hb]; exact ⟨by simp, ⟨[], by simp [fileOf, hb]⟩, by simp [fileOf]⟩
    · rw [if_neg hb]
      by_cases hn : (jnext k b).2.2 = 0
      · rw [if_neg (by simpa using hn)]
        obtain ⟨h1, ⟨t, h2⟩, h3⟩ := next_inv hn
        have hl : (jwrap (jpay k (jnext k b).1)).length = (jnext k b).2.1 := by rw [wrap_len, payload_len, h3]
        have hd : b.drop (jnext k b).2.1 = t := by
          have := congrArg (List.drop (jnext k b).2.1) h2
          rw [this, ← hl, List.drop_left]
        obtain ⟨i1, ⟨u, i2⟩, i3⟩ := parseN_inv f (k + 1) (b.drop (jnext k b).2.1)
        refine ⟨fun r hr => ?_, ⟨u, ?_⟩, ?_⟩
        · rcases List.mem_cons.1 hr with rfl | hr
          · exact h1
          · exact i1 r hr
        · show b = (jwrap (jpay k (jnext k b).1) ++ fileOf (k + 1) _) ++ u
          rw [List.append_assoc, ← i2, hd]
          exact h2
        · show (jnext k b).2.1 + _ = (jwrap (jpay k (jnext k b).1) ++ fileOf (k + 1) _).length
          rw [List.length_append, hl, i3]
      · rw [if_pos hn]; exact ⟨by simp, ⟨b, by simp [fileOf]⟩, by simp [fileOf]⟩
theorem parse_inv (b : List UInt8) : (∀ r ∈ (jparse b).1, r.length ≤ 131068) ∧ (∃ t, b = fileOf 0 (jparse b).1 ++ t) ∧ (jparse b).2.1 = (fileOf 0 (jparse b).1).length := parseN_inv _ 0 b
theorem parse_good_le (b : List UInt8) : (jparse b).2.1 ≤ b.length := by
  obtain ⟨-, ⟨t, h⟩, h2⟩ := parse_inv b
  rw [h2]
  have := congrArg List.length h
  rw [List.length_append] at this
  omega

/-- Open, plainly: the records, how many bytes are cut, the fault's place and number (0: none), the disk behind -/
def openR (D : Dk) (nm : ByteArray) : List (List UInt8) × Nat × Nat × Nat × Dk :=
  if (D.size nm).2.2 = 112 then ([], 0, 0, 0, D) else if (D.size nm).2.2 ≠ 0 then ([], 0, 0, (D.size nm).2.2, D) else
  let P := jparse (bytesOf D.files nm)
  let C := if P.2.1 < (D.size nm).1 then D.cut nm (P.2.1 : Int) else (0, D)
  if C.1 ≠ 0 then ([], 0, P.1.length, C.1, C.2) else
  let Y := if (D.size nm).2.1 < P.2.1 then C.2.sync nm else (0, C.2)
  if Y.1 ≠ 0 then ([], 0, P.1.length, Y.1, Y.2) else (P.1, (D.size nm).1 - P.2.1, 0, 0, Y.2)
theorem size_ok {D : Dk} {nm : ByteArray} (h : (D.size nm).2.2 = 0) : D.look nm = 0 ∧ D.size nm = ((bytesOf D.files nm).length, sureOf D.files nm, 0) ∧ D.read nm 0 ((bytesOf D.files nm).length : Int) = (bytesOf D.files nm, 0) := by
  unfold Dk.size at h ⊢
  by_cases hl : D.look nm = 0
  · rw [if_pos hl] at h ⊢
    have e1 : lenOf D.files nm = (bytesOf D.files nm).length := by unfold lenOf bytesOf; split <;> rfl
    refine ⟨hl, by rw [e1], ?_⟩
    unfold Dk.read
    rw [if_pos hl, if_neg (by rw [e1]; omega)]
    simp
  · rw [if_neg hl] at h
    exact absurd h hl
end Go.Jn
namespace Go.Proofs
open Go.Dm Go.Jn
section
variable {l : List (List UInt8)} {r : List UInt8}
/-- where the k-th record's frame begins -/
def atN (l : List (List UInt8)) (k : Nat) : Nat := (fileOf 0 (l.take k)).length
theorem atN_zero (l : List (List UInt8)) : atN l 0 = 0 := by simp [atN, fileOf]
theorem atN_succ {k : Nat} {x : List UInt8} (h : l[k]? = some x) : atN l (k + 1) = atN l k + (x.length + 16) := by
  have hk : k < l.length := (List.getElem?_eq_some_iff.1 h).1
  unfold atN
  rw [List.take_add_one, h]
  show (fileOf 0 (l.take k ++ [x])).length = _
  rw [fileOf_snoc, List.length_append, wrap_len, payload_len]
theorem atN_all (l : List (List UInt8)) : atN l l.length = (fileOf 0 l).length := by rw [atN, List.take_length]
theorem atN_snoc {k : Nat} (x : List UInt8) (h : k ≤ l.length) : atN (l ++ [x]) k = atN l k := by
  unfold atN
  rw [List.take_append_of_le_length h]
theorem atN_lt {k : Nat} (h : k < l.length) : atN l k < atN l (k + 1) := by
  rw [atN_succ (List.getElem?_eq_getElem h)]; omega
theorem atN_mono {i k : Nat} (h : i ≤ k) (hk : k ≤ l.length) : atN l i ≤ atN l k := by
  induction k with
  | zero => have : i = 0 := by omega
            subst this; exact Nat.le_refl _
  | succ k ih =>
    by_cases e : i = k + 1
    · subst e; exact Nat.le_refl _
    · exact Nat.le_trans (ih (by omega) (by omega)) (Nat.le_of_lt (atN_lt (by omega)))
/-- the file: the first k frames, the k-th, the others -/
theorem file_at {k : Nat} {x : List UInt8} (h : l[k]? = some x) : fileOf 0 l = fileOf 0 (l.take k) ++ (jwrap (jpay k x) ++ fileOf (k + 1) (l.drop (k + 1))) := by
  have hk : k < l.length := (List.getElem?_eq_some_iff.1 h).1
  have e1 : l = l.take k ++ (x :: l.drop (k + 1)) := by
    have : l.drop k = x :: l.drop (k + 1) := by rw [List.drop_eq_getElem_cons hk]; congr 1; exact (List.getElem?_eq_some_iff.1 h).2
    rw [← this, List.take_append_drop]
  have e2 : fileOf 0 l = fileOf 0 (l.take k ++ (x :: l.drop (k + 1))) := congrArg (fileOf 0) e1
  rw [e2, fileOf_append, List.length_take, Nat.min_eq_left (Nat.le_of_lt hk), Nat.zero_add]
  rfl
/-- cut anywhere -/
theorem parse_torn (hr : ∀ x ∈ l, x.length ≤ 131068) {k n : Nat} (hk : k ≤ l.length) (h1 : atN l k ≤ n) (h2 : k < l.length → n < atN l (k + 1)) (h3 : k = l.length → n = atN l k) :
    jparse ((fileOf 0 l).take n) = (l.take k, atN l k, if atN l k < n then 90 else 0) := by
  by_cases hkl : k < l.length
  · obtain ⟨x, hx⟩ : ∃ x, l[k]? = some x := ⟨_, List.getElem?_eq_getElem hkl⟩
    have hlt := h2 hkl
    rw [atN_succ hx] at hlt
    have hx1 : x.length ≤ 131068 := hr x (List.mem_of_getElem? hx)
    have e : (fileOf 0 l).take n = fileOf 0 (l.take k) ++ (jwrap (jpay (l.take k).length x)).take (n - atN l k) := by
      have hl1 : (l.take k).length = k := by rw [List.length_take]; omega
      rw [hl1, file_at hx, List.take_append, show (fileOf 0 (l.take k)).length = atN l k from rfl, List.take_of_length_le (show (fileOf 0 (l.take k)).length ≤ n from h1), List.take_append_of_le_length (by rw [wrap_len, payload_len]; omega)]
    rw [e]
    by_cases hm : atN l k < n
    · rw [if_pos hm, parse_cut (fun y hy => hr y (List.mem_of_mem_take hy)) hx1 (by omega) (by omega)]
      rfl
    · rw [if_neg hm, show n - atN l k = 0 by omega, List.take_zero, List.append_nil, parse_file fun y hy => hr y (List.mem_of_mem_take hy)]
      rfl
  · obtain rfl : k = l.length := by omega
    have hn := h3 rfl
    rw [if_neg (by omega), List.take_length, hn, atN_all, List.take_length, parse_file hr]
/-- one byte is another one -/
theorem parse_spoilt (hr : ∀ x ∈ l, x.length ≤ 131068) {k o : Nat} {u y : UInt8} (hk : k < l.length) (h1 : atN l k ≤ o) (h2 : o < atN l (k + 1)) (hu : (fileOf 0 l)[o]? = some u) (hy : y ≠ u) :
    jparse ((fileOf 0 l).set o y) = (l.take k, atN l k, if o - atN l k < 8 then 91 else 93) := by
  obtain ⟨x, hx⟩ : ∃ x, l[k]? = some x := ⟨_, List.getElem?_eq_getElem hk⟩
  rw [atN_succ hx] at h2
  have hx1 : x.length ≤ 131068 := hr x (List.mem_of_getElem? hx)
  have hl1 : (l.take k).length = k := by rw [List.length_take]; omega
  have hwl : (jwrap (jpay k x)).length = x.length + 16 := by rw [wrap_len, payload_len]
  have e := file_at hx
  have hfl : (fileOf 0 (l.take k)).length = atN l k := rfl
  have hu2 : (jwrap (jpay k x))[o - atN l k]? = some u := by
    rw [e, List.getElem?_append_right (by rw [hfl]; exact h1), hfl, List.getElem?_append_left (by rw [hwl]; omega)] at hu
    exact hu
  have hs : (fileOf 0 l).set o y = fileOf 0 (l.take k) ++ ((jwrap (jpay k x)).set (o - atN l k) y ++ fileOf (k + 1) (l.drop (k + 1))) := by
    rw [e, List.set_append_right _ _ (by rw [hfl]; exact h1), hfl, List.set_append_left _ _ (by rw [hwl]; omega)]
  have hw := whole_spoilt (p := jpay k x) (t := fileOf (k + 1) (l.drop (k + 1))) (by rw [payload_len]; omega) hu2 hy
  have hne : (jwhole ((jwrap (jpay k x)).set (o - atN l k) y ++ fileOf (k + 1) (l.drop (k + 1)))).2 ≠ 0 := by rw [hw]; simp only; split <;> simp
  have hnx := next_err (k := (l.take k).length) hne
  rw [hs, parse_stop (fun z hz => hr z (List.mem_of_mem_take hz)) (fun h0 => by
    have := congrArg List.length h0
    rw [List.length_append, List.length_set, hwl] at this
    simp at this) (by rw [hnx]; exact hne), hnx, hw]
  rfl
end
end Go.Proofs
