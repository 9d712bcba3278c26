/- The journal's frames, plainly: the checksum, a frame, what a frame's beginning says, a file's records. No program in sight. -/
import Derived.WalkKit
namespace Go.Jn
set_option linter.unusedVariables false

/-- what four shifts do to a register -/
def jtab : List Nat := [0, 274646895, 549293790, 820201905, 1098587580, 1361435347, 1640403810, 1905808397, 2197175160, 2460548119, 2722870694, 2987750089, 3280807620, 3553878443, 3811616794, 4084100981]
def nib (c : Nat) : Nat := (c / 16) ^^^ jtab.getD (c % 16) 0
def jstep (c : Nat) (x : UInt8) : Nat := nib (nib (c ^^^ x.toNat))
def jreg (b : List UInt8) : Nat := b.foldl jstep 4294967295
def crc (b : List UInt8) : Nat := 4294967295 ^^^ jreg b
def be4 (n : Nat) : List UInt8 := [UInt8.ofNat (n / 16777216), UInt8.ofNat (n / 65536), UInt8.ofNat (n / 256), UInt8.ofNat n]
def be3 (n : Nat) : List UInt8 := [UInt8.ofNat (n / 65536), UInt8.ofNat (n / 256), UInt8.ofNat n]
def jcomp (b : List UInt8) : List UInt8 := b.map fun x => 255 ^^^ x
def jsum (b : List UInt8) : List UInt8 := be4 (crc b)
/-- a payload's frame -/
def jwrap (p : List UInt8) : List UInt8 := [199, 157] ++ be3 p.length ++ jcomp (be3 p.length) ++ jsum p ++ p

theorem be3_len (n : Nat) : (be3 n).length = 3 := rfl
theorem be4_len (n : Nat) : (be4 n).length = 4 := rfl
theorem sum_len (b : List UInt8) : (jsum b).length = 4 := rfl
theorem comp_len (b : List UInt8) : (jcomp b).length = b.length := by simp [jcomp]
theorem wrap_len (p : List UInt8) : (jwrap p).length = p.length + 12 := by simp [jwrap, be3_len, comp_len, sum_len]; omega

theorem tab_lt : ∀ i, jtab.getD i 0 < 4294967296 := by
  intro i
  by_cases h : i < 16
  · have : ∀ j : Fin 16, jtab.getD j.val 0 < 4294967296 := by decide
    exact this ⟨i, h⟩
  · have : jtab.getD i 0 = 0 := by simp [List.getD, List.getElem?_eq_none (show jtab.length ≤ i by simp [jtab]; omega)]
    rw [this]; decide
theorem nib_lt {c : Nat} (h : c < 4294967296) : nib c < 4294967296 := by
  unfold nib
  exact Nat.xor_lt_two_pow (n := 32) (by omega) (tab_lt _)
theorem step_lt {c : Nat} (h : c < 4294967296) (x : UInt8) : jstep c x < 4294967296 := by
  unfold jstep
  exact nib_lt (nib_lt (Nat.xor_lt_two_pow (n := 32) h (by have := x.toNat_lt; omega)))
theorem fold_lt : ∀ (b : List UInt8) (c : Nat), c < 4294967296 → b.foldl jstep c < 4294967296
  | [], c, h => h
  | x :: b, c, h => fold_lt b _ (step_lt h x)
theorem reg_lt (b : List UInt8) : jreg b < 4294967296 := fold_lt b _ (by decide)
theorem reg_snoc (b : List UInt8) (x : UInt8) : jreg (b ++ [x]) = jstep (jreg b) x := by simp [jreg]
theorem reg_take {b : List UInt8} {i : Nat} {x : UInt8} (h : b[i]? = some x) : jreg (b.take (i + 1)) = jstep (jreg (b.take i)) x := by
  rw [List.take_add_one, h]
  exact reg_snoc _ _

/-- what three bytes name -/
def val3 (a b c : UInt8) : Nat := a.toNat * 65536 + b.toNat * 256 + c.toNat
/-- where the payload of the frame that b begins with ends, and an error's number -/
def jwhole (b : List UInt8) : Nat × Nat :=
  match b with
  | [] => (0, 90)
  | m0 :: r =>
    if m0 ≠ 199 then (0, 91) else
    match r with
    | [] => (0, 90)
    | m1 :: _ =>
      if m1 ≠ 157 then (0, 91) else
      if b.length < 8 then (0, 90) else
      if (b.drop 5).take 3 ≠ jcomp ((b.drop 2).take 3) then (0, 91) else
      let n := val3 (b.getD 2 0) (b.getD 3 0) (b.getD 4 0)
      if 131072 < n then (0, 92) else
      if b.length < 12 + n then (0, 90) else
      if jsum ((b.drop 12).take n) ≠ (b.drop 8).take 4 then (0, 93) else (12 + n, 0)
/-- the payload of the frame that b begins with, and how long the frame is -/
def jfirst (b : List UInt8) : List UInt8 × Nat × Nat :=
  if (jwhole b).2 = 0 then ((b.drop 12).take ((jwhole b).1 - 12), (jwhole b).1, 0) else ([], 0, (jwhole b).2)
def jpay (k : Nat) (r : List UInt8) : List UInt8 := be4 k ++ r
/-- the record of the payload that stands as number k -/
def jrecord (k : Nat) (p : List UInt8) : List UInt8 × Nat :=
  if p.length < 4 then ([], 102) else if p.take 4 ≠ be4 k then ([], 121) else (p.drop 4, 0)
/-- one step: the next record, how long its frame is; or why there is none -/
def jnext (k : Nat) (b : List UInt8) : List UInt8 × Nat × Nat :=
  if (jfirst b).2.2 = 0 then ((jrecord k (jfirst b).1).1, (jfirst b).2.1, (jrecord k (jfirst b).1).2) else ([], 0, (jfirst b).2.2)
/-- the records of a file's bytes behind the first k, how many bytes they are, and why it ended there -/
def jparseN : Nat → Nat → List UInt8 → List (List UInt8) × Nat × Nat
  | 0, k, b => ([], 0, 0)
  | f + 1, k, b =>
    if b = [] then ([], 0, 0) else
    if (jnext k b).2.2 ≠ 0 then ([], 0, (jnext k b).2.2) else
    ((jnext k b).1 :: (jparseN f (k + 1) (b.drop (jnext k b).2.1)).1, (jnext k b).2.1 + (jparseN f (k + 1) (b.drop (jnext k b).2.1)).2.1, (jparseN f (k + 1) (b.drop (jnext k b).2.1)).2.2)
def jparse (b : List UInt8) : List (List UInt8) × Nat × Nat := jparseN b.length 0 b

/-! ### a frame is found again -/
theorem ofNat_mod (n : Nat) : (UInt8.ofNat n).toNat = n % 256 := by simp
theorem val3_be3 {n : Nat} (h : n < 16777216) : val3 (UInt8.ofNat (n / 65536)) (UInt8.ofNat (n / 256)) (UInt8.ofNat n) = n := by
  unfold val3
  rw [ofNat_mod, ofNat_mod, ofNat_mod]
  omega
theorem whole_wrap {p r : List UInt8} (h : p.length ≤ 131072) : jwhole (jwrap p ++ r) = (12 + p.length, 0) := by
  have e : jwrap p ++ r = 199 :: 157 :: (be3 p.length ++ jcomp (be3 p.length) ++ jsum p ++ p ++ r) := by simp [jwrap]
  have hl : (jwrap p ++ r).length = p.length + 12 + r.length := by rw [List.length_append, wrap_len]
  have e2 : jwrap p ++ r = [199, 157, UInt8.ofNat (p.length / 65536), UInt8.ofNat (p.length / 256), UInt8.ofNat p.length, 255 ^^^ UInt8.ofNat (p.length / 65536), 255 ^^^ UInt8.ofNat (p.length / 256), 255 ^^^ UInt8.ofNat p.length,
    UInt8.ofNat (crc p / 16777216), UInt8.ofNat (crc p / 65536), UInt8.ofNat (crc p / 256), UInt8.ofNat (crc p)] ++ (p ++ r) := by simp [jwrap, be3, jcomp, jsum, be4]
  unfold jwhole
  rw [e2]
  simp only [List.cons_append, List.nil_append, List.drop_succ_cons, List.drop_zero, List.take_succ_cons, List.take_zero, List.getD_cons_succ, List.getD_cons_zero, List.length_cons]
  rw [val3_be3 (by omega)]
  rw [if_neg (by decide), if_neg (by decide), if_neg (by simp), if_neg (by simp [jcomp]), if_neg (by omega), if_neg (by simp; omega), if_neg (by simp [jsum, be4])]
theorem first_wrap {p r : List UInt8} (h : p.length ≤ 131072) : jfirst (jwrap p ++ r) = (p, p.length + 12, 0) := by
  unfold jfirst
  rw [whole_wrap h]
  simp only [if_true]
  have e : (jwrap p ++ r).drop 12 = p ++ r := by
    have h1 : (jwrap p).drop 12 = p := by simp [jwrap, be3, jcomp, jsum, be4]
    rw [List.drop_append_of_le_length (by rw [wrap_len]; omega), h1]
  rw [e, show 12 + p.length - 12 = p.length by omega, List.take_left]
  simp; omega
theorem record_payload (k : Nat) (r : List UInt8) : jrecord k (jpay k r) = (r, 0) := by
  unfold jrecord jpay
  rw [if_neg (by simp [be4_len])]
  have h1 : (be4 k ++ r).take 4 = be4 k := by simp [be4]
  have h2 : (be4 k ++ r).drop 4 = r := by simp [be4]
  rw [h1, if_neg (by simp), h2]
theorem payload_len (k : Nat) (r : List UInt8) : (jpay k r).length = r.length + 4 := by simp [jpay, be4_len]; omega
theorem next_wrap {k : Nat} {r t : List UInt8} (h : r.length ≤ 131068) : jnext k (jwrap (jpay k r) ++ t) = (r, r.length + 16, 0) := by
  unfold jnext
  rw [first_wrap (by rw [payload_len]; omega), record_payload, payload_len]
  simp
/-- the bytes of a file: the records' frames, the first one's number k -/
def fileOf : Nat → List (List UInt8) → List UInt8
  | _, [] => []
  | k, r :: l => jwrap (jpay k r) ++ fileOf (k + 1) l
theorem fileOf_append : ∀ (l m : List (List UInt8)) (k : Nat), fileOf k (l ++ m) = fileOf k l ++ fileOf (k + l.length) m
  | [], m, k => by simp [fileOf]
  | r :: l, m, k => by
    simp only [List.cons_append, fileOf, fileOf_append l m (k + 1), List.append_assoc, List.length_cons]
    rw [show k + 1 + l.length = k + (l.length + 1) by omega]
theorem fileOf_snoc (l : List (List UInt8)) (r : List UInt8) : fileOf 0 (l ++ [r]) = fileOf 0 l ++ jwrap (jpay l.length r) := by
  rw [fileOf_append]; simp [fileOf]
theorem fileOf_len : ∀ (l : List (List UInt8)) (k : Nat), (fileOf k l).length = (l.map fun r => r.length + 16).sum
  | [], k => rfl
  | r :: l, k => by simp [fileOf, wrap_len, payload_len, fileOf_len l]
theorem parseN_file : ∀ (l : List (List UInt8)) (f k : Nat), (∀ r ∈ l, r.length ≤ 131068) → l.length ≤ f → jparseN f k (fileOf k l) = (l, (fileOf k l).length, 0)
  | [], 0, k, _, _ => rfl
  | [], f + 1, k, _, _ => by simp [jparseN, fileOf]
  | r :: l, 0, k, _, h => by simp at h
  | r :: l, f + 1, k, hr, hf => by
    have hne : ¬ fileOf k (r :: l) = [] := fun e => by
      have := congrArg List.length e
      simp [fileOf, wrap_len] at this
    have hn : jnext k (fileOf k (r :: l)) = (r, r.length + 16, 0) := next_wrap (hr r (by simp))
    have hd : (fileOf k (r :: l)).drop (r.length + 16) = fileOf (k + 1) l := by
      have h1 : (jwrap (jpay k r)).length = r.length + 16 := by rw [wrap_len, payload_len]
      show (jwrap (jpay k r) ++ fileOf (k + 1) l).drop (r.length + 16) = _
      rw [← h1, List.drop_left]
    rw [jparseN, if_neg hne, hn]
    simp only [ne_eq, not_true_eq_false, if_false, hd]
    rw [parseN_file l f (k + 1) (fun x hx => hr x (by simp [hx])) (by simpa using hf)]
    simp only [fileOf, List.length_append, wrap_len, payload_len]
theorem count_le : ∀ (l : List (List UInt8)) (k : Nat), l.length ≤ (fileOf k l).length
  | [], _ => Nat.zero_le _
  | r :: l, k => by
    have := count_le l (k + 1)
    simp only [fileOf, List.length_cons, List.length_append, wrap_len]; omega
theorem parse_file {l : List (List UInt8)} (h : ∀ r ∈ l, r.length ≤ 131068) : jparse (fileOf 0 l) = (l, (fileOf 0 l).length, 0) := parseN_file l _ 0 h (count_le l 0)
end Go.Jn
