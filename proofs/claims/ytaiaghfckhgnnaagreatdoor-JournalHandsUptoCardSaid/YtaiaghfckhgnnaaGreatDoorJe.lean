/- '==' between short arrays of bytes. No conditions. -/
import Derived.Test.YtaiaghfckhgnnaaGreatDoorJw
namespace Go.Proofs
open Go.RowKit Go.Hp
set_option linter.unusedVariables false
set_option maxRecDepth 10000
theorem info8 : (sizeOf 5).run Tryz.prog = fun w => .ok 1 w := by kernel_rfl
theorem eqb (d : Nat) (a b : Int) (w : World) : (Op.equalIn (d + 1) 5 (.int .u8 a) (.int .u8 b)).run Tryz.prog w = .ok (a == b) w := run_equalIn_int w d _ .u8 .u8 a b Tryz.underlying5
theorem und3 : Tryz.prog.underlying 101 = some (.array 3 5) := by kernel_rfl
theorem und4 : Tryz.prog.underlying 102 = some (.array 4 5) := by kernel_rfl
theorem undS : Tryz.prog.underlying 103 = some (.array 4 5) := by kernel_rfl
theorem eq3 (a b c p q r : Int) (w : World) : (Op.equalIn 10000 101 (.agg #[.int .u8 a, .int .u8 b, .int .u8 c]) (.agg #[.int .u8 p, .int .u8 q, .int .u8 r])).run Tryz.prog w = .ok (a == p && b == q && c == r) w := by
  have hh : ∀ (x y : Int) (w : World), (Op.equalIn 9999 5 (.int .u8 x) (.int .u8 y)).run Tryz.prog w = .ok (x == y) w := fun x y w => eqb 9998 x y w
  rw [show (10000 : Nat) = 9999 + 1 from rfl]
  unfold Op.equalIn
  simp only [Sem.run_bind, run_underlying und3, Result.andThen_ok, info8]
  rw [Std.Legacy.Range.forIn_eq_forIn_range']
  simp [List.range'_succ, part, hh]
  by_cases h0 : a = p <;> by_cases h1 : b = q <;> by_cases h2 : c = r <;> simp [h0, h1, h2]
theorem eq4 (a b c d p q r s : Int) (w : World) : (Op.equalIn 10000 102 (.agg #[.int .u8 a, .int .u8 b, .int .u8 c, .int .u8 d]) (.agg #[.int .u8 p, .int .u8 q, .int .u8 r, .int .u8 s])).run Tryz.prog w = .ok (a == p && b == q && c == r && d == s) w := by
  have hh : ∀ (x y : Int) (w : World), (Op.equalIn 9999 5 (.int .u8 x) (.int .u8 y)).run Tryz.prog w = .ok (x == y) w := fun x y w => eqb 9998 x y w
  rw [show (10000 : Nat) = 9999 + 1 from rfl]
  unfold Op.equalIn
  simp only [Sem.run_bind, run_underlying und4, Result.andThen_ok, info8]
  rw [Std.Legacy.Range.forIn_eq_forIn_range']
  simp [List.range'_succ, part, hh]
  by_cases h0 : a = p <;> by_cases h1 : b = q <;> by_cases h2 : c = r <;> by_cases h3 : d = s <;> simp [h0, h1, h2, h3]
theorem eqS (a b c d p q r s : Int) (w : World) : (Op.equalIn 10000 103 (.agg #[.int .u8 a, .int .u8 b, .int .u8 c, .int .u8 d]) (.agg #[.int .u8 p, .int .u8 q, .int .u8 r, .int .u8 s])).run Tryz.prog w = .ok (a == p && b == q && c == r && d == s) w := by
  have hh : ∀ (x y : Int) (w : World), (Op.equalIn 9999 5 (.int .u8 x) (.int .u8 y)).run Tryz.prog w = .ok (x == y) w := fun x y w => eqb 9998 x y w
  rw [show (10000 : Nat) = 9999 + 1 from rfl]
  unfold Op.equalIn
  simp only [Sem.run_bind, run_underlying undS, Result.andThen_ok, info8]
  rw [Std.Legacy.Range.forIn_eq_forIn_range']
  simp [List.range'_succ, part, hh]
  by_cases h0 : a = p <;> by_cases h1 : b = q <;> by_cases h2 : c = r <;> by_cases h3 : d = s <;> simp [h0, h1, h2, h3]
theorem i64_or_nat (a b : Nat) (ha : a < 4611686018427387904) (hb : b < 4611686018427387904) : bits .or .i64 (a : Int) (b : Int) = ((a ||| b : Nat) : Int) := by
  have hx : a ||| b < 2 ^ 62 := Nat.or_lt_two_pow (by omega) (by omega)
  have h1 : (BitVec.ofInt 64 (a : Int)).toNat = a := by rw [BitVec.ofInt_natCast, BitVec.toNat_ofNat]; exact Nat.mod_eq_of_lt (by omega)
  have h2 : (BitVec.ofInt 64 (b : Int)).toNat = b := by rw [BitVec.ofInt_natCast, BitVec.toNat_ofNat]; exact Nat.mod_eq_of_lt (by omega)
  show IntKind.i64.wrap ((BitVec.ofInt 64 (a : Int) ||| BitVec.ofInt 64 (b : Int)).toNat : Int) = _
  rw [BitVec.toNat_or, h1, h2]
  simp [IntKind.wrap, IntKind.bits, IntKind.signed]
  omega
theorem val_bits (y0 y1 y2 : UInt8) : bits BinOp.or IntKind.i64 (bits BinOp.or IntKind.i64 (wrap64 (wrap64 (y0.toNat : Int) * 65536)) (wrap64 (wrap64 (y1.toNat : Int) * 256))) (wrap64 (y2.toNat : Int)) = ((Go.Jn.val3 y0 y1 y2 : Nat) : Int) := by
  have h0 := y0.toNat_lt
  have h1 := y1.toNat_lt
  have h2 := y2.toNat_lt
  have w0 : wrap64 (wrap64 (y0.toNat : Int) * 65536) = ((y0.toNat * 65536 : Nat) : Int) := by unfold wrap64; omega
  have w1 : wrap64 (wrap64 (y1.toNat : Int) * 256) = ((y1.toNat * 256 : Nat) : Int) := by unfold wrap64; omega
  have w2 : wrap64 (y2.toNat : Int) = ((y2.toNat : Nat) : Int) := by unfold wrap64; omega
  rw [w0, w1, w2, i64_or_nat _ _ (by omega) (by omega)]
  have e1 : y0.toNat * 65536 ||| y1.toNat * 256 = y0.toNat * 65536 + y1.toNat * 256 := by
    have := Nat.two_pow_add_eq_or_of_lt (i := 16) (b := y1.toNat * 256) (by rw [show (2 : Nat) ^ 16 = 65536 from rfl]; omega) y0.toNat
    rw [show (2 : Nat) ^ 16 = 65536 from rfl, Nat.mul_comm 65536] at this
    exact this.symm
  rw [e1, i64_or_nat _ _ (by omega) (by omega)]
  have e2 : (y0.toNat * 65536 + y1.toNat * 256) ||| y2.toNat = y0.toNat * 65536 + y1.toNat * 256 + y2.toNat := by
    have := Nat.two_pow_add_eq_or_of_lt (i := 8) (b := y2.toNat) (by rw [show (2 : Nat) ^ 8 = 256 from rfl]; omega) (y0.toNat * 256 + y1.toNat)
    have e3 : (2 : Nat) ^ 8 * (y0.toNat * 256 + y1.toNat) = y0.toNat * 65536 + y1.toNat * 256 := by rw [show (2 : Nat) ^ 8 = 256 from rfl]; omega
    rw [e3] at this
    exact this.symm
  rw [e2, Go.Jn.val3]
end Go.Proofs
