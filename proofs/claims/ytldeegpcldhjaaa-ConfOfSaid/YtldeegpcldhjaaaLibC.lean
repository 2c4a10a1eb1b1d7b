/- Numerals to base sixteen: FormatUint; FormatUint to base ten. -/
import Derived.Test.YtldeegpcldhjaaaLibB
namespace Go.Proofs.Ytldeegpcldhjaaa
open Go Gx

theorem bAnd64 {a b : Nat} (ha : a < 2 ^ 64) (hb : b < 2 ^ 64) : bAnd .u64 (a : Int) (b : Int) = ((a &&& b : Nat) : Int) := by
  have e1 : BitVec.ofInt 64 (a : Int) = BitVec.ofNat 64 a := by simp
  have e2 : BitVec.ofInt 64 (b : Int) = BitVec.ofNat 64 b := by simp
  unfold bAnd
  show IntKind.u64.wrap (((BitVec.ofInt 64 (a : Int) &&& BitVec.ofInt 64 (b : Int)).toNat : Nat) : Int) = _
  rw [e1, e2, BitVec.toNat_and, BitVec.toNat_ofNat, BitVec.toNat_ofNat, Nat.mod_eq_of_lt ha, Nat.mod_eq_of_lt hb]
  have : a &&& b ≤ a := Nat.and_le_left
  have ha : a < 18446744073709551616 := ha
  rw [wr64 (by omega) (by omega)]
theorem bOr8 {a b : Nat} (ha : a < 2 ^ 8) (hb : b < 2 ^ 8) : bOr .u8 (a : Int) (b : Int) = ((a ||| b : Nat) : Int) := by
  have e1 : BitVec.ofInt 8 (a : Int) = BitVec.ofNat 8 a := by simp
  have e2 : BitVec.ofInt 8 (b : Int) = BitVec.ofNat 8 b := by simp
  unfold bOr
  show IntKind.u8.wrap (((BitVec.ofInt 8 (a : Int) ||| BitVec.ofInt 8 (b : Int)).toNat : Nat) : Int) = _
  rw [e1, e2, BitVec.toNat_or, BitVec.toNat_ofNat, BitVec.toNat_ofNat, Nat.mod_eq_of_lt ha, Nat.mod_eq_of_lt hb]
  have : a ||| b < 2 ^ 8 := Nat.or_lt_two_pow ha hb
  have : a ||| b < 256 := this
  rw [wr8 (by omega) (by omega)]

/-- What is laid from k on, as text. -/
def tl (f : Nat → Int) (k m : Nat) : List UInt8 := (List.range (m - k)).map fun j => UInt8.ofNat (f (k + j)).toNat

theorem tl_end (f : Nat → Int) (m : Nat) : tl f m m = [] := by simp [tl]
theorem tl_put {f : Nat → Int} {k m : Nat} (h1 : 1 ≤ k) (h2 : k ≤ m) (d : Int) : tl (put f (k - 1) d) (k - 1) m = UInt8.ofNat d.toNat :: tl f k m := by
  unfold tl
  rw [show m - (k - 1) = (m - k) + 1 by omega, List.range_succ_eq_map, List.map_cons, List.map_map]
  congr 1
  · simp [put]
  · apply List.map_congr_left
    intro j _
    simp only [Function.comp, put]
    rw [if_neg (by omega), show k - 1 + j.succ = k + j by omega]

theorem dig_val {d : Nat} (h : d < 36) : (((dig d).toNat : Nat) : Int) = ((if d < 10 then 48 + d else 87 + d : Nat) : Int) := by
  unfold dig; rw [ofNat_val (by split <;> omega)]
theorem dig_back {d : Nat} : UInt8.ofNat (((dig d).toNat : Nat) : Int).toNat = dig d := by simp

end Go.Proofs.Ytldeegpcldhjaaa
