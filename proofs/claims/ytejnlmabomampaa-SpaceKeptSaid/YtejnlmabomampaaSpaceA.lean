/- Sets of pages as bytes, a bit each: plain facts. -/
import Derived.Test.YtejnlmabomampaaGa
namespace Go.Proofs.Ytejnlmabomampaa
open Go Gx

/-- Eight bits as a number. -/
def byte8 (b0 b1 b2 b3 b4 b5 b6 b7 : Bool) : Nat :=
  b0.toNat + 2 * b1.toNat + 4 * b2.toNat + 8 * b3.toNat + 16 * b4.toNat + 32 * b5.toNat + 64 * b6.toNat + 128 * b7.toNat

def byteOf (f : Nat → Bool) (i : Nat) : Nat := byte8 (f (8 * i)) (f (8 * i + 1)) (f (8 * i + 2)) (f (8 * i + 3)) (f (8 * i + 4)) (f (8 * i + 5)) (f (8 * i + 6)) (f (8 * i + 7))

theorem byte8_lt : ∀ b0 b1 b2 b3 b4 b5 b6 b7 : Bool, byte8 b0 b1 b2 b3 b4 b5 b6 b7 < 256 := by decide +kernel
theorem byte8_bits : ∀ b0 b1 b2 b3 b4 b5 b6 b7 : Bool,
    (byte8 b0 b1 b2 b3 b4 b5 b6 b7).testBit 0 = b0 ∧ (byte8 b0 b1 b2 b3 b4 b5 b6 b7).testBit 1 = b1 ∧ (byte8 b0 b1 b2 b3 b4 b5 b6 b7).testBit 2 = b2 ∧ (byte8 b0 b1 b2 b3 b4 b5 b6 b7).testBit 3 = b3 ∧
    (byte8 b0 b1 b2 b3 b4 b5 b6 b7).testBit 4 = b4 ∧ (byte8 b0 b1 b2 b3 b4 b5 b6 b7).testBit 5 = b5 ∧ (byte8 b0 b1 b2 b3 b4 b5 b6 b7).testBit 6 = b6 ∧ (byte8 b0 b1 b2 b3 b4 b5 b6 b7).testBit 7 = b7 := by decide +kernel

theorem byteOf_lt (f : Nat → Bool) (i : Nat) : byteOf f i < 256 := byte8_lt _ _ _ _ _ _ _ _

theorem byteOf_bit (f : Nat → Bool) (i j : Nat) (hj : j < 8) : (byteOf f i).testBit j = f (8 * i + j) := by
  obtain ⟨h0, h1, h2, h3, h4, h5, h6, h7⟩ := byte8_bits (f (8 * i)) (f (8 * i + 1)) (f (8 * i + 2)) (f (8 * i + 3)) (f (8 * i + 4)) (f (8 * i + 5)) (f (8 * i + 6)) (f (8 * i + 7))
  have : j = 0 ∨ j = 1 ∨ j = 2 ∨ j = 3 ∨ j = 4 ∨ j = 5 ∨ j = 6 ∨ j = 7 := by omega
  unfold byteOf
  rcases this with rfl | rfl | rfl | rfl | rfl | rfl | rfl | rfl <;> assumption

theorem byte_ext {x y : Nat} (hx : x < 256) (hy : y < 256) (h : ∀ j, j < 8 → x.testBit j = y.testBit j) : x = y := by
  apply Nat.eq_of_testBit_eq
  intro j
  by_cases hj : j < 8
  · exact h j hj
  · have p : 256 ≤ 2 ^ j := by
      have := Nat.pow_le_pow_right (n := 2) (by omega) (by omega : 8 ≤ j)
      simpa using this
    rw [Nat.testBit_lt_two_pow (by omega), Nat.testBit_lt_two_pow (by omega)]

theorem byteOf_unique (f : Nat → Bool) (i x : Nat) (hx : x < 256) (h : ∀ j, j < 8 → x.testBit j = f (8 * i + j)) : x = byteOf f i :=
  byte_ext hx (byteOf_lt f i) fun j hj => by rw [h j hj, byteOf_bit f i j hj]

def upd (f : Nat → Bool) (k : Nat) (b : Bool) : Nat → Bool := fun i => if i = k then b else f i

/-! The program's own bit arithmetic, by all its cases. -/
theorem has_all : ∀ x : Nat, x < 256 → ∀ j : Nat, j < 8 → (bAnd .u8 (Int.fdiv (x : Int) (2 ^ (min (Int.toNat (j : Int)) 8))) 1 == 1) = x.testBit j := by decide +kernel
theorem put_all : ∀ x : Nat, x < 256 → ∀ j : Nat, j < 8 → bOr .u8 (x : Int) (IntKind.wrap .u8 (1 * 2 ^ (min (Int.toNat (j : Int)) 8))) = ((x ||| 2 ^ j : Nat) : Int) := by decide +kernel
theorem take_all : ∀ x : Nat, x < 256 → ∀ j : Nat, j < 8 → bAndNot .u8 (x : Int) (IntKind.wrap .u8 (1 * 2 ^ (min (Int.toNat (j : Int)) 8))) = ((x &&& (255 - 2 ^ j) : Nat) : Int) := by decide +kernel
theorem or_lt : ∀ x : Nat, x < 256 → ∀ y : Nat, y < 256 → x ||| y < 256 := fun _ hx _ hy => Nat.or_lt_two_pow (n := 8) hx hy
theorem and_bits : ∀ j : Nat, j < 8 → ∀ k : Nat, k < 8 → (255 - 2 ^ j).testBit k = (k != j) := by decide +kernel
theorem bOr_all (x y : Nat) (hx : x < 256) (hy : y < 256) : bOr .u8 (x : Int) (y : Int) = ((x ||| y : Nat) : Int) := by
  have h := or_lt x hx y hy
  have e : (BitVec.ofInt 8 (x : Int) ||| BitVec.ofInt 8 (y : Int)).toNat = x ||| y := by
    simp only [BitVec.ofInt_natCast, BitVec.toNat_or, BitVec.toNat_ofNat]
    rw [Nat.mod_eq_of_lt (by simpa using hx), Nat.mod_eq_of_lt (by simpa using hy)]
  show IntKind.wrap .u8 (((BitVec.ofInt 8 (x : Int) ||| BitVec.ofInt 8 (y : Int)).toNat : Nat) : Int) = _
  rw [e]
  have : ((x ||| y : Nat) : Int) % 256 = ((x ||| y : Nat) : Int) := Int.emod_eq_of_lt (by omega) (by omega)
  simp [IntKind.wrap, IntKind.signed, IntKind.bits, this]

theorem split8 (k : Nat) : 8 * (k / 8) + k % 8 = k := Nat.div_add_mod k 8

theorem byteOf_put (f : Nat → Bool) (k : Nat) : byteOf f (k / 8) ||| 2 ^ (k % 8) = byteOf (upd f k true) (k / 8) := by
  refine byteOf_unique _ _ _ (or_lt _ (byteOf_lt _ _) _ ?_) fun j hj => ?_
  · have : k % 8 < 8 := Nat.mod_lt _ (by omega)
    have := Nat.pow_lt_pow_right (a := 2) (by omega) this
    simpa using this
  · rw [Nat.testBit_or, byteOf_bit _ _ _ hj, Nat.testBit_two_pow, upd]
    by_cases h : 8 * (k / 8) + j = k
    · rw [if_pos h]
      have : k % 8 = j := by omega
      simp [this]
    · rw [if_neg h]
      have : ¬ k % 8 = j := by omega
      simp [this]

theorem byteOf_take (f : Nat → Bool) (k : Nat) : byteOf f (k / 8) &&& (255 - 2 ^ (k % 8)) = byteOf (upd f k false) (k / 8) := by
  refine byteOf_unique _ _ _ (Nat.lt_of_le_of_lt Nat.and_le_left (byteOf_lt _ _)) fun j hj => ?_
  rw [Nat.testBit_and, byteOf_bit _ _ _ hj, and_bits _ (Nat.mod_lt _ (by omega)) _ hj, upd]
  by_cases h : 8 * (k / 8) + j = k
  · rw [if_pos h]
    have : j = k % 8 := by omega
    simp [this]
  · rw [if_neg h]
    have : ¬ j = k % 8 := by omega
    simp [this]

theorem byteOf_other (f : Nat → Bool) (k i : Nat) (b : Bool) (h : i ≠ k / 8) : byteOf (upd f k b) i = byteOf f i := by
  have e : ∀ j, j < 8 → upd f k b (8 * i + j) = f (8 * i + j) := fun j hj => by
    unfold upd
    rw [if_neg]
    omega
  unfold byteOf
  rw [e 1 (by omega), e 2 (by omega), e 3 (by omega), e 4 (by omega), e 5 (by omega), e 6 (by omega), e 7 (by omega)]
  have := e 0 (by omega)
  simp only [Nat.add_zero] at this
  rw [this]

def bytesV (f : Nat → Bool) (m : Nat) : List Value := (List.range m).map fun i => .int .u8 (byteOf f i)
def boolsV (f : Nat → Bool) (m : Nat) : List Value := (List.range m).map fun i => .bool (f i)

theorem bytesV_length (f : Nat → Bool) (m : Nat) : (bytesV f m).length = m := by simp [bytesV]
theorem boolsV_length (f : Nat → Bool) (m : Nat) : (boolsV f m).length = m := by simp [boolsV]
theorem bytesV_get (f : Nat → Bool) {m i : Nat} (h : i < m) : (bytesV f m)[i]? = some (.int .u8 (byteOf f i)) := by simp [bytesV, h]
theorem boolsV_get (f : Nat → Bool) {m i : Nat} (h : i < m) : (boolsV f m)[i]? = some (.bool (f i)) := by simp [boolsV, h]

theorem bytesV_set (f : Nat → Bool) (k m : Nat) (b : Bool) : (bytesV f m).set (k / 8) (.int .u8 (byteOf (upd f k b) (k / 8))) = bytesV (upd f k b) m := by
  apply List.ext_getElem?
  intro i
  rw [List.getElem?_set]
  by_cases hi : i < m
  · rw [bytesV_get (upd f k b) hi]
    by_cases h : k / 8 = i
    · subst h
      simp [bytesV_length, hi]
    · rw [if_neg h, bytesV_get _ hi, byteOf_other f k i b (by omega)]
  · have h1 : (bytesV (upd f k b) m)[i]? = none := by simp [bytesV]; omega
    have h2 : (bytesV f m)[i]? = none := by simp [bytesV]; omega
    rw [h1, h2]
    split
    · simp [bytesV_length]; omega
    · rfl

theorem boolsV_set (f : Nat → Bool) (k m : Nat) (b : Bool) : (boolsV f m).set k (.bool b) = boolsV (upd f k b) m := by
  apply List.ext_getElem?
  intro i
  rw [List.getElem?_set]
  by_cases hi : i < m
  · rw [boolsV_get (upd f k b) hi]
    by_cases h : k = i
    · subst h
      simp [boolsV_length, hi, upd]
    · rw [if_neg h, boolsV_get _ hi]
      simp [upd, Ne.symm h]
  · have h1 : (boolsV (upd f k b) m)[i]? = none := by simp [boolsV]; omega
    have h2 : (boolsV f m)[i]? = none := by simp [boolsV]; omega
    rw [h1, h2]
    split
    · simp [boolsV_length]; omega
    · rfl

end Go.Proofs.Ytejnlmabomampaa
