/- Decimal numerals: strconv.Itoa, FormatInt, numDigits, formatBase10. -/
import Derived.Test.YtldeegpcldhjaaaGt
import Derived.Test.YtldeegpcldhjaaaWs
import Derived.Test.YtldeegpcldhjaaaWs2
namespace Go.Proofs.Ytldeegpcldhjaaa
open Go Gx

def tabLen : ByteArray := ByteArray.mk #[0, 1, 2, 2, 3, 3, 3, 3, 4, 4, 4, 4, 4, 4, 4, 4, 5, 5, 5, 5, 5, 5, 5, 5, 5, 5, 5, 5, 5, 5, 5, 5, 6, 6, 6, 6, 6, 6, 6, 6, 6, 6, 6, 6, 6, 6, 6, 6, 6, 6, 6, 6, 6, 6, 6, 6, 6, 6, 6, 6, 6, 6, 6, 6, 7, 7, 7, 7, 7, 7, 7, 7, 7, 7, 7, 7, 7, 7, 7, 7, 7, 7, 7, 7, 7, 7, 7, 7, 7, 7, 7, 7, 7, 7, 7, 7, 7, 7, 7, 7, 7, 7, 7, 7, 7, 7, 7, 7, 7, 7, 7, 7, 7, 7, 7, 7, 7, 7, 7, 7, 7, 7, 7, 7, 7, 7, 7, 7, 8, 8, 8, 8, 8, 8, 8, 8, 8, 8, 8, 8, 8, 8, 8, 8, 8, 8, 8, 8, 8, 8, 8, 8, 8, 8, 8, 8, 8, 8, 8, 8, 8, 8, 8, 8, 8, 8, 8, 8, 8, 8, 8, 8, 8, 8, 8, 8, 8, 8, 8, 8, 8, 8, 8, 8, 8, 8, 8, 8, 8, 8, 8, 8, 8, 8, 8, 8, 8, 8, 8, 8, 8, 8, 8, 8, 8, 8, 8, 8, 8, 8, 8, 8, 8, 8, 8, 8, 8, 8, 8, 8, 8, 8, 8, 8, 8, 8, 8, 8, 8, 8, 8, 8, 8, 8, 8, 8, 8, 8, 8, 8, 8, 8, 8, 8, 8, 8, 8, 8, 8, 8, 8, 8, 8, 8, 8, 8]
def tabSmalls : ByteArray := ByteArray.mk #[48, 48, 48, 49, 48, 50, 48, 51, 48, 52, 48, 53, 48, 54, 48, 55, 48, 56, 48, 57, 49, 48, 49, 49, 49, 50, 49, 51, 49, 52, 49, 53, 49, 54, 49, 55, 49, 56, 49, 57, 50, 48, 50, 49, 50, 50, 50, 51, 50, 52, 50, 53, 50, 54, 50, 55, 50, 56, 50, 57, 51, 48, 51, 49, 51, 50, 51, 51, 51, 52, 51, 53, 51, 54, 51, 55, 51, 56, 51, 57, 52, 48, 52, 49, 52, 50, 52, 51, 52, 52, 52, 53, 52, 54, 52, 55, 52, 56, 52, 57, 53, 48, 53, 49, 53, 50, 53, 51, 53, 52, 53, 53, 53, 54, 53, 55, 53, 56, 53, 57, 54, 48, 54, 49, 54, 50, 54, 51, 54, 52, 54, 53, 54, 54, 54, 55, 54, 56, 54, 57, 55, 48, 55, 49, 55, 50, 55, 51, 55, 52, 55, 53, 55, 54, 55, 55, 55, 56, 55, 57, 56, 48, 56, 49, 56, 50, 56, 51, 56, 52, 56, 53, 56, 54, 56, 55, 56, 56, 56, 57, 57, 48, 57, 49, 57, 50, 57, 51, 57, 52, 57, 53, 57, 54, 57, 55, 57, 56, 57, 57]
def tabDigits : ByteArray := ByteArray.mk #[48, 49, 50, 51, 52, 53, 54, 55, 56, 57, 97, 98, 99, 100, 101, 102, 103, 104, 105, 106, 107, 108, 109, 110, 111, 112, 113, 114, 115, 116, 117, 118, 119, 120, 121, 122]

theorem tabLen_at : ∀ x : Nat, x < 256 → ∃ b : Fin 9, byteAt tabLen x = some (UInt8.ofNat b.val) ∧ x < 2 ^ b.val ∧ (x = 0 ∨ 2 ^ (b.val - 1) ≤ x) := by decide +kernel
theorem tabSmalls_at : ∀ x : Nat, x < 100 → byteAt tabSmalls (2 * x) = some (UInt8.ofNat (48 + x / 10)) ∧ byteAt tabSmalls (2 * x + 1) = some (UInt8.ofNat (48 + x % 10)) := by decide +kernel
theorem tabDigits_at : ∀ x : Nat, x < 36 → byteAt tabDigits x = some (dig x) := by decide +kernel

theorem ofNat_val {n : Nat} (h : n < 256) : ((UInt8.ofNat n).toNat : Nat) = n := by
  simp [Nat.mod_eq_of_lt h]

/-- The lengths of numbers in bits. -/
def IsLen (x L : Nat) : Prop := x < 2 ^ L ∧ (x = 0 ∨ 2 ^ (L - 1) ≤ x)

theorem IsLen.half {x L k : Nat} (hk : 2 ^ k ≤ x) (h : IsLen (x / 2 ^ k) L) : IsLen x (L + k) := by
  obtain ⟨h1, h2⟩ := h
  have hp : 0 < 2 ^ k := Nat.two_pow_pos k
  have hne : x / 2 ^ k ≠ 0 := by
    have := Nat.div_le_div_right (c := 2 ^ k) hk
    rw [Nat.div_self hp] at this
    omega
  have hL : L ≠ 0 := by
    rintro rfl
    simp only [Nat.pow_zero, Nat.lt_one_iff] at h1
    exact hne h1
  refine ⟨?_, .inr ?_⟩
  · rw [Nat.pow_add]
    exact (Nat.div_lt_iff_lt_mul hp).1 h1
  · rcases h2 with h2 | h2
    · exact absurd h2 hne
    · rw [show L + k - 1 = (L - 1) + k by omega, Nat.pow_add]
      exact (Nat.le_div_iff_mul_le hp).1 h2

theorem Len64 (x : Nat) (hx : x < 2 ^ 64) (w : World) : Ret Try.prog F.math_bits_Len64 #[.int .u64 x] w (fun v w' => ∃ L : Nat, v = .int .i64 L ∧ IsLen x L ∧ L ≤ 64 ∧ w = w') := by
  refine W.math_bits_Len64_ok x w _ ?_
  unfold W.math_bits_Len64
  have hx : x < 18446744073709551616 := hx
  refine Jn2 (fun a n w' => w = w' ∧ ∃ y k : Nat, a = y ∧ n = k ∧ y < 2 ^ 32 ∧ k ≤ 32 ∧ ∀ L, IsLen y L → IsLen x (L + k)) (fun q hq => ⟨fun h => ⟨by decide, ?_⟩, fun h => ?_⟩) ?_
  · have h : 4294967296 ≤ x := by have := of_decide_eq_true h; omega
    refine hq _ _ _ ⟨rfl, x / 2 ^ 32, 32, ?_, rfl, by simp; omega, by omega, fun L hL => hL.half (by simpa using h)⟩
    show Int.fdiv (x : Int) (2 ^ 32) = _
    rw [Int.fdiv_eq_ediv_of_nonneg _ (by decide)]
    simp
  · have h : x < 4294967296 := by have := of_decide_eq_false h; omega
    exact hq _ _ _ ⟨rfl, x, 0, rfl, rfl, by simpa using h, by omega, fun L hL => hL⟩
  rintro _ _ _ ⟨rfl, y, k, rfl, rfl, hy, hk, hL⟩
  have hy : y < 4294967296 := hy
  refine Jn2 (fun a n w1 => w = w1 ∧ ∃ y k : Nat, a = y ∧ n = k ∧ y < 2 ^ 16 ∧ k ≤ 48 ∧ ∀ L, IsLen y L → IsLen x (L + k)) (fun q hq => ⟨fun h => ⟨by decide, ?_⟩, fun h => ?_⟩) ?_
  · have h : 65536 ≤ y := by have := of_decide_eq_true h; omega
    refine hq _ _ _ ⟨rfl, y / 2 ^ 16, k + 16, ?_, ?_, by simp; omega, by omega, fun L hL' => ?_⟩
    · show Int.fdiv (y : Int) (2 ^ 16) = _
      rw [Int.fdiv_eq_ediv_of_nonneg _ (by decide)]
      simp
    · rw [wrapi (by omega) (by omega)]; rfl
    · have := hL _ (hL'.half (by simpa using h))
      rwa [Nat.add_assoc, Nat.add_comm 16 k] at this
  · have h : y < 65536 := by have := of_decide_eq_false h; omega
    exact hq _ _ _ ⟨rfl, y, k, rfl, rfl, by simpa using h, by omega, hL⟩
  rintro _ _ _ ⟨rfl, y, k, rfl, rfl, hy, hk, hL⟩
  have hy : y < 65536 := hy
  refine Jn2 (fun a n w1 => w = w1 ∧ ∃ y k : Nat, a = y ∧ n = k ∧ y < 2 ^ 8 ∧ k ≤ 56 ∧ ∀ L, IsLen y L → IsLen x (L + k)) (fun q hq => ⟨fun h => ⟨by decide, ?_⟩, fun h => ?_⟩) ?_
  · have h : 256 ≤ y := by have := of_decide_eq_true h; omega
    refine hq _ _ _ ⟨rfl, y / 2 ^ 8, k + 8, ?_, ?_, by simp; omega, by omega, fun L hL' => ?_⟩
    · show Int.fdiv (y : Int) (2 ^ 8) = _
      rw [Int.fdiv_eq_ediv_of_nonneg _ (by decide)]
      simp
    · rw [wrapi (by omega) (by omega)]; rfl
    · have := hL _ (hL'.half (by simpa using h))
      rwa [Nat.add_assoc, Nat.add_comm 8 k] at this
  · have h : y < 256 := by have := of_decide_eq_false h; omega
    exact hq _ _ _ ⟨rfl, y, k, rfl, rfl, by simpa using h, by omega, hL⟩
  rintro _ _ _ ⟨rfl, y, k, rfl, rfl, hy, hk, hL⟩
  have hy : y < 256 := hy
  rw [wr8 (by omega) (by omega)]
  obtain ⟨b, hb, h1, h2⟩ := tabLen_at y hy
  refine ⟨by omega, _, hb, b.val + k, ?_, hL _ ⟨h1, h2⟩, by omega, rfl⟩
  rw [ofNat_val (by omega), wrapi (n := ((b.val : Nat) : Int)) (by omega) (by omega), wrapi (by omega) (by omega)]
  congr 1
  omega

theorem cell_ext {w w' : World} (h : Ext w w') {A : Addr} {v : Value} (hc : w.cell? A = some v) : w'.cell? A = some v := by
  have hl : A.block < w.heap.size := by
    simp only [World.cell?] at hc
    cases hh : w.heap[A.block]? with
    | none => simp [hh] at hc
    | some o => exact (Array.getElem?_eq_some_iff.1 hh).1
  simp only [World.cell?] at hc ⊢
  rw [h.block _ hl id]; exact hc
def digLen (L : Nat) : Nat := L * 78913 / 262144
theorem digLen_ok : ∀ L : Nat, L < 65 → 1 ≤ L → digLen L < 20 ∧ 10 ^ digLen L ≤ 10 ^ 20 ∧ 10 ^ (digLen L - 1) ≤ 2 ^ (L - 1) ∧ 2 ^ L ≤ 10 ^ (digLen L + 1) := by decide +kernel

/-- How many digits a number has. -/
def IsDigs (x k : Nat) : Prop := 1 ≤ k ∧ k ≤ 20 ∧ 10 ^ (k - 1) ≤ x ∧ x < 10 ^ k

end Go.Proofs.Ytldeegpcldhjaaa
