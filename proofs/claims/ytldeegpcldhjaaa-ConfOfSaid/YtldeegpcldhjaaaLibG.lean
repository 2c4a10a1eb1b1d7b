/- Numerals read, the public functions: ParseUint, Atoi. -/
import Derived.Test.YtldeegpcldhjaaaLibF
namespace Go.Proofs.Ytldeegpcldhjaaa
open Go Gx

/-- A variable that holds an error or none. -/
def ErrV (w : World) (g : Nat) : Prop := ∃ v, w.cell? ⟨g, 0, none⟩ = some v ∧ (v = .nilIface ∨ ∃ t x, v = .iface t x)
theorem ErrV.ext {w w' : World} {g : Nat} (h : ErrV w g) (hx : Ext w w') : ErrV w' g := by
  obtain ⟨v, h1, h2⟩ := h
  exact ⟨v, cell_ext hx h1, h2⟩
/-- What the public functions tell: the number, or some number and an error. -/
def PN (k : IntKind) (r : Option Int) (v : Value) : Prop := match r with
  | some n => v = .tuple #[.int k n, .nilIface]
  | none => ∃ (m : Int) (t : TypeId) (x : Value), v = .tuple #[.int k m, .iface t x]

/-! ### Atoi -/
def aFold : Int → List UInt8 → Option Int
  | n, [] => some n
  | n, c :: cs => if IntKind.wrap .u8 (((c.toNat : Nat) : Int) - 48) > 9 then none else
      aFold (IntKind.wrap .i64 ((IntKind.wrap .i64 (n * 10)) + (IntKind.wrap .i64 (IntKind.wrap .u8 (((c.toNat : Nat) : Int) - 48))))) cs
theorem aFold_append : ∀ (a b : List UInt8) (n : Int), aFold n (a ++ b) = (aFold n a).bind (fun m => aFold m b)
  | [], _, _ => rfl
  | c :: a, b, n => by
    simp only [List.cons_append, aFold]
    split
    · rfl
    · exact aFold_append a b _
theorem aFold_num (n : Nat) (hn : n < 1000000000000000000) : aFold 0 (numB 10 n) = some (n : Int) := by
  induction n using Nat.strongRecOn with
  | ind n ih =>
    have hd : ∀ d : Nat, d < 10 → IntKind.wrap .u8 ((((dig d).toNat : Nat) : Int) - 48) = d := by
      intro d hd
      rw [dig_val (by omega), if_pos hd, wr8 (by omega) (by omega)]; omega
    by_cases h : n < 10
    · rw [numB_lt h]
      simp only [aFold, hd n h]
      rw [if_neg (by omega), wrapi (n := 0 * 10) (by omega) (by omega), wrapi (n := (n : Int)) (by omega) (by omega), wrapi (n := 0 * 10 + (n : Int)) (by omega) (by omega)]
      simp
    · rw [numB_ge (by omega) (by omega), aFold_append, ih (n / 10) (by omega) (by omega)]
      simp only [Option.bind_some, aFold, hd (n % 10) (by omega)]
      rw [if_neg (by omega), wrapi (n := ((n / 10 : Nat) : Int) * 10) (by omega) (by omega), wrapi (n := ((n % 10 : Nat) : Int)) (by omega) (by omega), wrapi (n := ((n / 10 : Nat) : Int) * 10 + ((n % 10 : Nat) : Int)) (by omega) (by omega)]
      congr 1
      omega
theorem numB_digit (n : Nat) : ∀ c ∈ numB 10 n, 48 ≤ c.toNat ∧ c.toNat ≤ 57 := by
  induction n using Nat.strongRecOn with
  | ind n ih =>
    have hd : ∀ d : Nat, d < 10 → 48 ≤ (dig d).toNat ∧ (dig d).toNat ≤ 57 := by
      intro d hd
      have := dig_val (d := d) (by omega)
      rw [if_pos hd] at this
      omega
    by_cases h : n < 10
    · rw [numB_lt h]
      intro c hc
      rw [List.mem_singleton.1 hc]; exact hd n h
    · rw [numB_ge (by omega) (by omega)]
      intro c hc
      rcases List.mem_append.1 hc with hc | hc
      · exact ih (n / 10) (by omega) c hc
      · rw [List.mem_singleton.1 hc]; exact hd _ (by omega)
theorem numB_len (b k : Nat) (hb : 2 ≤ b) : ∀ n, n < b ^ (k + 1) → (numB b n).length ≤ k + 1 := by
  induction k with
  | zero => intro n h; rw [numB_lt (by simpa using h)]; simp
  | succ k ih =>
    intro n h
    by_cases h2 : n < b
    · rw [numB_lt h2]; simp
    · rw [numB_ge hb (by omega)]
      have := ih (n / b) (by rw [Nat.div_lt_iff_lt_mul (by omega), ← Nat.pow_succ]; exact h)
      simp; omega

end Go.Proofs.Ytldeegpcldhjaaa
