/- The laws AddrParses and AddrShows. -/
import Derived.Test.YtcjpgabpihkcjaaGreatDoorAddrL
namespace Go.Proofs.YtcjpgabpihkcjaaGreatDoor
open Go Gx

theorem joinB_len {c : UInt8} {k : Nat} : ∀ {ls : List (List UInt8)}, (∀ l ∈ ls, l.length ≤ k) → (joinB c ls).length ≤ ls.length * (k + 1)
  | [], _ => by simp [joinB]
  | [l], h => by have := h l (by simp); simp [joinB]; omega
  | l :: m :: ls, h => by
    have h1 := h l (by simp)
    have h2 := joinB_len (c := c) (k := k) (ls := m :: ls) (fun x hx => h x (by simp [hx]))
    have e : joinB c (l :: m :: ls) = l ++ c :: joinB c (m :: ls) := by simp [joinB]
    rw [e, List.length_append, List.length_cons]
    rw [List.length_cons, Nat.succ_mul]
    omega
theorem numB_len_le {b : Nat} (hb : 2 ≤ b) : ∀ (k n : Nat), n < b ^ (k + 1) → (numB b n).length ≤ k + 1
  | 0, n, h => by rw [numB_lt (by simpa using h)]; simp
  | k + 1, n, h => by
    by_cases h2 : n < b
    · rw [numB_lt h2]; simp
    · rw [numB_ge hb (by omega), List.length_append]
      have := numB_len_le hb k (n / b) (by rw [Nat.div_lt_iff_lt_mul (by omega)]; rwa [Nat.pow_succ] at h)
      simp; omega
theorem showP_len (p : Pf) : (showP p).length ≤ 3000 := by
  rcases Classical.em (showP p = []) with h | h
  · rw [h]; simp
  · obtain ⟨_, h2, h3, h4, _⟩ := showP_ne h
    have := showA_len p.addr
    have := numB_len_le (b := 10) (by decide) 3 p.bits.toNat (by omega)
    rw [h2, List.length_append, List.length_cons]; omega
theorem show_shape (a : Ad) : (showA a = [] ∧ parseA (showA a) = none) ∨ (showA a ≠ [] ∧ parseA (showA a) = some a) := by
  rcases Classical.em (showA a = []) with h | h
  · left; rw [h]; exact ⟨rfl, parseA_nil⟩
  · right
    refine ⟨h, parseA_iff.2 ⟨?_, rfl⟩⟩
    cases hg : a.good
    · exfalso; apply h; unfold showA; rw [hg]; rfl
    · rfl
theorem showP_shape (p : Pf) : (showP p = [] ∧ parseP (showP p) = none) ∨ (showP p ≠ [] ∧ parseP (showP p) = some p) := by
  rcases Classical.em (showP p = []) with h | h
  · left; rw [h]; exact ⟨rfl, parseP_nil⟩
  · exact .inr ⟨h, parseP_show h⟩
theorem nilB : ByteArray.toList (ByteArray.mk #[]) = [] := S_toList []
theorem ne_nilB {l : List UInt8} (h : l ≠ []) : (l == ([] : List UInt8)) = false := by
  cases l with
  | nil => exact absurd rfl h
  | cons => rfl

end Go.Proofs.YtcjpgabpihkcjaaGreatDoor
