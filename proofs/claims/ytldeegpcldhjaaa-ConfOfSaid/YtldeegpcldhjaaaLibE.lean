/- Texts searched and parted at one byte: Index, Contains, Cut, Count, Split. -/
import Derived.Test.YtldeegpcldhjaaaLibD
import Derived.Lib.Bytealg
import Derived.Laws.Externs
import Derived.Laws.Small
namespace Go.Proofs.Ytldeegpcldhjaaa
open Go Gx

/-- The place of a byte; none: it is not there. -/
def idxB (c : UInt8) : List UInt8 → Option Nat
  | [] => none
  | b :: l => if b = c then some 0 else (idxB c l).map (· + 1)

theorem indexByte_idxB (c : UInt8) : ∀ l : List UInt8, Lib.indexByte l c = (match idxB c l with | some i => ((i : Nat) : Int) | none => -1)
  | [] => rfl
  | b :: l => by
    simp only [Lib.indexByte, idxB]
    by_cases h : b = c
    · subst h; simp
    · rw [if_neg h, if_neg (by simpa using h), indexByte_idxB c l]
      cases idxB c l with
      | none => rfl
      | some i =>
        simp only [Option.map_some]
        rw [if_neg (by simp)]
        simp

theorem idxB_lt {c : UInt8} : ∀ {l : List UInt8} {i : Nat}, idxB c l = some i → i < l.length
  | [], _, h => by cases h
  | b :: l, i, h => by
    simp only [idxB] at h
    split at h
    · cases h; simp
    · cases hl : idxB c l with
      | none => rw [hl] at h; cases h
      | some j =>
        rw [hl] at h; cases h
        have := idxB_lt hl
        simp; omega
theorem idxB_none {c : UInt8} : ∀ {l : List UInt8}, idxB c l = none ↔ c ∉ l
  | [] => by simp [idxB]
  | b :: l => by
    simp only [idxB, List.mem_cons, not_or]
    by_cases h : b = c
    · subst h; simp
    · rw [if_neg h]
      simp [idxB_none (l := l), show ¬ c = b from fun e => h e.symm]

/-- A text in the parts between a byte. -/
def splitB (c : UInt8) : List UInt8 → List (List UInt8)
  | [] => [[]]
  | b :: l => if b = c then [] :: splitB c l else match splitB c l with
    | p :: ps => (b :: p) :: ps
    | [] => [[b]]

theorem splitB_some {c : UInt8} : ∀ {l : List UInt8} {i : Nat}, idxB c l = some i → splitB c l = l.take i :: splitB c (l.drop (i + 1))
  | [], _, h => by cases h
  | b :: l, i, h => by
    simp only [idxB] at h
    split at h
    · rename_i hb; cases h; simp [splitB, hb]
    · rename_i hb
      cases hl : idxB c l with
      | none => rw [hl] at h; cases h
      | some j =>
        rw [hl] at h; cases h
        simp [splitB, hb, splitB_some hl]
theorem splitB_none {c : UInt8} : ∀ {l : List UInt8}, idxB c l = none → splitB c l = [l]
  | [], _ => rfl
  | b :: l, h => by
    simp only [idxB] at h
    split at h
    · cases h
    · rename_i hb
      have hl : idxB c l = none := by cases hl : idxB c l with
        | none => rfl
        | some j => rw [hl] at h; cases h
      simp [splitB, hb, splitB_none hl]
theorem splitB_length (c : UInt8) : ∀ l : List UInt8, (splitB c l).length = l.count c + 1
  | [] => rfl
  | b :: l => by
    have ih := splitB_length c l
    simp only [splitB, List.count_cons]
    by_cases h : b = c
    · subst h; simp [ih]
    · rw [if_neg h]
      cases hs : splitB c l with
      | nil => rw [hs] at ih; simp at ih
      | cons p ps => rw [hs] at ih; simp [h] at ih ⊢; exact ih

theorem byteNat (c : UInt8) : (((c.toNat : Nat) : Int).toNat.toUInt8) = c := by simp

/-- A text cut at the first of a byte. -/
def cutB (c : UInt8) (l : List UInt8) : List UInt8 × List UInt8 × Bool := match idxB c l with
  | some i => (l.take i, l.drop (i + 1), true)
  | none => (l, [], false)

def strs (ls : List (List UInt8)) : List Value := ls.map fun p => Value.string (S p)
theorem strs_length (ls : List (List UInt8)) : (strs ls).length = ls.length := by simp [strs]
theorem strs_append (a b : List (List UInt8)) : strs (a ++ b) = strs a ++ strs b := by simp [strs]

theorem zrow_string (n : Nat) : zrow Try.prog Ty.string n = (List.replicate n (.string (S []))).toArray := zrow_of (by kernel_rfl) (by kernel_rfl) n

end Go.Proofs.Ytldeegpcldhjaaa
