/- Numerals, read: ParseUint. -/
import Derived.Test.YtldeegpcldhjaaaLibC
import Derived.Lib.ConvBytes
namespace Go.Proofs.Ytldeegpcldhjaaa
open Go Gx

theorem rdCells_of {w : World} {A : Addr} : ∀ (vs : List Value) (i : Nat), (∀ j v, vs[j]? = some v → w.cell? (A.add (i + j)) = some v) → rdCells w A i vs.length = some vs
  | [], _, _ => rfl
  | v :: vs, i, h => by
    have h0 := h 0 v rfl
    have ih := rdCells_of vs (i + 1) (fun j u hj => by rw [show i + 1 + j = i + (j + 1) by omega]; exact h (j + 1) u (by simpa using hj))
    rw [Nat.add_zero] at h0
    simp [rdCells, h0, ih]

/-- A text's bytes as cells. -/
def u8s (l : List UInt8) : List Value := l.map fun b => Value.int .u8 ((b.toNat : Nat) : Int)
theorem u8s_length (l : List UInt8) : (u8s l).length = l.length := by simp [u8s]
theorem u8s_get {l : List UInt8} {i : Nat} (h : i < l.length) : (u8s l)[i]? = some (.int .u8 ((l[i].toNat : Nat) : Int)) := by simp [u8s, h]

theorem conv_strB {src dst : TypeId} {w : World} (l : List UInt8) (hs : Try.prog.underlying src = some .string) (hd : Try.prog.underlying dst = some (.slice Ty.uint8)) :
    ∃ (s : Sl) (w' : World), Sem.run Try.prog (convert src dst (.string (S l))) w = .ok (.slice s.a s.len s.cap) w' ∧ s.len = l.length ∧ Src 1 w' s (u8s l) ∧ Ext w w' := by
  have h := Go.Lib.run_convert_string_bytes (P := Try.prog) w src dst Ty.uint8 (S l) hs hd (by kernel_rfl)
  refine ⟨⟨some ⟨w.heap.size, 0, none⟩, (S l).size, grownCap w (S l).size 0 Ty.uint8⟩, _, h, rfl, ⟨?_, (fun h => by cases h), fun a ha => ?_⟩, ?_⟩
  · rw [u8s_length, Nat.mul_one]; rfl
  · cases ha
    have := rdCells_of (w := Lib.bytesWorld w Ty.uint8 (S l)) (A := ⟨w.heap.size, 0, none⟩) (u8s l) 0 (fun j v hj => by
      rw [add_mk]
      have hj' : j < l.length := by have := (List.getElem?_eq_some_iff.1 hj).1; rwa [u8s_length] at this
      rw [u8s_get hj'] at hj
      have := Lib.bytesWorld_cell w Ty.uint8 (S l) j hj'
      simp only [Nat.zero_add]
      rw [this, ← hj]
      simp [S, List.getD, hj'])
    rw [u8s_length] at this
    rw [Nat.mul_one]
    exact this
  · refine ⟨?_, ?_, ?_, ?_, fun k hk _ => Lib.bytesWorld_at_old w _ _ k hk⟩
    · simp [Lib.bytesWorld, World.freeze, World.alloc, World.drew, -World.alloc_eq, -World.drew_eq]
    · simp [Lib.bytesWorld, World.freeze, World.alloc, World.drew, -World.alloc_eq, -World.drew_eq]
    · simp [Lib.bytesWorld, World.freeze, World.alloc, World.drew, -World.alloc_eq, -World.drew_eq]
    · rw [Lib.bytesWorld_size]; omega

/-! ### A digit, and a numeral's value -/
def dv (c : Nat) : Option Nat := if 48 ≤ c ∧ c ≤ 57 then some (c - 48) else if 97 ≤ c ||| 32 ∧ c ||| 32 ≤ 122 then some ((c ||| 32) - 97 + 10) else none
def pStep (b mx n : Nat) (c : UInt8) : Option Nat := match dv c.toNat with
  | some d => if d < b ∧ n * b + d ≤ mx then some (n * b + d) else none
  | none => none
def parseFrom (b mx : Nat) : Nat → List UInt8 → Option Nat
  | n, [] => some n
  | n, c :: cs => match pStep b mx n c with
    | some m => parseFrom b mx m cs
    | none => none
/-- The number that a text spells, if it is at most mx. -/
def parseB (b mx : Nat) (l : List UInt8) : Option Nat := if l = [] then none else parseFrom b mx 0 l

theorem parseFrom_append (b mx : Nat) : ∀ (l m : List UInt8) (n : Nat), parseFrom b mx n (l ++ m) = (parseFrom b mx n l).bind (fun k => parseFrom b mx k m)
  | [], _, _ => rfl
  | c :: l, m, n => by
    simp only [List.cons_append, parseFrom]
    cases pStep b mx n c with
    | none => rfl
    | some k => exact parseFrom_append b mx l m k

theorem dv_dig : ∀ d : Nat, d < 36 → dv (dig d).toNat = some d := by decide +kernel
theorem dv_lt : ∀ c : Nat, c < 256 → ∀ d, dv c = some d → d < 36 := by
  intro c hc d h
  unfold dv at h
  split at h
  · cases h; omega
  · split at h
    · cases h; omega
    · cases h

theorem parse_num (b mx : Nat) (hb : 2 ≤ b) (hb2 : b ≤ 36) (n : Nat) (hn : n ≤ mx) : parseFrom b mx 0 (numB b n) = some n := by
  induction n using Nat.strongRecOn with
  | ind n ih =>
    by_cases h : n < b
    · rw [numB_lt h]
      simp [parseFrom, pStep, dv_dig n (by omega), h, hn]
    · rw [numB_ge hb (by omega), parseFrom_append, ih (n / b) (Nat.div_lt_self (by omega) (by omega)) (Nat.le_trans (Nat.div_le_self _ _) hn)]
      have hm : n % b < b := Nat.mod_lt _ (by omega)
      have he : n / b * b + n % b = n := by rw [Nat.mul_comm]; exact Nat.div_add_mod n b
      simp [parseFrom, pStep, dv_dig (n % b) (by omega), hm, he, hn]
theorem parseB_num (b mx : Nat) (hb : 2 ≤ b) (hb2 : b ≤ 36) (n : Nat) (hn : n ≤ mx) : parseB b mx (numB b n) = some n := by
  unfold parseB
  rw [if_neg (numB_ne b n)]
  exact parse_num b mx hb hb2 n hn
theorem parseFrom_le {b mx : Nat} : ∀ {l : List UInt8} {n k : Nat}, n ≤ mx → parseFrom b mx n l = some k → k ≤ mx
  | [], n, k, h, e => by cases e; exact h
  | c :: l, n, k, h, e => by
    simp only [parseFrom] at e
    cases hp : pStep b mx n c with
    | none => rw [hp] at e; cases e
    | some m =>
      rw [hp] at e
      refine parseFrom_le ?_ e
      unfold pStep at hp
      split at hp
      · split at hp
        · rename_i h2; cases hp; exact h2.2
        · cases hp
      · cases hp
theorem parseB_le {b mx : Nat} {l : List UInt8} {k : Nat} (e : parseB b mx l = some k) : k ≤ mx := by
  unfold parseB at e
  split at e
  · cases e
  · exact parseFrom_le (Nat.zero_le _) e

end Go.Proofs.Ytldeegpcldhjaaa
