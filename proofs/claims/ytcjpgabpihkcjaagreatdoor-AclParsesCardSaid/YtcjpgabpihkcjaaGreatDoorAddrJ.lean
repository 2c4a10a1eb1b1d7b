/- The reference's Parse. -/
import Derived.Test.YtcjpgabpihkcjaaGreatDoorAddrI
namespace Go.Proofs.YtcjpgabpihkcjaaGreatDoor
open Go Gx

def dgt (c : UInt8) : Option Nat := if 48 ≤ c.toNat ∧ c.toNat ≤ 57 then some (c.toNat - 48) else if 97 ≤ c.toNat ∧ c.toNat ≤ 102 then some (c.toNat - 87) else none
theorem dgt_dig : ∀ d : Nat, d < 16 → dgt (dig d) = some d := by decide +kernel
theorem dgt_lt {c : UInt8} {d : Nat} (h : dgt c = some d) : d < 16 := by
  unfold dgt at h
  split at h
  · cases h; omega
  · split at h
    · cases h; omega
    · cases h
/-- The number, one byte on. -/
def nStep (b m n : Nat) (c : UInt8) : Nat := match dgt c with
  | some d => if d < b then (n * b + d) % m else n
  | none => n
theorem nStep_lt {b m n : Nat} {c : UInt8} (hm : 0 < m) (h : n < m) : nStep b m n c < m := by
  unfold nStep
  cases dgt c with
  | none => exact h
  | some d =>
    simp only
    split
    · exact Nat.mod_lt _ hm
    · exact h
theorem nStep_num (b m : Nat) (hb : 2 ≤ b ∧ b ≤ 16) : ∀ v : Nat, v < m → (numB b v).foldl (nStep b m) 0 = v := by
  intro v
  induction v using Nat.strongRecOn with
  | ind v ih =>
    intro hv
    by_cases h : v < b
    · rw [numB_lt h]
      show nStep b m 0 (dig v) = v
      unfold nStep
      rw [dgt_dig v (by omega)]
      simp only
      rw [if_pos h, Nat.zero_mul, Nat.zero_add, Nat.mod_eq_of_lt hv]
    · rw [numB_ge hb.1 (by omega), List.foldl_append, ih (v / b) (Nat.div_lt_self (by omega) hb.1) (Nat.lt_of_le_of_lt (Nat.div_le_self _ _) hv)]
      show nStep b m (v / b) (dig (v % b)) = v
      unfold nStep
      have hlt : v % b < b := Nat.mod_lt _ (by omega)
      rw [dgt_dig _ (by omega)]
      simp only
      rw [if_pos hlt, Nat.mul_comm, Nat.div_add_mod, Nat.mod_eq_of_lt hv]

/-- One number of the text into the address. -/
def putN (six : Bool) (k n : Nat) (B : List UInt8) : List UInt8 :=
  if six then (if k < 8 then (B.set (2 * k) (UInt8.ofNat (n / 256))).set (2 * k + 1) (UInt8.ofNat (n % 256)) else B)
  else if k < 4 then B.set (12 + k) (UInt8.ofNat (n % 256)) else B
theorem putN_length (six : Bool) (k n : Nat) (B : List UInt8) : (putN six k n B).length = B.length := by
  unfold putN
  split
  · split <;> simp
  · split <;> simp
def baseOf (six : Bool) : Nat := if six then 16 else 10
def refGo (six : Bool) : List UInt8 → Nat → Nat → List UInt8 → List UInt8
  | [], n, k, B => putN six k n B
  | c :: l, n, k, B => if c = 58 ∨ c = 46 then refGo six l 0 (k + 1) (putN six k n B) else refGo six l (nStep (baseOf six) 65536 n c) k B
theorem refGo_length (six : Bool) : ∀ (l : List UInt8) (n k : Nat) (B : List UInt8), (refGo six l n k B).length = B.length
  | [], _, _, _ => putN_length _ _ _ _
  | c :: l, n, k, B => by
    unfold refGo
    split
    · rw [refGo_length six l, putN_length]
    · exact refGo_length six l _ _ _
theorem putN_take (k n : Nat) (B : List UInt8) : (putN false k n B).take 12 = B.take 12 := by
  unfold putN
  simp only [Bool.false_eq_true, if_false]
  split
  · rw [List.take_set]
    rw [List.set_eq_of_length_le (by simp; omega)]
  · rfl
theorem refGo_take : ∀ (l : List UInt8) (n k : Nat) (B : List UInt8), (refGo false l n k B).take 12 = B.take 12
  | [], _, _, _ => putN_take _ _ _
  | c :: l, n, k, B => by
    unfold refGo
    split
    · rw [refGo_take l, putN_take]
    · exact refGo_take l _ _ _
def refCand (l : List UInt8) : Ad := ⟨decide (58 ∈ l), refGo (decide (58 ∈ l)) l 0 0 (zeros 16), by rw [refGo_length]; simp [zeros]⟩
theorem refCand_good (l : List UInt8) : (refCand l).good = true := by
  have h : ∀ six : Bool, (six || decide ((refGo six l 0 0 (zeros 16)).take 12 = zeros 12)) = true := by
    intro six
    cases six
    · simp only [Bool.false_or, decide_eq_true_eq]
      rw [refGo_take]
      simp [zeros]
    · rfl
  exact h _

theorem refGo_num (six : Bool) : ∀ (l r : List UInt8) (n k : Nat) (B : List UInt8), 58 ∉ l → 46 ∉ l → refGo six (l ++ r) n k B = refGo six r (l.foldl (nStep (baseOf six) 65536) n) k B
  | [], _, _, _, _, _, _ => rfl
  | c :: l, r, n, k, B, h1, h2 => by
    simp only [List.mem_cons, not_or] at h1 h2
    show (if c = 58 ∨ c = 46 then _ else _) = _
    rw [if_neg (fun h => h.elim (fun h => h1.1 h.symm) (fun h => h2.1 h.symm))]
    show refGo six (l ++ r) _ k B = _
    rw [refGo_num six l r _ k B h1.2 h2.2]
    rfl
def putAll (six : Bool) : List Nat → Nat → List UInt8 → List UInt8
  | [], _, B => B
  | v :: vs, k, B => putAll six vs (k + 1) (putN six k v B)
theorem baseOf_ok (six : Bool) : 2 ≤ baseOf six ∧ baseOf six ≤ 16 := by cases six <;> decide
theorem refGo_join (six : Bool) {c : UInt8} (hc : c = 58 ∨ c = 46) : ∀ (vs : List Nat) (k : Nat) (B : List UInt8), vs ≠ [] → (∀ v ∈ vs, v < 65536) → refGo six (joinB c (vs.map (numB (baseOf six)))) 0 k B = putAll six vs k B
  | [], _, _, h, _ => absurd rfl h
  | [v], k, B, _, h => by
    have h1 := refGo_num six (numB (baseOf six) v) [] 0 k B (numB_no (baseOf_ok six) _ (.inr (.inl rfl))) (numB_no (baseOf_ok six) _ (.inl rfl))
    rw [List.append_nil, nStep_num _ _ (baseOf_ok six) v (h v (by simp))] at h1
    exact h1
  | v :: u :: vs, k, B, _, h => by
    have h1 := refGo_num six (numB (baseOf six) v) (c :: joinB c ((u :: vs).map (numB (baseOf six)))) 0 k B (numB_no (baseOf_ok six) _ (.inr (.inl rfl))) (numB_no (baseOf_ok six) _ (.inl rfl))
    rw [nStep_num _ _ (baseOf_ok six) v (h v (by simp))] at h1
    have h2 : joinB c ((v :: u :: vs).map (numB (baseOf six))) = numB (baseOf six) v ++ c :: joinB c ((u :: vs).map (numB (baseOf six))) := by simp [joinB]
    rw [h2, h1]
    show (if c = 58 ∨ c = 46 then _ else _) = _
    rw [if_pos hc, refGo_join six hc (u :: vs) (k + 1) _ (by simp) (fun x hx => h x (by simp [hx]))]
    rfl
theorem beHi (x y : UInt8) : UInt8.ofNat (beN [x, y] / 256) = x ∧ UInt8.ofNat (beN [x, y] % 256) = y := by
  have h := beB2 x y
  have hx := UInt8.toNat_lt x
  have hy := UInt8.toNat_lt y
  have e : beN [x, y] = x.toNat * 256 + y.toNat := by simp [beN]
  rw [e]
  constructor
  · rw [show (x.toNat * 256 + y.toNat) / 256 = x.toNat by omega]; simp
  · rw [show (x.toNat * 256 + y.toNat) % 256 = y.toNat by omega]; simp
theorem putAll6 (b : List UInt8) (h : b.length = 16) : putAll true ((List.range 8).map fun i => beN ((b.drop (2 * i)).take 2)) 0 (zeros 16) = b := by
  obtain ⟨x0, x1, x2, x3, x4, x5, x6, x7, x8, x9, x10, x11, x12, x13, x14, x15, rfl⟩ := list16 b h
  show putAll true [beN [x0, x1], beN [x2, x3], beN [x4, x5], beN [x6, x7], beN [x8, x9], beN [x10, x11], beN [x12, x13], beN [x14, x15]] 0 (zeros 16) = _
  simp only [putAll, putN, if_true, (beHi _ _).1, (beHi _ _).2]
  rfl
theorem putAll4 (l : List UInt8) (h : l.length = 4) : putAll false (l.map fun c => c.toNat) 0 (zeros 16) = zeros 12 ++ l := by
  match l, h with
  | [a, b, c, d], _ =>
    have e : ∀ x : UInt8, UInt8.ofNat (x.toNat % 256) = x := by
      intro x; have := UInt8.toNat_lt x; rw [Nat.mod_eq_of_lt (by omega)]; simp
    simp only [putAll, putN, List.map, Bool.false_eq_true, if_false, e]
    rfl
theorem refCand_show {a : Ad} (hg : a.good = true) : refCand (showA a) = a := by
  unfold showA
  rw [if_pos hg]
  cases h6 : a.six
  · simp only [Bool.false_eq_true, if_false]
    have hraw : a.raw = a.b.drop 12 := by simp [Ad.raw, h6]
    have hrl : a.raw.length = 4 := by rw [a.raw_length, h6]; rfl
    have hno : (58 : UInt8) ∉ joinB 46 (a.raw.map fun c => numB 10 c.toNat) := by
      intro h
      rcases mem_joinB h with h | ⟨l, hl, h⟩
      · exact absurd h (by decide)
      · obtain ⟨c, _, rfl⟩ := List.mem_map.1 hl
        exact numB_no (by decide) _ (.inr (.inl rfl)) h
    refine Ad.ext' ?_ ?_
    · show decide _ = _
      rw [h6, decide_eq_false hno]
    · show refGo (decide _) _ 0 0 _ = _
      rw [decide_eq_false hno]
      have e : (a.raw.map fun c => numB 10 c.toNat) = (a.raw.map fun c => c.toNat).map (numB (baseOf false)) := by simp [baseOf]
      rw [e, refGo_join false (.inr rfl) _ 0 _ (by intro e; have := congrArg List.length e; simp [hrl] at this) (fun n hn => by
        obtain ⟨c, _, rfl⟩ := List.mem_map.1 hn
        have := UInt8.toNat_lt c
        omega), putAll4 _ hrl, hraw]
      exact good_drop hg h6
  · simp only [if_true]
    have hwl : a.words.length = 8 := by simp [Ad.words]
    have hyes : (58 : UInt8) ∈ joinB 58 a.words := by
      match hw : a.words, hwl with
      | l :: m :: ls, _ => simp [joinB]
    refine Ad.ext' ?_ ?_
    · show decide _ = _
      rw [h6, decide_eq_true hyes]
    · show refGo (decide _) _ 0 0 _ = _
      rw [decide_eq_true hyes]
      have e : a.words = ((List.range 8).map fun i => beN ((a.b.drop (2 * i)).take 2)).map (numB (baseOf true)) := by simp [Ad.words, baseOf]
      rw [e, refGo_join true (.inl rfl) _ 0 _ (by intro e; have := congrArg List.length e; simp at this) (fun n hn => by
        obtain ⟨i, hi, rfl⟩ := List.mem_map.1 hn
        have hi := List.mem_range.1 hi
        exact beN_lt 2 ((a.b.drop (2 * i)).take 2) (by simp [a.h]; omega)), putAll6 a.b a.h]
theorem parse_ref (l : List UInt8) : parseA l = if showA (refCand l) = l then some (refCand l) else none := by
  split
  · rename_i h; exact parseA_iff.2 ⟨refCand_good l, h⟩
  · rename_i h
    cases hp : parseA l with
    | none => rfl
    | some a =>
      obtain ⟨hg, hs⟩ := parseA_iff.1 hp
      have := refCand_show hg
      rw [hs] at this
      rw [this] at h
      exact absurd hs h

/-! ### The walk -/
end Go.Proofs.YtcjpgabpihkcjaaGreatDoor
