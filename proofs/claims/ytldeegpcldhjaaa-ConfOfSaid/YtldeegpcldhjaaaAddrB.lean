/- mask, In; the reference's From, Good, Bytes, Mask. -/
import Derived.Test.YtldeegpcldhjaaaAddrA
import Derived.Test.YtldeegpcldhjaaaWr
namespace Go.Proofs.Ytldeegpcldhjaaa
open Go Gx

/-- The first k bits of a byte. -/
def mb (c k : Nat) : Nat := c / 2 ^ (8 - k) * 2 ^ (8 - k)
theorem mb_le (c k : Nat) : mb c k ≤ c := Nat.div_mul_le_self _ _
def mbyte (c : UInt8) (k : Nat) : UInt8 := UInt8.ofNat (mb c.toNat k)
theorem mbyte_val (c : UInt8) (k : Nat) : (mbyte c k).toNat = mb c.toNat k := by
  have := mb_le c.toNat k
  have := UInt8.toNat_lt c
  exact ofNat_val (by omega)
theorem mb_zero (c : Nat) (h : c < 256) : mb c 0 = 0 := by
  have : c / 2 ^ 8 = 0 := Nat.div_eq_of_lt h
  simp [mb]; omega
theorem mb_and : ∀ c : Nat, c < 256 → ∀ k : Nat, k < 9 → bAnd .u8 (c : Int) (IntKind.wrap .u8 (255 * 2 ^ (min (Int.toNat (8 - (k : Int))) 8))) = ((mb c k : Nat) : Int) := by decide +kernel
theorem mb_step : ∀ c : Nat, c < 256 → ∀ m : Nat, m < 8 → ((Int.tmod (Int.fdiv (c : Int) (2 ^ (min (Int.toNat ((7 - m : Nat) : Int)) 8))) 2 == 1) = true → IntKind.wrap .u8 (((mb c m : Nat) : Int) + IntKind.wrap .u8 (1 * 2 ^ (min (Int.toNat ((7 - m : Nat) : Int)) 8))) = ((mb c (m + 1) : Nat) : Int)) ∧
    ((Int.tmod (Int.fdiv (c : Int) (2 ^ (min (Int.toNat ((7 - m : Nat) : Int)) 8))) 2 == 1) = false → mb c m = mb c (m + 1)) := by decide +kernel

/-- How many bits count of the byte at a place. -/
def kb (n i : Nat) : Nat := min (n - 8 * i) 8
def maskB (n : Nat) (l : List UInt8) : List UInt8 := l.mapIdx fun i c => mbyte c (kb n i)
theorem maskB_length (n : Nat) (l : List UInt8) : (maskB n l).length = l.length := by simp [maskB]
theorem maskB_get {n : Nat} {l : List UInt8} {i : Nat} (h : i < l.length) : (maskB n l)[i]? = some (mbyte l[i] (kb n i)) := by
  simp [maskB, h]
/-- .. up to a place. -/
def maskTo (n : Nat) (l : List UInt8) (k : Nat) : List UInt8 := l.mapIdx fun i c => if i < k then mbyte c (kb n i) else c
theorem maskTo_length (n : Nat) (l : List UInt8) (k : Nat) : (maskTo n l k).length = l.length := by simp [maskTo]
theorem maskTo_zero (n : Nat) (l : List UInt8) : maskTo n l 0 = l := by
  apply List.ext_getElem
  · simp [maskTo]
  · intro i h1 h2; simp [maskTo]
theorem maskTo_all (n : Nat) (l : List UInt8) : maskTo n l l.length = maskB n l := by
  apply List.ext_getElem
  · simp [maskTo, maskB]
  · intro i h1 h2
    have : i < l.length := by simpa [maskB] using h2
    simp [maskTo, maskB, this]
theorem maskTo_succ {n : Nat} {l : List UInt8} {k : Nat} (h : k < l.length) : maskTo n l (k + 1) = (maskTo n l k).set k (mbyte l[k] (kb n k)) := by
  apply List.ext_getElem
  · simp [maskTo]
  · intro i h1 h2
    simp only [maskTo, List.getElem_mapIdx, List.getElem_set]
    by_cases e : k = i
    · subst e; simp
    · rw [if_neg e]
      by_cases h3 : i < k
      · simp [h3, show i < k + 1 by omega]
      · simp [h3, show ¬ i < k + 1 by omega]
theorem maskTo_get {n : Nat} {l : List UInt8} {k : Nat} (h : k < l.length) : (maskTo n l k)[k]? = some l[k] := by simp [maskTo, h]

theorem u8s_set {l : List UInt8} {i : Nat} {x : UInt8} : (u8s l).set i (.int .u8 ((x.toNat : Nat) : Int)) = u8s (l.set i x) := by simp [u8s, List.map_set]
theorem u8s_get' {l : List UInt8} {i : Nat} {x : UInt8} (h : l[i]? = some x) : (u8s l)[i]? = some (.int .u8 ((x.toNat : Nat) : Int)) := by simp [u8s, h]

/-- An address's prefix of so many bits. -/
def maskP (a : Ad) (n : Int) : Option Pf := if a.good = true ∧ 0 ≤ n ∧ n ≤ 8 * (a.raw.length : Int) then some ⟨(ofB (maskB n.toNat a.raw)).getD Ad.zero, n⟩ else none

theorem mask_cond (a : Ad) (n : Int) : ((((!a.good) || (decide (n < 0))) || (decide (n > 8 * (a.raw.length : Int)))) = true → maskP a n = none) ∧ ((((!a.good) || (decide (n < 0))) || (decide (n > 8 * (a.raw.length : Int)))) = false → a.good = true ∧ 0 ≤ n ∧ n ≤ 8 * (a.raw.length : Int)) := by
  unfold maskP
  cases hg : a.good
  · simp
  · simp; omega

/-! ### The reference -/
def Ad.from' (a : Ad) : Nat := if a.six then 0 else 12
theorem good_zeros (l : List UInt8) (h : l.length = 12) : l = zeros 12 ↔ ∀ i, (hi : i < 12) → l[i] = 0 := by
  constructor
  · rintro rfl i hi; simp only [zeros, List.getElem_replicate]
  · intro h2
    apply List.ext_getElem
    · simp [zeros, h]
    · intro i h3 h4
      rw [h2 i (by omega)]; simp only [zeros, List.getElem_replicate]

theorem Ad.cB (a : Ad) {i : Nat} (h : i < 16) : a.c[1 + i]? = some (.int .u8 (((a.b[i]'(by rw [a.h]; exact h)).toNat : Nat) : Int)) := by
  rw [Nat.add_comm]
  show (u8s a.b)[i]? = _
  exact u8s_get (by rw [a.h]; exact h)

theorem ref12_Good (a : Ad) (w : World) : Ret Try.prog F.ref12_Good #[.agg a.c.toArray] w (fun v w' => v = .bool a.good ∧ Ext w w') := by
  refine W.ref12_Good_ok _ w _ ?_
  unfold W.ref12_Good Nx
  have hv := Var.new w a.c Ty.api_Addr
  have hx : Ext w (w.alloc (.cells a.c.toArray Ty.api_Addr)) := Chg.alloc (.refl _ _) _
  obtain ⟨w1, hw1⟩ : ∃ w1, w1 = w.alloc (.cells a.c.toArray Ty.api_Addr) := ⟨_, rfl⟩
  rw [← hw1] at hv hx ⊢
  refine ⟨fun i w' => w1 = w' ∧ ∃ k : Nat, i = k ∧ k ≤ 12 ∧ (a.six = false → ∀ j, (hj : j < k) → (hj2 : j < 16) → a.b[j]'(by rw [a.h]; exact hj2) = 0), fun i _ => ((12 : Int) - i).toNat, ⟨rfl, 0, rfl, by omega, fun _ j hj => by omega⟩, ?_⟩
  rintro _ _ ⟨rfl, k, rfl, hk, hz⟩
  refine ⟨fun hlt => ?_, fun hge => ?_⟩
  · have hlt : k < 12 := by have := of_decide_eq_true hlt; omega
    have hcell := a.cB (i := k) (by omega)
    have eA : Addr.add (Addr.add ⟨w.heap.size, 0, none⟩ 1) (Int.toNat (k : Int) * 1) = ⟨w.heap.size, 1 + k, none⟩ := by rw [add_mk, add_mk]; simp
    refine ⟨a.six, hv.cell, Jn1 (fun b w' => w1 = w' ∧ (b = true ↔ a.six = false ∧ a.b[k]'(by rw [a.h]; omega) ≠ 0)) (fun q hq => ⟨fun h => ⟨⟨by omega, by omega⟩, _, by rw [eA, hv.cell]; exact hcell, hq _ _ ⟨rfl, ?_⟩⟩, fun h => hq _ _ ⟨rfl, ?_⟩⟩) ?_⟩
    · have h6 : a.six = false := by simpa using h
      simp only [h6, true_and, bne_iff_ne, ne_eq]
      refine not_congr ?_
      constructor
      · intro h; exact UInt8.toNat_inj.1 (by exact_mod_cast h)
      · intro h; rw [h]; rfl
    · have h6 : a.six = true := by simpa using h
      simp [h6]
    · rintro b _ ⟨rfl, hb⟩
      refine ⟨fun h => ?_, fun h => ?_⟩
      · obtain ⟨h6, hne⟩ := hb.1 h
        refine ⟨?_, hx⟩
        have : ¬ a.b.take 12 = zeros 12 := by
          rw [good_zeros _ (by simp [a.h])]
          intro hall
          have := hall k hlt
          simp at this
          exact hne this
        simp [Ad.good, h6, this]
      · rw [wrapi (by omega) (by omega)]
        refine ⟨⟨rfl, k + 1, by omega, by omega, fun h6 j hj hj2 => ?_⟩, ?_⟩
        · by_cases e : j = k
          · subst e
            rcases Classical.em (a.b[j]'(by rw [a.h]; omega) = 0) with h0 | h0
            · exact h0
            · have := hb.2 ⟨h6, h0⟩; rw [h] at this; cases this
          · exact hz h6 j (by omega) hj2
        · show ((12 : Int) - ((k : Int) + 1)).toNat < ((12 : Int) - (k : Int)).toNat
          omega
  · have hge : k = 12 := by have := of_decide_eq_false hge; omega
    subst hge
    refine ⟨?_, hx⟩
    cases h6 : a.six
    · have : a.b.take 12 = zeros 12 := by
        rw [good_zeros _ (by simp [a.h])]
        intro i hi
        have := hz h6 i hi (by omega)
        simpa using this
      simp [Ad.good, h6, this]
    · simp [Ad.good, h6]

end Go.Proofs.Ytldeegpcldhjaaa
