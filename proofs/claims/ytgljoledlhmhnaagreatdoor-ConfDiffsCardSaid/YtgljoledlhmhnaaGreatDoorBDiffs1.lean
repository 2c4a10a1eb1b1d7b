/- Contracts of the functions that the statement reaches, and the plain laws over them; each theorem stands with its conditions. -/
import Derived.Laws.Externs
import Derived.Laws.Small
import Derived.Lib.Builder
import Derived.Lib.Bytealg
import Derived.Lib.ConvBytes
import Derived.Lib.MakeNoZero
import Derived.Lib.UnsafeStr
import Derived.Test.YtgljoledlhmhnaaGreatDoorVDiffs2
namespace Go.Proofs.YtgljoledlhmhnaaGreatDoor
open Go Gx
def tabLen : ByteArray := ByteArray.mk #[0, 1, 2, 2, 3, 3, 3, 3, 4, 4, 4, 4, 4, 4, 4, 4, 5, 5, 5, 5, 5, 5, 5, 5, 5, 5, 5, 5, 5, 5, 5, 5, 6, 6, 6, 6, 6, 6, 6, 6, 6, 6, 6, 6, 6, 6, 6, 6, 6, 6, 6, 6, 6, 6, 6, 6, 6, 6, 6, 6, 6, 6, 6, 6, 7, 7, 7, 7, 7, 7, 7, 7, 7, 7, 7, 7, 7, 7, 7, 7, 7, 7, 7, 7, 7, 7, 7, 7, 7, 7, 7, 7, 7, 7, 7, 7, 7, 7, 7, 7, 7, 7, 7, 7, 7, 7, 7, 7, 7, 7, 7, 7, 7, 7, 7, 7, 7, 7, 7, 7, 7, 7, 7, 7, 7, 7, 7, 7, 8, 8, 8, 8, 8, 8, 8, 8, 8, 8, 8, 8, 8, 8, 8, 8, 8, 8, 8, 8, 8, 8, 8, 8, 8, 8, 8, 8, 8, 8, 8, 8, 8, 8, 8, 8, 8, 8, 8, 8, 8, 8, 8, 8, 8, 8, 8, 8, 8, 8, 8, 8, 8, 8, 8, 8, 8, 8, 8, 8, 8, 8, 8, 8, 8, 8, 8, 8, 8, 8, 8, 8, 8, 8, 8, 8, 8, 8, 8, 8, 8, 8, 8, 8, 8, 8, 8, 8, 8, 8, 8, 8, 8, 8, 8, 8, 8, 8, 8, 8, 8, 8, 8, 8, 8, 8, 8, 8, 8, 8, 8, 8, 8, 8, 8, 8, 8, 8, 8, 8, 8, 8, 8, 8, 8, 8, 8, 8]
def tabSmalls : ByteArray := ByteArray.mk #[48, 48, 48, 49, 48, 50, 48, 51, 48, 52, 48, 53, 48, 54, 48, 55, 48, 56, 48, 57, 49, 48, 49, 49, 49, 50, 49, 51, 49, 52, 49, 53, 49, 54, 49, 55, 49, 56, 49, 57, 50, 48, 50, 49, 50, 50, 50, 51, 50, 52, 50, 53, 50, 54, 50, 55, 50, 56, 50, 57, 51, 48, 51, 49, 51, 50, 51, 51, 51, 52, 51, 53, 51, 54, 51, 55, 51, 56, 51, 57, 52, 48, 52, 49, 52, 50, 52, 51, 52, 52, 52, 53, 52, 54, 52, 55, 52, 56, 52, 57, 53, 48, 53, 49, 53, 50, 53, 51, 53, 52, 53, 53, 53, 54, 53, 55, 53, 56, 53, 57, 54, 48, 54, 49, 54, 50, 54, 51, 54, 52, 54, 53, 54, 54, 54, 55, 54, 56, 54, 57, 55, 48, 55, 49, 55, 50, 55, 51, 55, 52, 55, 53, 55, 54, 55, 55, 55, 56, 55, 57, 56, 48, 56, 49, 56, 50, 56, 51, 56, 52, 56, 53, 56, 54, 56, 55, 56, 56, 56, 57, 57, 48, 57, 49, 57, 50, 57, 51, 57, 52, 57, 53, 57, 54, 57, 55, 57, 56, 57, 57]
def tabDigits : ByteArray := ByteArray.mk #[48, 49, 50, 51, 52, 53, 54, 55, 56, 57, 97, 98, 99, 100, 101, 102, 103, 104, 105, 106, 107, 108, 109, 110, 111, 112, 113, 114, 115, 116, 117, 118, 119, 120, 121, 122]
theorem tabLen_at : ∀ x : Nat, x < 256 → ∃ b : Fin 9, byteAt tabLen x = some (UInt8.ofNat b.val) ∧ x < 2 ^ b.val ∧ (x = 0 ∨ 2 ^ (b.val - 1) ≤ x) := by decide +kernel
theorem tabSmalls_at : ∀ x : Nat, x < 100 → byteAt tabSmalls (2 * x) = some (UInt8.ofNat (48 + x / 10)) ∧ byteAt tabSmalls (2 * x + 1) = some (UInt8.ofNat (48 + x % 10)) := by decide +kernel
theorem tabDigits_at : ∀ x : Nat, x < 36 → byteAt tabDigits x = some (dig x) := by decide +kernel
theorem ofNat_val {n : Nat} (h : n < 256) : ((UInt8.ofNat n).toNat : Nat) = n := by
 simp [Nat.mod_eq_of_lt h]
def IsLen (x L : Nat) : Prop := x < 2 ^ L ∧ (x = 0 ∨ 2 ^ (L - 1) ≤ x)
theorem IsLen.half {x L k : Nat} (hk : 2 ^ k ≤ x) (h : IsLen (x / 2 ^ k) L) : IsLen x (L + k) := by
 obtain ⟨h1, h2⟩ := h
 have hp : 0 < 2 ^ k := Nat.two_pow_pos k
 have hne : x / 2 ^ k ≠ 0 := by
   have := Nat.div_le_div_right (c := 2 ^ k) hk
   rw [Nat.div_self hp] at this
   omega
 have hL : L ≠ 0 := by
   rintro rfl
   simp only [Nat.pow_zero, Nat.lt_one_iff] at h1
   exact hne h1
 refine ⟨?_, .inr ?_⟩
 · rw [Nat.pow_add]
   exact (Nat.div_lt_iff_lt_mul hp).1 h1
 · rcases h2 with h2 | h2
   · exact absurd h2 hne
   · rw [show L + k - 1 = (L - 1) + k by omega, Nat.pow_add]
     exact (Nat.le_div_iff_mul_le hp).1 h2
theorem Len64 (x : Nat) (hx : x < 2 ^ 64) (w : World) : Ret Tryz.prog F.math_bits_Len64 #[.int .u64 x] w (fun v w' => ∃ L : Nat, v = .int .i64 L ∧ IsLen x L ∧ L ≤ 64 ∧ w = w') := by
 refine W.math_bits_Len64_ok x w _ ?_
 delta W.math_bits_Len64 Br wI
 have hx : x < 18446744073709551616 := hx
 refine Jn2 (fun a n w' => w = w' ∧ ∃ y k : Nat, a = y ∧ n = k ∧ y < 2 ^ 32 ∧ k ≤ 32 ∧ ∀ L, IsLen y L → IsLen x (L + k)) (fun q hq => ⟨fun h => ⟨by decide, ?_⟩, fun h => ?_⟩) ?_
 · have h : 4294967296 ≤ x := by have := of_decide_eq_true h; omega
   refine hq _ _ _ ⟨rfl, x / 2 ^ 32, 32, ?_, rfl, by simp; omega, by omega, fun L hL => hL.half (by simpa using h)⟩
   show Int.fdiv (x : Int) (2 ^ 32) = _
   rw [Int.fdiv_eq_ediv_of_nonneg _ (by decide)]
   simp
 · have h : x < 4294967296 := by have := of_decide_eq_false h; omega
   exact hq _ _ _ ⟨rfl, x, 0, rfl, rfl, by simpa using h, by omega, fun L hL => hL⟩
 rintro _ _ _ ⟨rfl, y, k, rfl, rfl, hy, hk, hL⟩
 have hy : y < 4294967296 := hy
 refine Jn2 (fun a n w1 => w = w1 ∧ ∃ y k : Nat, a = y ∧ n = k ∧ y < 2 ^ 16 ∧ k ≤ 48 ∧ ∀ L, IsLen y L → IsLen x (L + k)) (fun q hq => ⟨fun h => ⟨by decide, ?_⟩, fun h => ?_⟩) ?_
 · have h : 65536 ≤ y := by have := of_decide_eq_true h; omega
   refine hq _ _ _ ⟨rfl, y / 2 ^ 16, k + 16, ?_, ?_, by simp; omega, by omega, fun L hL' => ?_⟩
   · show Int.fdiv (y : Int) (2 ^ 16) = _
     rw [Int.fdiv_eq_ediv_of_nonneg _ (by decide)]
     simp
   · rw [wrapi (by omega) (by omega)]; rfl
   · have := hL _ (hL'.half (by simpa using h))
     rwa [Nat.add_assoc, Nat.add_comm 16 k] at this
 · have h : y < 65536 := by have := of_decide_eq_false h; omega
   exact hq _ _ _ ⟨rfl, y, k, rfl, rfl, by simpa using h, by omega, hL⟩
 rintro _ _ _ ⟨rfl, y, k, rfl, rfl, hy, hk, hL⟩
 have hy : y < 65536 := hy
 refine Jn2 (fun a n w1 => w = w1 ∧ ∃ y k : Nat, a = y ∧ n = k ∧ y < 2 ^ 8 ∧ k ≤ 56 ∧ ∀ L, IsLen y L → IsLen x (L + k)) (fun q hq => ⟨fun h => ⟨by decide, ?_⟩, fun h => ?_⟩) ?_
 · have h : 256 ≤ y := by have := of_decide_eq_true h; omega
   refine hq _ _ _ ⟨rfl, y / 2 ^ 8, k + 8, ?_, ?_, by simp; omega, by omega, fun L hL' => ?_⟩
   · show Int.fdiv (y : Int) (2 ^ 8) = _
     rw [Int.fdiv_eq_ediv_of_nonneg _ (by decide)]
     simp
   · rw [wrapi (by omega) (by omega)]; rfl
   · have := hL _ (hL'.half (by simpa using h))
     rwa [Nat.add_assoc, Nat.add_comm 8 k] at this
 · have h : y < 256 := by have := of_decide_eq_false h; omega
   exact hq _ _ _ ⟨rfl, y, k, rfl, rfl, by simpa using h, by omega, hL⟩
 rintro _ _ _ ⟨rfl, y, k, rfl, rfl, hy, hk, hL⟩
 have hy : y < 256 := hy
 rw [wr8 (by omega) (by omega)]
 obtain ⟨b, hb, h1, h2⟩ := tabLen_at y hy
 refine ⟨by omega, _, hb, b.val + k, ?_, hL _ ⟨h1, h2⟩, by omega, rfl⟩
 rw [ofNat_val (by omega), wrapi (n := ((b.val : Nat) : Int)) (by omega) (by omega), wrapi (by omega) (by omega)]
 congr 1
 omega
def TabPow (w : World) : Prop := ∀ i, i < 20 → w.cell? ⟨G.internal_strconv_uint64pow10, i, none⟩ = some (.int .u64 ((10 ^ i : Nat) : Int))
theorem cell_ext {w w' : World} (h : Ext w w') {A : Addr} {v : Value} (hc : w.cell? A = some v) : w'.cell? A = some v := by
 have hl : A.block < w.heap.size := by
   simp only [World.cell?] at hc
   cases hh : w.heap[A.block]? with
   | none => simp [hh] at hc
   | some o => exact (Array.getElem?_eq_some_iff.1 hh).1
 simp only [World.cell?] at hc ⊢
 rw [h.block _ hl id]; exact hc
theorem TabPow.ext {w w' : World} (h : TabPow w) (hx : Ext w w') : TabPow w' := fun i hi => cell_ext hx (h i hi)
def digLen (L : Nat) : Nat := L * 78913 / 262144
theorem digLen_ok : ∀ L : Nat, L < 65 → 1 ≤ L → digLen L < 20 ∧ 10 ^ digLen L ≤ 10 ^ 20 ∧ 10 ^ (digLen L - 1) ≤ 2 ^ (L - 1) ∧ 2 ^ L ≤ 10 ^ (digLen L + 1) := by decide +kernel
def IsDigs (x k : Nat) : Prop := 1 ≤ k ∧ k ≤ 20 ∧ 10 ^ (k - 1) ≤ x ∧ x < 10 ^ k
theorem numDigits (x : Nat) (h0 : 1 ≤ x) (hx : x < 2 ^ 64) (w : World) (ht : TabPow w) : Ret Tryz.prog F.internal_strconv_numDigits #[.int .u64 x] w (fun v w' => ∃ k : Nat, v = .int .i64 k ∧ IsDigs x k ∧ w = w') := by
 refine W.internal_strconv_numDigits_ok x w _ ?_
 (delta W.internal_strconv_numDigits c1 r5 wI; dsimp only)
 refine (Len64 x hx w).use ?_
 rintro _ w1 ⟨L, rfl, ⟨hL1, hL2⟩, hL3, rfl⟩
 have hL0 : 1 ≤ L := by
   rcases Nat.eq_zero_or_pos L with rfl | h
   · simp at hL1; omega
   · exact h
 have hL2 : 2 ^ (L - 1) ≤ x := by rcases hL2 with h | h; omega; exact h
 obtain ⟨g1, _, g3, g4⟩ := digLen_ok L (by omega) hL0
 refine ⟨L, rfl, Calls.mono (W.internal_strconv_log10Pow2_ok (L : Int) w (fun v w' => v = .int .i64 (digLen L : Nat) ∧ w = w') ?_) ?_⟩
 · delta W.internal_strconv_log10Pow2 wI
   refine ⟨by decide, ?_, rfl⟩
   rw [wrapi (by omega) (by omega)]
   congr 1
   show Int.fdiv ((L : Int) * 78913) (2 ^ 18) = _
   rw [Int.fdiv_eq_ediv_of_nonneg _ (by decide)]
   unfold digLen
   omega
 rintro _ _ ⟨_, rfl, rfl, rfl⟩
 refine ⟨_, rfl, ⟨by omega, by omega⟩, _, (show _ = _ from by
   rw [show Addr.add ⟨3, 0, none⟩ (Int.toNat ((digLen L : Nat) : Int) * 1) = ⟨3, digLen L, none⟩ by rw [add_mk]; simp]
   exact ht _ g1), ?_⟩
 refine Calls.mono (W.internal_strconv_bool2_int_ok _ w (fun v w' => v = .int .i64 ((if 10 ^ digLen L ≤ x then 1 else 0 : Nat) : Int) ∧ w = w') ?_) ?_
 · delta W.internal_strconv_bool2_int Br
   refine ⟨fun h => ⟨?_, rfl⟩, fun h => ⟨?_, rfl⟩⟩
   · have h : 10 ^ digLen L ≤ x := by
       have := of_decide_eq_true h
       exact_mod_cast this
     rw [if_pos h]; rfl
   · have h : ¬ 10 ^ digLen L ≤ x := by
       have := of_decide_eq_false h
       exact_mod_cast this
     rw [if_neg h]; rfl
 rintro _ _ ⟨_, rfl, rfl, rfl⟩
 refine ⟨_, rfl, digLen L + (if 10 ^ digLen L ≤ x then 1 else 0), ?_, ?_, rfl⟩
 · rw [wrapi (by omega) (by split <;> omega)]
   congr 1
 · split
   · rename_i h
     exact ⟨by omega, by omega, by simpa using h, Nat.lt_of_lt_of_le hL1 g4⟩
   · rename_i h
     have hne : digLen L ≠ 0 := fun e => h (by rw [e]; simpa using h0)
     exact ⟨by omega, by omega, Nat.le_trans g3 hL2, by simpa using h⟩
end Go.Proofs.YtgljoledlhmhnaaGreatDoor
namespace Go.Proofs.YtgljoledlhmhnaaGreatDoor
open Go Gx
def Tail (f : Nat → Int) (o n k u : Nat) : Prop := ∀ j, k ≤ j → j < n → f (o + j) = ((48 + u / 10 ^ (n - 1 - j) % 10 : Nat) : Int)
theorem Tail.one {f : Nat → Int} {o n k u : Nat} (h : Tail f o n k u) (hk : 1 ≤ k) (hkn : k ≤ n) {d : Int} (hd : d = ((48 + u / 10 ^ (n - k) % 10 : Nat) : Int)) : Tail (put f (o + (k - 1)) d) o n (k - 1) u := by
 intro j h1 h2
 unfold put
 by_cases e : o + j = o + (k - 1)
 · rw [if_pos e, hd]
   have : n - 1 - j = n - k := by omega
   rw [this]
 · rw [if_neg e]
   exact h j (by omega) h2
theorem Tail.pair {f : Nat → Int} {o n k u uu x : Nat} (h : Tail f o n k u) (hk : 2 ≤ k) (hkn : k ≤ n) (huu : uu = u / 10 ^ (n - k)) (hx : x = uu % 100) :
   Tail (put (put f (o + (k - 1)) ((48 + x % 10 : Nat) : Int)) (o + (k - 2)) ((48 + x / 10 : Nat) : Int)) o n (k - 2) u := by
 have h1 := h.one (d := ((48 + x % 10 : Nat) : Int)) (by omega) hkn (by rw [← huu]; subst hx; congr 1; omega)
 have h2 := h1.one (d := ((48 + x / 10 : Nat) : Int)) (by omega) (by omega) (by
   rw [show n - (k - 1) = (n - k) + 1 by omega, Nat.pow_succ, ← Nat.div_div_eq_div_mul, ← huu]; subst hx; congr 1; omega)
 rw [show k - 1 - 1 = k - 2 by omega] at h2
 exact h2
theorem down {u n k uu : Nat} (j : Nat) (h : uu = u / 10 ^ (n - k)) (hj : j ≤ k) (hk : k ≤ n) : uu / 10 ^ j = u / 10 ^ (n - (k - j)) := by
 rw [show n - (k - j) = (n - k) + j by omega, Nat.pow_add, ← Nat.div_div_eq_div_mul, ← h]
theorem pairStep {w : World} {R : World → Prop} {a : Sl} {b o m k : Nat} {T : TypeId} {f : Nat → Int} (ha : a.a = some ⟨b, o, none⟩) {e : Int} {x : Nat} (he : e = x) (hx : x < 100) {i1 i2 : Int} (hi1 : i1 = ((k - 1 : Nat) : Int)) (hi2 : i2 = ((k - 2 : Nat) : Int))
   (hk : 2 ≤ k) (hkn : k ≤ a.len) (hB : Buf w b T m f) (hm : o + a.len ≤ m)
   (hR : ∀ w', Buf w' b T m (put (put f (o + (k - 1)) ((48 + x % 10 : Nat) : Int)) (o + (k - 2)) ((48 + x / 10 : Nat) : Int)) → Chg (fun q => q = b) w w' → R w') :
   (0 : Int) ≤ (IntKind.wrap .u32 ((IntKind.wrap .u32 (e * 2)) + 1)) ∧ ∃ b8 : UInt8, byteAt tabSmalls (Int.toNat (IntKind.wrap .u32 ((IntKind.wrap .u32 (e * 2)) + 1))) = some b8 ∧ (0 : Int) ≤ (IntKind.wrap .u32 (e * 2)) ∧ ∃ b9 : UInt8, byteAt tabSmalls (Int.toNat (IntKind.wrap .u32 (e * 2))) = some b9 ∧
     ∃ a10 : Addr, a.a = some a10 ∧ ((0 : Int) ≤ i1 ∧ i1 < ((a.len : Nat) : Int)) ∧ (∃ u : Value, w.drew.cell? (a10.add (Int.toNat i1 * 1)) = some u) ∧ w.drew.frozen? (a10.add (Int.toNat i1 * 1)) = false ∧
       Nx (w.drew.setCell (a10.add (Int.toNat i1 * 1)) (.int .u8 ((b8.toNat : Nat) : Int))) fun w11 =>
       ∃ a12 : Addr, a.a = some a12 ∧ ((0 : Int) ≤ i2 ∧ i2 < ((a.len : Nat) : Int)) ∧ (∃ u : Value, w11.cell? (a12.add (Int.toNat i2 * 1)) = some u) ∧ w11.frozen? (a12.add (Int.toNat i2 * 1)) = false ∧
       Nx (w11.setCell (a12.add (Int.toNat i2 * 1)) (.int .u8 ((b9.toNat : Nat) : Int))) R := by
 unfold Nx
 subst he hi1 hi2
 obtain ⟨h1, h2⟩ := tabSmalls_at x hx
 rw [wr32 (n := (x : Int) * 2) (by omega) (by omega), wr32 (n := (x : Int) * 2 + 1) (by omega) (by omega)]
 have e1 : (Addr.mk b o none).add (Int.toNat ((k - 1 : Nat) : Int) * 1) = ⟨b, o + (k - 1), none⟩ := by rw [add_mk]; simp
 have e2 : (Addr.mk b o none).add (Int.toNat ((k - 2 : Nat) : Int) * 1) = ⟨b, o + (k - 2), none⟩ := by rw [add_mk]; simp
 have hB' := hB.drew
 have hB1 := hB'.set (i := o + (k - 1)) rfl ((48 + x % 10 : Nat) : Int)
 refine ⟨by omega, _, (show byteAt tabSmalls (Int.toNat ((x : Int) * 2 + 1)) = _ from by rw [← h2]; congr 1; omega), by omega, _, (show byteAt tabSmalls (Int.toNat ((x : Int) * 2)) = _ from by rw [← h1]; congr 1; omega),
   _, ha, ⟨by omega, by omega⟩, ?_⟩
 rw [e1, ofNat_val (by omega), ofNat_val (by omega)]
 refine ⟨⟨_, hB'.cell rfl (by omega)⟩, hB'.frozen rfl, _, ha, ⟨by omega, by omega⟩, ?_⟩
 rw [e2]
 refine ⟨⟨_, hB1.cell rfl (by omega)⟩, hB1.frozen rfl, hR _ (hB1.set rfl _) ?_⟩
 exact ((Chg.drew (.refl _ _)).cellB (i := o + (k - 1)) _).cellB _
theorem formatBase10 {w : World} {a : Sl} {b o m u : Nat} {T : TypeId} {f : Nat → Int} (ha : a.a = some ⟨b, o, none⟩) (hn : a.len ≤ 100) (hu : u < 2 ^ 64) (hud : u < 10 ^ a.len) (hm : o + a.len ≤ m) (hB : Buf w b T m f) :
   Ret Tryz.prog F.internal_strconv_formatBase10 #[.slice a.a a.len a.cap, .int .u64 u] w (fun v w' => v = .tuple #[] ∧ ∃ f', Buf w' b T m f' ∧ Tail f' o a.len 0 u ∧ Chg (fun q => q = b) w w') := by
 refine W.internal_strconv_formatBase10_ok a u w _ ?_
 (delta W.internal_strconv_formatBase10 Br bd wI st; dsimp only)
 have hu : u < 18446744073709551616 := hu
 refine ⟨fun u' k' w' => ∃ k uu : Nat, k' = k ∧ u' = uu ∧ k ≤ a.len ∧ uu = u / 10 ^ (a.len - k) ∧ ∃ f', Buf w' b T m f' ∧ Tail f' o a.len k u ∧ Chg (fun q => q = b) w w', fun _ k _ => k.toNat,
   ⟨a.len, u, rfl, rfl, Nat.le_refl _, by simp, f, hB, fun j h1 h2 => by omega, .refl _ _⟩, ?_⟩
 rintro _ _ w1 ⟨k, uu, rfl, rfl, hk, huu, f1, hB1, hT1, hc1⟩
 have huL : uu < 18446744073709551616 := by rw [huu]; exact Nat.lt_of_le_of_lt (Nat.div_le_self _ _) hu
 refine ⟨fun h8 => ?_, fun h8 => ?_⟩
 · have h8 : 8 ≤ k := by have := of_decide_eq_true h8; omega
   simp only [tmod_nn (Int.natCast_nonneg uu)]
   rw [wr32 (n := (uu : Int) % 100000000) (by omega) (by omega)]
   rw [tmod_nn (a := (uu : Int) % 100000000) (by omega), tdiv_nn (a := (uu : Int) % 100000000) (by omega), tdiv_nn (a := (uu : Int)) (by omega)]
   rw [wr32 (n := (uu : Int) % 100000000 / 10000) (by omega) (by omega)]
   rw [tmod_nn (a := (uu : Int) % 100000000 % 10000) (by omega), tdiv_nn (a := (uu : Int) % 100000000 % 10000) (by omega), tmod_nn (a := (uu : Int) % 100000000 / 10000) (by omega), tdiv_nn (a := (uu : Int) % 100000000 / 10000) (by omega)]
   rw [wr32 (n := (uu : Int) % 100000000 % 10000 / 100) (by omega) (by omega), wr32 (n := (uu : Int) % 100000000 / 10000 / 100) (by omega) (by omega)]
   refine ⟨by decide, by decide, by decide, by decide, by decide, by decide, by decide, by decide, fun _ => False, ?_⟩
   refine pairStep ha (x := uu % 100) (k := k) (by omega) (by omega) (by rw [wrapi (by omega) (by omega)]; omega) (by rw [wrapi (by omega) (by omega)]; omega) (by omega) hk hB1 hm ?_
   intro w2 hB2 hc2
   have hT2 := hT1.pair (by omega) hk huu rfl
   have d2 := down 2 huu (by omega) hk
   refine ⟨fun _ => False, ?_⟩
   refine pairStep ha (x := uu / 10 ^ 2 % 100) (k := k - 2) (by omega) (by omega) (by rw [wrapi (by omega) (by omega)]; omega) (by rw [wrapi (by omega) (by omega)]; omega) (by omega) (by omega) hB2 hm ?_
   intro w3 hB3 hc3
   have hT3 := hT2.pair (by omega) (by omega) d2 rfl
   have d3 := down 4 huu (by omega) hk
   rw [show k - 2 - 2 = k - 4 by omega] at hT3
   refine ⟨fun _ => False, ?_⟩
   refine pairStep ha (x := uu / 10 ^ 4 % 100) (k := k - 4) (by omega) (by omega) (by rw [wrapi (by omega) (by omega)]; omega) (by rw [wrapi (by omega) (by omega)]; omega) (by omega) (by omega) hB3 hm ?_
   intro w4 hB4 hc4
   have hT4 := hT3.pair (by omega) (by omega) d3 rfl
   have d4 := down 6 huu (by omega) hk
   rw [show k - 4 - 2 = k - 6 by omega] at hT4
   refine ⟨fun _ => False, ?_⟩
   refine pairStep ha (x := uu / 10 ^ 6 % 100) (k := k - 6) (by omega) (by omega) (by rw [wrapi (by omega) (by omega)]; omega) (by rw [wrapi (by omega) (by omega)]; omega) (by omega) (by omega) hB4 hm ?_
   intro w5 hB5 hc5
   have hT5 := hT4.pair (by omega) (by omega) d4 rfl
   have d5 := down 8 huu (by omega) hk
   rw [show k - 6 - 2 = k - 8 by omega] at hT5
   rw [wrapi (n := (k : Int) - 8) (by omega) (by omega), wr64 (n := (uu : Int) / 100000000) (by omega) (by omega)]
   refine ⟨⟨k - 8, uu / 10 ^ 8, by omega, by omega, by omega, d5, _, hB5, hT5, (((hc1.trans hc2).trans hc3).trans hc4).trans hc5⟩, ?_⟩
   show ((k : Int) - 8).toNat < (k : Int).toNat
   omega
 · have h8 : k < 8 := by have := of_decide_eq_false h8; omega
   have h32 : uu < 100000000 := by
     rw [huu]
     have := (Nat.div_lt_iff_lt_mul (k := 10 ^ (a.len - k)) (x := u) (y := 10 ^ k) (Nat.pow_pos (by omega))).2 (by rw [← Nat.pow_add, show k + (a.len - k) = a.len by omega]; exact hud)
     have h7 : 10 ^ k ≤ 10 ^ 7 := Nat.pow_le_pow_right (by omega) (by omega)
     have h7 : 10 ^ k ≤ 10000000 := h7
     omega
   rw [wr32 (n := (uu : Int)) (by omega) (by omega)]
   refine Jn2 (fun k' u' w' => ∃ k uu : Nat, k' = k ∧ u' = uu ∧ k ≤ a.len ∧ k < 4 ∧ uu = u / 10 ^ (a.len - k) ∧ ∃ f', Buf w' b T m f' ∧ Tail f' o a.len k u ∧ Chg (fun q => q = b) w w') (fun q hq => ⟨fun h4 => ?_, fun h4 => ?_⟩) ?_
   · have h4 : 4 ≤ k := by have := of_decide_eq_true h4; omega
     rw [tmod_nn (a := (uu : Int)) (by omega), tdiv_nn (a := (uu : Int)) (by omega)]
     rw [tmod_nn (a := (uu : Int) % 10000) (by omega), tdiv_nn (a := (uu : Int) % 10000) (by omega)]
     rw [wr32 (n := (uu : Int) % 10000 / 100) (by omega) (by omega), wr32 (n := (uu : Int) / 10000) (by omega) (by omega)]
     refine ⟨by decide, by decide, by decide, by decide, fun _ => False, ?_⟩
     refine pairStep ha (x := uu % 100) (k := k) (by omega) (by omega) (by rw [wrapi (by omega) (by omega)]; omega) (by rw [wrapi (by omega) (by omega)]; omega) (by omega) hk hB1 hm ?_
     intro w2 hB2 hc2
     have hT2 := hT1.pair (by omega) hk huu rfl
     have d2 := down 2 huu (by omega) hk
     refine ⟨fun _ => False, ?_⟩
     refine pairStep ha (x := uu / 10 ^ 2 % 100) (k := k - 2) (by omega) (by omega) (by rw [wrapi (by omega) (by omega)]; omega) (by rw [wrapi (by omega) (by omega)]; omega) (by omega) (by omega) hB2 hm ?_
     intro w3 hB3 hc3
     have hT3 := hT2.pair (by omega) (by omega) d2 rfl
     have d3 := down 4 huu (by omega) hk
     rw [show k - 2 - 2 = k - 4 by omega] at hT3
     rw [wrapi (n := (k : Int) - 4) (by omega) (by omega)]
     exact hq _ _ _ ⟨k - 4, uu / 10 ^ 4, by omega, by omega, by omega, by omega, d3, _, hB3, hT3, (hc1.trans hc2).trans hc3⟩
   · have h4 : k < 4 := by have := of_decide_eq_false h4; omega
     exact hq _ _ _ ⟨k, uu, rfl, rfl, hk, h4, huu, f1, hB1, hT1, hc1⟩
   rintro _ _ w2 ⟨k, uu, rfl, rfl, hk, h4, huu, f2, hB2, hT2, hc2⟩
   have h32 : uu < 10000 := by
     rw [huu]
     have := (Nat.div_lt_iff_lt_mul (k := 10 ^ (a.len - k)) (x := u) (y := 10 ^ k) (Nat.pow_pos (by omega))).2 (by rw [← Nat.pow_add, show k + (a.len - k) = a.len by omega]; exact hud)
     have h7 : 10 ^ k ≤ 10 ^ 3 := Nat.pow_le_pow_right (by omega) (by omega)
     have h7 : 10 ^ k ≤ 1000 := h7
     omega
   refine Jn2 (fun k' u' w' => ∃ k uu : Nat, k' = k ∧ u' = uu ∧ k ≤ a.len ∧ k < 2 ∧ uu = u / 10 ^ (a.len - k) ∧ ∃ f', Buf w' b T m f' ∧ Tail f' o a.len k u ∧ Chg (fun q => q = b) w w') (fun q hq => ⟨fun h2 => ?_, fun h2 => ?_⟩) ?_
   · have h2 : 2 ≤ k := by have := of_decide_eq_true h2; omega
     rw [tmod_nn (a := (uu : Int)) (by omega), tdiv_nn (a := (uu : Int)) (by omega)]
     rw [wr32 (n := (uu : Int) / 100) (by omega) (by omega)]
     refine ⟨by decide, by decide, fun _ => False, ?_⟩
     refine pairStep ha (x := uu % 100) (k := k) (by omega) (by omega) (by rw [wrapi (by omega) (by omega)]; omega) (by rw [wrapi (by omega) (by omega)]; omega) (by omega) hk hB2 hm ?_
     intro w3 hB3 hc3
     have hT3 := hT2.pair (by omega) hk huu rfl
     have d2 := down 2 huu (by omega) hk
     rw [wrapi (n := (k : Int) - 2) (by omega) (by omega)]
     exact hq _ _ _ ⟨k - 2, uu / 10 ^ 2, by omega, by omega, by omega, by omega, d2, _, hB3, hT3, hc2.trans hc3⟩
   · have h2 : k < 2 := by have := of_decide_eq_false h2; omega
     exact hq _ _ _ ⟨k, uu, rfl, rfl, hk, h2, huu, f2, hB2, hT2, hc2⟩
   rintro _ _ w3 ⟨k, uu, rfl, rfl, hk, h2, huu, f3, hB3, hT3, hc3⟩
   have h10 : uu < 10 := by
     rw [huu]
     have := (Nat.div_lt_iff_lt_mul (k := 10 ^ (a.len - k)) (x := u) (y := 10 ^ k) (Nat.pow_pos (by omega))).2 (by rw [← Nat.pow_add, show k + (a.len - k) = a.len by omega]; exact hud)
     have h7 : 10 ^ k ≤ 10 ^ 1 := Nat.pow_le_pow_right (by omega) (by omega)
     have h7 : 10 ^ k ≤ 10 := h7
     omega
   unfold Nx
   refine ⟨fun h => ?_, fun h => ?_⟩
   · have hk1 : k = 1 := by have := of_decide_eq_true h; omega
     subst hk1
     have e1 : (Addr.mk b o none).add (Int.toNat 0 * 1) = ⟨b, o + 0, none⟩ := by rw [add_mk]; simp
     rw [wr32 (n := 48 + (uu : Int)) (by omega) (by omega), wr8 (by omega) (by omega)]
     refine ⟨_, ha, ⟨by decide, by omega⟩, ?_⟩
     rw [e1]
     refine ⟨⟨_, hB3.cell rfl (by omega)⟩, hB3.frozen rfl, rfl, _, hB3.set rfl _, ?_, hc3.cellB _⟩
     have := hT3.one (d := 48 + (uu : Int)) (by omega) hk (by rw [← huu]; omega)
     simpa using this
   · have hk0 : k = 0 := by have := of_decide_eq_false h; omega
     subst hk0
     exact ⟨rfl, _, hB3, hT3, hc3⟩
theorem IsDigs.numB {x k : Nat} (h : IsDigs x k) : numB 10 x = decN x k := by
 obtain ⟨h1, h2, h3, h4⟩ := h
 obtain ⟨k, rfl⟩ : ∃ j, k = j + 1 := ⟨k - 1, by omega⟩
 exact numB_dec k x h4 (.inl (by simpa using h3))
theorem decN_of_tail {f : Nat → Int} {o n u : Nat} (h : Tail f o n 0 u) : ((List.range n).map fun i => f (o + i)).map (fun z => UInt8.ofNat z.toNat) = decN u n := by
 unfold decN
 rw [List.map_map]
 apply List.map_congr_left
 intro j hj
 have := h j (by omega) (List.mem_range.1 hj)
 simp only [Function.comp, this]
 rfl
theorem small (i : Nat) (hi : i < 100) (w : World) : Ret Tryz.prog F.internal_strconv_small #[.int .i64 i] w (fun v w' => v = .string (S (numB 10 i)) ∧ w = w') := by
 have key : ∀ i : Nat, i < 100 → (i < 10 → ByteArray.extract tabDigits i (i + 1) = S (numB 10 i)) ∧ (¬ i < 10 → ByteArray.extract tabSmalls (i * 2) (i * 2 + 2) = S (numB 10 i)) := by
   intro i hi
   refine ⟨fun h => ?_, fun h => ?_⟩
   · have e : ∀ i : Nat, i < 10 → (tabDigits.extract i (i + 1)).data = (S [dig i]).data := by decide +kernel
     rw [numB_lt h]
     exact ByteArray.ext (e i h)
   · have e : ∀ i : Nat, i < 100 → (tabSmalls.extract (i * 2) (i * 2 + 2)).data = (S [dig (i / 10), dig (i % 10)]).data := by decide +kernel
     rw [numB_ge (by omega) (by omega), numB_lt (by omega)]
     exact ByteArray.ext (e i hi)
 refine W.internal_strconv_small_ok i w _ ?_
 delta W.internal_strconv_small Br wI
 obtain ⟨k1, k2⟩ := key i hi
 rw [wrapi (n := (i : Int) + 1) (by omega) (by omega), wrapi (n := (i : Int) * 2) (by omega) (by omega), wrapi (n := (i : Int) * 2 + 2) (by omega) (by omega)]
 refine ⟨fun h => ?_, fun h => ?_⟩
 · have h : i < 10 := by have := of_decide_eq_true h; omega
   refine ⟨⟨by omega, ?_⟩, ⟨by omega, by omega⟩, ?_, rfl⟩
   · show (i : Int) + 1 ≤ ((36 : Nat) : Int); omega
   · rw [← k1 h]; rfl
 · have h : ¬ i < 10 := by have := of_decide_eq_false h; omega
   refine ⟨⟨by omega, ?_⟩, ⟨by omega, by omega⟩, ?_, rfl⟩
   · show (i : Int) * 2 + 2 ≤ ((200 : Nat) : Int); omega
   · rw [← k2 h]
     congr 2 <;> omega
theorem conv_byteS {src dst : TypeId} {w : World} {s : Sl} {ns : List Int} (hs : Tryz.prog.underlying src = some (.slice Ty.uint8)) (hd : Tryz.prog.underlying dst = some .string) (h : Src 1 w s (ns.map (.int .u8))) :
   Sem.run Tryz.prog (convert src dst (.slice s.a s.len s.cap)) w = .ok (.string (S (ns.map fun n => UInt8.ofNat n.toNat))) w := by
 rw [run_conv_bytes hs (by kernel_rfl) hd h, bstr_eq]
theorem FormatInt10 (n : Nat) (hn : n < 2 ^ 63) (w : World) (ht : TabPow w) : Ret Tryz.prog F.internal_strconv_FormatInt #[.int .i64 n, .int .i64 10] w (fun v w' => v = .string (S (numB 10 n)) ∧ Ext w w') := by
 have hn : n < 9223372036854775808 := hn
 refine W.internal_strconv_FormatInt_ok n 10 w _ ?_
 (delta W.internal_strconv_FormatInt Nx Br c4 z3 c1 wI c2 nA st c6; dsimp only)
 refine ⟨fun _ => ⟨fun h => ?_, fun h => ?_⟩, fun h => by simp at h⟩
 · have h : n < 100 := by simp at h; omega
   refine (small n h w).use ?_
   rintro _ w1 ⟨rfl, rfl⟩
   exact ⟨_, rfl, rfl, .refl _ _⟩
 · have h : 100 ≤ n := by simp at h; omega
   have hx1 : Ext w (w.alloc (.cells (bufV 24 (fun _ => 0)) Ty.n24_uint8)) := Chg.alloc (.refl _ _) _
   have hB1 : Buf (w.alloc (.cells (bufV 24 (fun _ => 0)) Ty.n24_uint8)) w.heap.size Ty.n24_uint8 24 (fun _ => 0) := ⟨Blk.new _ _ _⟩
   refine Jn1 (fun x w1 => x = (n : Int) ∧ w1 = w.alloc (.cells (bufV 24 (fun _ => 0)) Ty.n24_uint8)) (fun q hq => ⟨fun h => by have := of_decide_eq_true h; omega, fun _ => hq _ _ ⟨by rw [wr64 (by omega) (by omega)], rfl⟩⟩) ?_
   rintro _ _ ⟨rfl, rfl⟩
   refine (numDigits n (by omega) (by omega) _ (ht.ext hx1)).use ?_
   rintro _ w2 ⟨k, rfl, hk, rfl⟩
   obtain ⟨g1, g2, g3, g4⟩ := hk
   refine ⟨_, rfl, ?_⟩
   rw [wrapi (n := 1 + (k : Int)) (by omega) (by omega)]
   refine ⟨⟨by omega, by omega⟩, ⟨by omega, by omega⟩, ?_⟩
   rw [show (1 + (k : Int)).toNat = k + 1 by omega, show Int.toNat 1 = 1 from rfl, cut_some (by omega), show k + 1 - 1 = k by omega]
   refine (formatBase10 (a := ⟨some ⟨w.heap.size, 0 + 1 * 1, none⟩, k, 23⟩) (o := 0 + 1 * 1) (b := w.heap.size) (m := 24) (u := n) rfl (by show k ≤ 100; omega) (by omega) g4 (by show 0 + 1 * 1 + k ≤ 24; omega) hB1).use ?_
   rintro _ w3 ⟨rfl, f3, hB3, hT3, hc3⟩
   have hx3 : Ext w w3 := Ext.of_new hx1 hc3 (fun q hq => by subst hq; exact Nat.le_refl _)
   refine ⟨rfl, fun h => by have := of_decide_eq_true h; omega, fun _ => ⟨⟨by omega, by omega⟩, ⟨by omega, by omega⟩, _, w3, conv_byteS (ns := (List.range k).map fun i => f3 (0 + 1 * 1 + i)) (s := ⟨some ⟨w.heap.size, 0 + 1 * 1, none⟩, k, 23⟩) (by kernel_rfl) (by kernel_rfl) ?_, ?_, hx3⟩⟩
   · have := hB3.src (o := 0 + 1 * 1) (n := k) (c := 23) (by omega)
     rw [List.map_map]
     exact this
   · rw [decN_of_tail hT3, IsDigs.numB ⟨g1, g2, g3, g4⟩]
theorem Itoa (n : Nat) (hn : n < 2 ^ 63) (w : World) (ht : TabPow w) : Ret Tryz.prog F.strconv_Itoa #[.int .i64 n] w (fun v w' => v = .string (S (numB 10 n)) ∧ Ext w w') := by
 refine W.strconv_Itoa_ok n w _ ?_
 (delta W.strconv_Itoa c4; dsimp only)
 refine Calls.mono (W.internal_strconv_Itoa_ok n w (fun v w' => v = .string (S (numB 10 n)) ∧ Ext w w') ?_) ?_
 · (delta W.internal_strconv_Itoa c4; dsimp only)
   refine (FormatInt10 n hn w ht).use ?_
   rintro _ w1 ⟨rfl, hx⟩
   exact ⟨_, rfl, rfl, hx⟩
 · rintro _ w1 ⟨_, rfl, rfl, hx⟩
   exact ⟨_, rfl, rfl, hx⟩
end Go.Proofs.YtgljoledlhmhnaaGreatDoor
namespace Go.Proofs.YtgljoledlhmhnaaGreatDoor
open Go Gx
theorem bAnd64 {a b : Nat} (ha : a < 2 ^ 64) (hb : b < 2 ^ 64) : bAnd .u64 (a : Int) (b : Int) = ((a &&& b : Nat) : Int) := by
 have e1 : BitVec.ofInt 64 (a : Int) = BitVec.ofNat 64 a := by simp
 have e2 : BitVec.ofInt 64 (b : Int) = BitVec.ofNat 64 b := by simp
 unfold bAnd
 show IntKind.u64.wrap (((BitVec.ofInt 64 (a : Int) &&& BitVec.ofInt 64 (b : Int)).toNat : Nat) : Int) = _
 rw [e1, e2, BitVec.toNat_and, BitVec.toNat_ofNat, BitVec.toNat_ofNat, Nat.mod_eq_of_lt ha, Nat.mod_eq_of_lt hb]
 have : a &&& b ≤ a := Nat.and_le_left
 have ha : a < 18446744073709551616 := ha
 rw [wr64 (by omega) (by omega)]
theorem bOr8 {a b : Nat} (ha : a < 2 ^ 8) (hb : b < 2 ^ 8) : bOr .u8 (a : Int) (b : Int) = ((a ||| b : Nat) : Int) := by
 have e1 : BitVec.ofInt 8 (a : Int) = BitVec.ofNat 8 a := by simp
 have e2 : BitVec.ofInt 8 (b : Int) = BitVec.ofNat 8 b := by simp
 unfold bOr
 show IntKind.u8.wrap (((BitVec.ofInt 8 (a : Int) ||| BitVec.ofInt 8 (b : Int)).toNat : Nat) : Int) = _
 rw [e1, e2, BitVec.toNat_or, BitVec.toNat_ofNat, BitVec.toNat_ofNat, Nat.mod_eq_of_lt ha, Nat.mod_eq_of_lt hb]
 have : a ||| b < 2 ^ 8 := Nat.or_lt_two_pow ha hb
 have : a ||| b < 256 := this
 rw [wr8 (by omega) (by omega)]
def TabBru (w : World) : Prop := w.cell? ⟨G.math_bits_deBruijn64tab, 15, none⟩ = some (.int .u8 4)
theorem TabBru.ext {w w' : World} (h : TabBru w) (hx : Ext w w') : TabBru w' := cell_ext hx h
theorem TrailingZeros16 (w : World) (ht : TabBru w) : Ret Tryz.prog F.math_bits_TrailingZeros #[.int .u64 16] w (fun v w' => v = .int .i64 4 ∧ w = w') := by
 refine W.math_bits_TrailingZeros_ok 16 w _ ?_
 (delta W.math_bits_TrailingZeros Br c1; dsimp only)
 refine ⟨fun h => by simp at h, fun _ => ?_⟩
 refine Calls.mono (W.math_bits_TrailingZeros64_ok 16 w (fun v w' => v = .int .i64 4 ∧ w = w') ?_) ?_
 · (delta W.math_bits_TrailingZeros64 Br r4 wI; dsimp only)
   have e : (Int.fdiv (IntKind.wrap .u64 ((bAnd .u64 16 (IntKind.wrap .u64 (0 - 16))) * 285870213051353865)) (2 ^ (min (Int.toNat 58) 64))) = 15 := by decide +kernel
   refine ⟨fun h => by simp at h, fun _ => ⟨by decide, ?_⟩⟩
   rw [e]
   exact ⟨⟨by decide, by decide⟩, 4, ht, rfl, rfl⟩
 · rintro _ _ ⟨_, rfl, rfl, rfl⟩
   exact ⟨_, rfl, rfl, rfl⟩
def tl (f : Nat → Int) (k m : Nat) : List UInt8 := (List.range (m - k)).map fun j => UInt8.ofNat (f (k + j)).toNat
theorem tl_end (f : Nat → Int) (m : Nat) : tl f m m = [] := by simp [tl]
theorem tl_put {f : Nat → Int} {k m : Nat} (h1 : 1 ≤ k) (h2 : k ≤ m) (d : Int) : tl (put f (k - 1) d) (k - 1) m = UInt8.ofNat d.toNat :: tl f k m := by
 unfold tl
 rw [show m - (k - 1) = (m - k) + 1 by omega, List.range_succ_eq_map, List.map_cons, List.map_map]
 congr 1
 · simp [put]
 · apply List.map_congr_left
   intro j _
   simp only [Function.comp, put]
   rw [if_neg (by omega), show k - 1 + j.succ = k + j by omega]
theorem dig_val {d : Nat} (h : d < 36) : (((dig d).toNat : Nat) : Int) = ((if d < 10 then 48 + d else 87 + d : Nat) : Int) := by
 unfold dig; rw [ofNat_val (by split <;> omega)]
theorem dig_back {d : Nat} : UInt8.ofNat (((dig d).toNat : Nat) : Int).toNat = dig d := by simp
theorem formatBits16 (n : Nat) (hn : n < 2 ^ 64) (w : World) (ht : TabBru w) :
   Ret Tryz.prog F.internal_strconv_formatBits #[.slice none 0 0, .int .u64 n, .int .i64 16, .bool false, .bool false] w (fun v w' => v = .tuple #[.slice none 0 0, .string (S (numB 16 n))] ∧ Ext w w') := by
 have hn : n < 18446744073709551616 := hn
 refine W.internal_strconv_formatBits_ok ⟨none, 0, 0⟩ n 16 false false w _ ?_
 (delta W.internal_strconv_formatBits Nx Br c9 c1 wI st nA T16; dsimp only)
 refine Jn0 (fun w1 => w = w1) (fun q hq => ⟨fun h => by simp at h, fun _ => hq _ rfl⟩) ?_
 rintro _ rfl
 have hx1 : Ext w (w.alloc (.cells (bufV 65 (fun _ => 0)) Ty.n65_uint8)) := Chg.alloc (.refl _ _) _
 have hB1 : Buf (w.alloc (.cells (bufV 65 (fun _ => 0)) Ty.n65_uint8)) w.heap.size Ty.n65_uint8 65 (fun _ => 0) := ⟨Blk.new _ _ _⟩
 refine Jn1 (fun x w1 => x = (n : Int) ∧ w1 = w.alloc (.cells (bufV 65 (fun _ => 0)) Ty.n65_uint8)) (fun q hq => ⟨fun h => by simp at h, fun _ => hq _ _ ⟨rfl, rfl⟩⟩) ?_
 rintro _ _ ⟨rfl, rfl⟩
 refine Jn1 (fun i w1 => ∃ k : Nat, i = k ∧ k ≤ 65 ∧ Ext w w1 ∧ ∃ f, Buf w1 w.heap.size Ty.n65_uint8 65 f ∧ numB 16 n = tl f k 65) (fun q hq => ?_) ?_
 · refine Calls.mono (W.internal_strconv_isPowerOfTwo_ok 16 _ (fun v w' => v = .bool true ∧ w.alloc (.cells (bufV 65 (fun _ => 0)) Ty.n65_uint8) = w') ⟨congrArg Value.bool (by decide +kernel), rfl⟩) ?_
   rintro _ _ ⟨_, rfl, rfl, rfl⟩
   refine ⟨_, rfl, fun _ => ?_, fun h => by simp at h⟩
   refine (TrailingZeros16 _ (ht.ext hx1)).use ?_
   rintro _ _ ⟨rfl, rfl⟩
   refine ⟨_, rfl, ?_⟩
   rw [show IntKind.u64.wrap 16 = 16 from rfl, show IntKind.u64.wrap (16 - 1) = 15 from rfl, show IntKind.u64.wrap 4 = 4 from rfl]
   refine ⟨fun u i w1 => ∃ uu k : Nat, u = uu ∧ i = k ∧ k ≤ 65 ∧ (k = 65 ∧ uu = n ∨ 1 ≤ uu ∧ uu * 16 ^ (65 - k) ≤ n) ∧ Ext w w1 ∧ ∃ f, Buf w1 w.heap.size Ty.n65_uint8 65 f ∧ numB 16 n = numB 16 uu ++ tl f k 65,
     fun u _ _ => u.toNat, ⟨n, 65, rfl, rfl, by omega, .inl ⟨rfl, rfl⟩, hx1, _, hB1, by rw [tl_end, List.append_nil]⟩, ?_⟩
   rintro _ _ w1 ⟨uu, k, rfl, rfl, hk, hb, hx, f, hB, hN⟩
   have huu : uu ≤ n := by
     rcases hb with ⟨_, rfl⟩ | ⟨_, hb⟩
     · exact Nat.le_refl _
     · exact Nat.le_trans (Nat.le_mul_of_pos_right _ (Nat.pow_pos (by omega))) hb
   have hk49 : 49 ≤ k := by
     rcases hb with ⟨h, _⟩ | ⟨h1, hb⟩
     · omega
     · rcases Nat.lt_or_ge k 49 with hlt | hge
       · exfalso
         have h2 : 16 ^ 17 ≤ 16 ^ (65 - k) := Nat.pow_le_pow_right (by omega) (by omega)
         have h3 : 16 ^ (65 - k) ≤ uu * 16 ^ (65 - k) := Nat.le_mul_of_pos_left _ (by omega)
         have h4 : (16 : Nat) ^ 17 = 295147905179352825856 := by decide
         omega
       · exact hge
   have e1 : Addr.add ⟨w.heap.size, 0, none⟩ (Int.toNat ((k - 1 : Nat) : Int) * 1) = ⟨w.heap.size, k - 1, none⟩ := by rw [add_mk]; simp
   rw [wrapi (n := (k : Int) - 1) (by omega) (by omega), show (k : Int) - 1 = ((k - 1 : Nat) : Int) by omega, e1]
   have hcell := hB.cell (i := k - 1) rfl (by omega)
   have hfr := hB.frozen (i := k - 1) rfl
   have hsz : w.heap.size ≤ (Addr.mk w.heap.size (k - 1) none).block := Nat.le_refl _
   refine ⟨fun h => ?_, fun h => ?_⟩
   · have h16 : 16 ≤ uu := by have := of_decide_eq_true h; omega
     rw [show (15 : Int) = ((15 : Nat) : Int) from rfl, bAnd64 (show uu < 2 ^ 64 from by show uu < 18446744073709551616; omega) (by decide), show uu &&& 15 = uu % 16 from Nat.and_two_pow_sub_one_eq_mod uu 4]
     refine ⟨by omega, _, tabDigits_at (uu % 16) (by omega), ⟨by omega, by omega⟩, ⟨_, hcell⟩, hfr, by decide, ?_⟩
     have e2 : Int.fdiv (uu : Int) (2 ^ (min (Int.toNat 4) 64)) = ((uu / 16 : Nat) : Int) := by
       show Int.fdiv (uu : Int) 16 = _
       rw [Int.fdiv_eq_ediv_of_nonneg _ (by decide)]; rfl
     rw [e2]
     refine ⟨⟨uu / 16, k - 1, rfl, rfl, by omega, .inr ⟨by omega, ?_⟩, hx.set hsz _, _, hB.set rfl _, ?_⟩, ?_⟩
     · rw [show 65 - (k - 1) = (65 - k) + 1 by omega, Nat.pow_succ, Nat.mul_comm (16 ^ (65 - k)), ← Nat.mul_assoc]
       have h1 : uu / 16 * 16 ≤ uu := Nat.div_mul_le_self _ _
       have h2 : uu / 16 * 16 * 16 ^ (65 - k) ≤ uu * 16 ^ (65 - k) := Nat.mul_le_mul_right _ h1
       rcases hb with ⟨rfl, rfl⟩ | ⟨_, hb⟩
       · simpa using h1
       · omega
     · rw [tl_put (by omega) hk, dig_back, hN, numB_ge (by omega) h16]
       simp
     · show ((uu / 16 : Nat) : Int).toNat < (uu : Int).toNat
       omega
   · have h16 : uu < 16 := by have := of_decide_eq_false h; omega
     refine ⟨by omega, _, tabDigits_at uu (by omega), ⟨by omega, by omega⟩, ⟨_, hcell⟩, hfr, hq _ _ ⟨k - 1, rfl, by omega, hx.set hsz _, _, hB.set rfl _, ?_⟩⟩
     rw [tl_put (by omega) hk, dig_back, hN, numB_lt h16]
     rfl
 rintro _ w1 ⟨k, rfl, hk, hx, f, hB, hN⟩
 refine Jn1 (fun i w2 => i = (k : Int) ∧ w1 = w2) (fun q hq => ⟨fun h => by simp at h, fun _ => hq _ _ ⟨rfl, rfl⟩⟩) ?_
 rintro _ _ ⟨rfl, rfl⟩
 refine ⟨fun h => by simp at h, fun _ => ⟨⟨by omega, by omega⟩, _, w1, conv_byteS (ns := (List.range (65 - k)).map fun i => f (k + i)) (s := ⟨cutA (some ⟨w.heap.size, 0, none⟩) 1 (Int.toNat (k : Int)) 65, 65 - Int.toNat (k : Int), 65 - Int.toNat (k : Int)⟩) (by kernel_rfl) (by kernel_rfl) ?_, ?_, hx⟩⟩
 · have hk65 : k ≠ 65 := by
     rintro rfl
     rw [tl_end] at hN
     exact numB_ne _ _ hN
   rw [show Int.toNat (k : Int) = k from rfl, cut_some (by omega), List.map_map]
   have := hB.src (o := 0 + k * 1) (n := 65 - k) (c := 65 - k) (by omega)
   rw [Nat.mul_one, Nat.zero_add] at this
   rw [Nat.mul_one, Nat.zero_add]
   exact this
 · rw [hN, List.map_map]
   rfl
theorem FormatUint16 (n : Nat) (hn : n < 2 ^ 64) (w : World) (ht : TabBru w) : Ret Tryz.prog F.strconv_FormatUint #[.int .u64 n, .int .i64 16] w (fun v w' => v = .string (S (numB 16 n)) ∧ Ext w w') := by
 refine W.strconv_FormatUint_ok n 16 w _ ?_
 (delta W.strconv_FormatUint c4; dsimp only)
 refine Calls.mono (W.internal_strconv_FormatUint_ok n 16 w (fun v w' => v = .string (S (numB 16 n)) ∧ Ext w w') ?_) ?_
 · (delta W.internal_strconv_FormatUint Br c4 wI z3 c1 c2 nA c6; dsimp only)
   refine ⟨fun h => by simp at h, fun _ => (formatBits16 n hn w ht).use ?_⟩
   rintro _ w1 ⟨rfl, hx⟩
   exact ⟨⟨none, 0, 0⟩, _, rfl, rfl, hx⟩
 · rintro _ w1 ⟨_, rfl, rfl, hx⟩
   exact ⟨_, rfl, rfl, hx⟩
end Go.Proofs.YtgljoledlhmhnaaGreatDoor
namespace Go.Proofs.YtgljoledlhmhnaaGreatDoor
open Go Gx
theorem rdCells_of {w : World} {A : Addr} : ∀ (vs : List Value) (i : Nat), (∀ j v, vs[j]? = some v → w.cell? (A.add (i + j)) = some v) → rdCells w A i vs.length = some vs
 | [], _, _ => rfl
 | v :: vs, i, h => by
   have h0 := h 0 v rfl
   have ih := rdCells_of vs (i + 1) (fun j u hj => by rw [show i + 1 + j = i + (j + 1) by omega]; exact h (j + 1) u (by simpa using hj))
   rw [Nat.add_zero] at h0
   simp [rdCells, h0, ih]
def u8s (l : List UInt8) : List Value := l.map fun b => Value.int .u8 ((b.toNat : Nat) : Int)
theorem u8s_length (l : List UInt8) : (u8s l).length = l.length := by simp [u8s]
theorem u8s_get {l : List UInt8} {i : Nat} (h : i < l.length) : (u8s l)[i]? = some (.int .u8 ((l[i].toNat : Nat) : Int)) := by simp [u8s, h]
theorem conv_strB {src dst : TypeId} {w : World} (l : List UInt8) (hs : Tryz.prog.underlying src = some .string) (hd : Tryz.prog.underlying dst = some (.slice Ty.uint8)) :
   ∃ (s : Sl) (w' : World), Sem.run Tryz.prog (convert src dst (.string (S l))) w = .ok (.slice s.a s.len s.cap) w' ∧ s.len = l.length ∧ Src 1 w' s (u8s l) ∧ Ext w w' := by
 have h := Go.Lib.run_convert_string_bytes (P := Tryz.prog) w src dst Ty.uint8 (S l) hs hd (by kernel_rfl)
 refine ⟨⟨some ⟨w.heap.size, 0, none⟩, (S l).size, grownCap w (S l).size 0 Ty.uint8⟩, _, h, rfl, ⟨?_, (fun h => by cases h), fun a ha => ?_⟩, ?_⟩
 · rw [u8s_length, Nat.mul_one]; rfl
 · cases ha
   have := rdCells_of (w := Lib.bytesWorld w Ty.uint8 (S l)) (A := ⟨w.heap.size, 0, none⟩) (u8s l) 0 (fun j v hj => by
     rw [add_mk]
     have hj' : j < l.length := by have := (List.getElem?_eq_some_iff.1 hj).1; rwa [u8s_length] at this
     rw [u8s_get hj'] at hj
     have := Lib.bytesWorld_cell w Ty.uint8 (S l) j hj'
     simp only [Nat.zero_add]
     rw [this, ← hj]
     simp [S, List.getD, hj'])
   rw [u8s_length] at this
   rw [Nat.mul_one]
   exact this
 · refine ⟨?_, ?_, ?_, ?_, fun k hk _ => Lib.bytesWorld_at_old w _ _ k hk⟩
   · simp [Lib.bytesWorld, World.freeze, World.alloc, World.drew, -World.alloc_eq, -World.drew_eq]
   · simp [Lib.bytesWorld, World.freeze, World.alloc, World.drew, -World.alloc_eq, -World.drew_eq]
   · simp [Lib.bytesWorld, World.freeze, World.alloc, World.drew, -World.alloc_eq, -World.drew_eq]
   · rw [Lib.bytesWorld_size]; omega
def dv (c : Nat) : Option Nat := if 48 ≤ c ∧ c ≤ 57 then some (c - 48) else if 97 ≤ c ||| 32 ∧ c ||| 32 ≤ 122 then some ((c ||| 32) - 97 + 10) else none
def pStep (b mx n : Nat) (c : UInt8) : Option Nat := match dv c.toNat with
 | some d => if d < b ∧ n * b + d ≤ mx then some (n * b + d) else none
 | none => none
def parseFrom (b mx : Nat) : Nat → List UInt8 → Option Nat
 | n, [] => some n
 | n, c :: cs => match pStep b mx n c with
   | some m => parseFrom b mx m cs
   | none => none
def parseB (b mx : Nat) (l : List UInt8) : Option Nat := if l = [] then none else parseFrom b mx 0 l
theorem parseFrom_append (b mx : Nat) : ∀ (l m : List UInt8) (n : Nat), parseFrom b mx n (l ++ m) = (parseFrom b mx n l).bind (fun k => parseFrom b mx k m)
 | [], _, _ => rfl
 | c :: l, m, n => by
   simp only [List.cons_append, parseFrom]
   cases pStep b mx n c with
   | none => rfl
   | some k => exact parseFrom_append b mx l m k
theorem dv_dig : ∀ d : Nat, d < 36 → dv (dig d).toNat = some d := by decide +kernel
theorem dv_lt : ∀ c : Nat, c < 256 → ∀ d, dv c = some d → d < 36 := by
 intro c hc d h
 unfold dv at h
 split at h
 · cases h; omega
 · split at h
   · cases h; omega
   · cases h
theorem parse_num (b mx : Nat) (hb : 2 ≤ b) (hb2 : b ≤ 36) (n : Nat) (hn : n ≤ mx) : parseFrom b mx 0 (numB b n) = some n := by
 induction n using Nat.strongRecOn with
 | ind n ih =>
   by_cases h : n < b
   · rw [numB_lt h]
     simp [parseFrom, pStep, dv_dig n (by omega), h, hn]
   · rw [numB_ge hb (by omega), parseFrom_append, ih (n / b) (Nat.div_lt_self (by omega) (by omega)) (Nat.le_trans (Nat.div_le_self _ _) hn)]
     have hm : n % b < b := Nat.mod_lt _ (by omega)
     have he : n / b * b + n % b = n := by rw [Nat.mul_comm]; exact Nat.div_add_mod n b
     simp [parseFrom, pStep, dv_dig (n % b) (by omega), hm, he, hn]
theorem parseB_num (b mx : Nat) (hb : 2 ≤ b) (hb2 : b ≤ 36) (n : Nat) (hn : n ≤ mx) : parseB b mx (numB b n) = some n := by
 unfold parseB
 rw [if_neg (numB_ne b n)]
 exact parse_num b mx hb hb2 n hn
theorem parseFrom_le {b mx : Nat} : ∀ {l : List UInt8} {n k : Nat}, n ≤ mx → parseFrom b mx n l = some k → k ≤ mx
 | [], n, k, h, e => by cases e; exact h
 | c :: l, n, k, h, e => by
   simp only [parseFrom] at e
   cases hp : pStep b mx n c with
   | none => rw [hp] at e; cases e
   | some m =>
     rw [hp] at e
     refine parseFrom_le ?_ e
     unfold pStep at hp
     split at hp
     · split at hp
       · rename_i h2; cases hp; exact h2.2
       · cases hp
     · cases hp
theorem parseB_le {b mx : Nat} {l : List UInt8} {k : Nat} (e : parseB b mx l = some k) : k ≤ mx := by
 unfold parseB at e
 split at e
 · cases e
 · exact parseFrom_le (Nat.zero_le _) e
theorem lower (c : Nat) (hc : c < 256) (w : World) : Ret Tryz.prog F.internal_strconv_lower #[.int .u8 c] w (fun v w' => v = .int .u8 ((c ||| 32 : Nat) : Int) ∧ w = w') := by
 refine W.internal_strconv_lower_ok c w _ ?_
 unfold W.internal_strconv_lower
 exact ⟨by rw [show (32 : Int) = ((32 : Nat) : Int) from rfl, bOr8 hc (by decide)], rfl⟩
def PU (r : Option Nat) (v : Value) : Prop := match r with
 | some n => v = .tuple #[.int .u64 n, .nilIface]
 | none => ∃ m c : Int, v = .tuple #[.int .u64 m, .iface Ty.strconv_Error (.int .i64 c)] ∧ (c = 1 ∨ c = 2)
theorem ParseUint_in (l : List UInt8) (b k : Nat) (hl : l.length ≤ 1000000000000) (hb : b = 10 ∨ b = 16) (z : Nat) (hz : z = k ∨ z = 0 ∧ k = 64) (hk : 1 ≤ k ∧ k ≤ 64) (w : World) :
   Ret Tryz.prog F.internal_strconv_ParseUint #[.string (S l), .int .i64 b, .int .i64 z] w (fun v w' => PU (parseB b (2 ^ k - 1) l) v ∧ Ext w w') := by
 refine W.internal_strconv_ParseUint_ok (S l) b z w _ ?_
 (delta W.internal_strconv_ParseUint Br c10 bd r4 wI c9; dsimp only)
 rw [S_toList, show ByteArray.toList (ByteArray.mk #[]) = [] from ByteArray.toList_mk []]
 unfold parseB
 refine ⟨fun h => ?_, fun h => ?_⟩
 · have h : l = [] := by simpa using h
   rw [if_pos h]
   exact ⟨⟨0, 2, rfl, .inr rfl⟩, .refl _ _⟩
 have h : l ≠ [] := by simpa using h
 rw [if_neg h]
 have hmx : 1 ≤ 2 ^ k := Nat.one_le_two_pow
 have hmx2 : 2 ^ k ≤ 2 ^ 64 := Nat.pow_le_pow_right (by omega) hk.2
 have hmx2 : 2 ^ k ≤ 18446744073709551616 := hmx2
 refine Jn2 (fun s n w1 => s = S l ∧ n = (b : Int) ∧ w = w1) (fun q hq => ⟨fun _ => hq _ _ _ ⟨rfl, rfl, rfl⟩, fun h => by rcases hb with rfl | rfl <;> simp at h⟩) ?_
 rintro _ _ _ ⟨rfl, rfl, rfl⟩
 refine Jn1 (fun n w1 => n = (k : Int) ∧ w = w1) (fun q hq => ⟨fun h => hq _ _ ⟨(by have h := eq_of_beq h; omega), rfl⟩, fun h0 => ⟨fun h => ?_, fun _ => hq _ _ ⟨(by have h0 := ne_of_beq_false h0; omega), rfl⟩⟩⟩) ?_
 · simp only [Bool.or_eq_true, decide_eq_true_eq] at h; omega
 rintro _ _ ⟨rfl, rfl⟩
 refine Jn1 (fun n w1 => (∃ cut : Nat, n = cut ∧ cut * b ≥ 18446744073709551616 ∧ ∀ x, x < cut → x * b < 18446744073709551616) ∧ w = w1) (fun q hq => ⟨fun h => ?_, fun h => ⟨fun h2 => ?_, fun h2 => ?_⟩⟩) ?_
 · obtain rfl : b = 10 := by have h := eq_of_beq h; omega
   exact hq _ _ ⟨⟨1844674407370955162, rfl, by decide, fun x hx => by omega⟩, rfl⟩
 · obtain rfl : b = 16 := by have h := eq_of_beq h2; omega
   exact hq _ _ ⟨⟨1152921504606846976, rfl, by decide, fun x hx => by omega⟩, rfl⟩
 · rcases hb with rfl | rfl
   · simp at h
   · simp at h2
 rintro _ _ ⟨⟨cut, rfl, hc1, hc2⟩, rfl⟩
 rw [wr64 (n := (k : Int)) (by omega) (by omega)]
 have emx : IntKind.wrap .u64 ((IntKind.wrap .u64 (1 * 2 ^ (min (Int.toNat (k : Int)) 64))) - 1) = ((2 ^ k - 1 : Nat) : Int) := by
   rw [show min (Int.toNat (k : Int)) 64 = k by simp; omega]
   have e1 : (1 * 2 ^ k : Int) = ((2 ^ k : Nat) : Int) := by simp
   rw [e1]
   rcases Nat.lt_or_ge (2 ^ k) 18446744073709551616 with hlt | hge
   · rw [wr64 (n := ((2 ^ k : Nat) : Int)) (by omega) (by omega), wr64 (by omega) (by omega)]; omega
   · have : 2 ^ k = 18446744073709551616 := by omega
     rw [this]; decide
 rw [emx]
 have hb8 : IntKind.wrap .u8 (b : Int) = b := by rw [wr8 (by omega) (by omega)]
 have hb64 : IntKind.wrap .u64 (b : Int) = b := by rw [wr64 (by omega) (by omega)]
 rw [hb8, hb64]
 obtain ⟨s, w2, hrun, hsl, hsrc, hx⟩ := conv_strB (src := Ty.string) (dst := Ty.Sl_uint8) (w := w) l (by kernel_rfl) (by kernel_rfl)
 refine ⟨by omega, s, w2, hrun, fun u n i w' => w2 = w' ∧ u = false ∧ ∃ m j : Nat, n = m ∧ i = j ∧ j ≤ l.length ∧ m ≤ 2 ^ k - 1 ∧ parseFrom b (2 ^ k - 1) 0 l = parseFrom b (2 ^ k - 1) m (l.drop j),
   fun _ _ i _ => (l.length - i).toNat, ⟨rfl, rfl, 0, 0, rfl, rfl, by omega, by omega, rfl⟩, ?_⟩
 rintro _ _ _ _ ⟨rfl, rfl, m, j, rfl, rfl, hj, hm, hP⟩
 refine ⟨fun hlt => ?_, fun hge => ?_⟩
 · have hlt : j < l.length := by have := of_decide_eq_true hlt; omega
   obtain ⟨A, hA, hb1, hcell⟩ := hsrc.at (u8s_get hlt)
   have hdrop : l.drop j = l[j] :: l.drop (j + 1) := List.drop_eq_getElem_cons hlt
   rw [hdrop] at hP
   have hc256 : (l[j]).toNat < 256 := UInt8.toNat_lt _
   generalize hc : (l[j]).toNat = c at *
   refine Jn2 (fun u n w' => u = false ∧ w2 = w' ∧ ∃ m' : Nat, n = m' ∧ pStep b (2 ^ k - 1) m l[j] = some m') (fun q hq => ⟨A, hA, hb1, _, hcell, ?_⟩) ?_
   · have hfail : pStep b (2 ^ k - 1) m l[j] = none → ∀ z c : Int, (c = 1 ∨ c = 2) → PU (parseFrom b (2 ^ k - 1) 0 l) (.tuple #[.int .u64 z, .iface Ty.strconv_Error (.int .i64 c)]) ∧ Ext w w2 := by
       intro hn z c' hc'
       have : parseFrom b (2 ^ k - 1) 0 l = none := by rw [hP]; simp [parseFrom, hn]
       rw [this]
       exact ⟨⟨z, c', rfl, hc'⟩, hx⟩
     refine Jn2 (fun u n w' => u = false ∧ w2 = w' ∧ ∃ d : Nat, n = d ∧ dv c = some d) (fun q2 hq2 => ⟨fun h => ?_, fun _ => ⟨fun h => ?_, fun h => ?_⟩⟩) ?_
     · simp only [Bool.and_eq_true, beq_iff_eq] at h; omega
     · have h : 48 ≤ c ∧ c ≤ 57 := by simp only [Bool.and_eq_true, decide_eq_true_eq] at h; omega
       exact hq2 _ _ _ ⟨rfl, rfl, c - 48, by rw [wr8 (by omega) (by omega)]; omega, by simp [dv, h]⟩
     · have h : ¬ (48 ≤ c ∧ c ≤ 57) := by
         intro h'
         simp only [Bool.and_eq_false_iff, decide_eq_false_iff_not] at h
         omega
       have hL : c ||| 32 < 256 := Nat.or_lt_two_pow (n := 8) hc256 (by decide)
       refine (lower c hc256 w2).use ?_
       rintro _ _ ⟨rfl, rfl⟩
       refine ⟨_, rfl, Jn1 (fun u w' => w2 = w' ∧ u = decide (97 ≤ c ||| 32 ∧ c ||| 32 ≤ 122)) (fun q3 hq3 => ⟨fun h1 => (lower c hc256 w2).use ?_, fun h1 => hq3 _ _ ⟨rfl, ?_⟩⟩) ?_⟩
       · rintro _ _ ⟨rfl, rfl⟩
         have h1 := of_decide_eq_true h1
         refine ⟨_, rfl, hq3 _ _ ⟨rfl, ?_⟩⟩
         rw [decide_eq_decide]
         omega
       · have h1 := of_decide_eq_false h1
         symm
         rw [decide_eq_false_iff_not]
         omega
       rintro _ _ ⟨rfl, rfl⟩
       refine ⟨fun h2 => ?_, fun h2 => ?_⟩
       · have h2 := of_decide_eq_true h2
         refine (lower c hc256 w2).use ?_
         rintro _ _ ⟨rfl, rfl⟩
         exact ⟨_, rfl, hq2 _ _ _ ⟨rfl, rfl, (c ||| 32) - 97 + 10, by rw [wr8 (n := ((c ||| 32 : Nat) : Int) - 97) (by omega) (by omega), wr8 (by omega) (by omega)]; omega, by simp [dv, h, h2]⟩⟩
       · have h2 := of_decide_eq_false h2
         exact hfail (by simp [pStep, hc, dv, h, h2]) _ _ (.inr rfl)
     rintro _ _ _ ⟨rfl, rfl, d, rfl, hd⟩
     have hd36 := dv_lt c hc256 d hd
     refine ⟨fun h => ?_, fun h => ⟨fun h2 => ?_, fun h2 => ?_⟩⟩
     · have h := of_decide_eq_true h
       exact hfail (by simp [pStep, hc, hd, show ¬ d < b by omega]) _ _ (.inr rfl)
     · have h := of_decide_eq_false h
       have h2 := of_decide_eq_true h2
       refine hfail ?_ _ _ (.inl rfl)
       have h3 : cut * b ≤ m * b := Nat.mul_le_mul_right _ (by omega)
       simp [pStep, hc, hd, show ¬ m * b + d ≤ 2 ^ k - 1 by omega]
     · have h := of_decide_eq_false h
       have h2 := of_decide_eq_false h2
       have h3 := hc2 m (by omega)
       have e1 : (m : Int) * (b : Int) = ((m * b : Nat) : Int) := by simp
       rw [wr64 (n := (d : Int)) (by omega) (by omega), e1, wr64 (n := ((m * b : Nat) : Int)) (by omega) (by omega), wr64m]
       refine ⟨fun h4 => ?_, fun h4 => ?_⟩
       · refine hfail ?_ _ _ (.inl rfl)
         simp only [Bool.or_eq_true, decide_eq_true_eq] at h4
         simp [pStep, hc, hd, show ¬ m * b + d ≤ 2 ^ k - 1 by omega]
       · simp only [Bool.or_eq_false_iff, decide_eq_false_iff_not] at h4
         exact hq _ _ _ ⟨rfl, rfl, m * b + d, by omega, by simp [pStep, hc, hd, show d < b by omega, show m * b + d ≤ 2 ^ k - 1 by omega]⟩
   rintro _ _ _ ⟨rfl, rfl, m', rfl, hstep⟩
   rw [wrapi (n := (j : Int) + 1) (by omega) (by have := hsl; have := hlt; omega)]
   refine ⟨⟨rfl, rfl, m', j + 1, rfl, by omega, by omega, ?_, by rw [hP]; simp [parseFrom, hstep]⟩, ?_⟩
   · unfold pStep at hstep
     split at hstep
     · split at hstep
       · rename_i h2; cases hstep; exact h2.2
       · cases hstep
     · cases hstep
   · show ((l.length : Int) - ((j : Int) + 1)).toNat < ((l.length : Int) - (j : Int)).toNat
     omega
 · have hge : j = l.length := by have := of_decide_eq_false hge; omega
   subst hge
   refine Jn1 (fun u w' => u = false ∧ w2 = w') (fun q hq => ⟨fun h => by simp at h, fun _ => hq _ _ ⟨rfl, rfl⟩⟩) ?_
   rintro _ _ ⟨rfl, rfl⟩
   refine ⟨fun h => by simp at h, fun _ => ⟨?_, hx⟩⟩
   rw [hP, List.drop_length]
   rfl
end Go.Proofs.YtgljoledlhmhnaaGreatDoor
namespace Go.Proofs.YtgljoledlhmhnaaGreatDoor
open Go Gx
def idxB (c : UInt8) : List UInt8 → Option Nat
 | [] => none
 | b :: l => if b = c then some 0 else (idxB c l).map (· + 1)
theorem indexByte_idxB (c : UInt8) : ∀ l : List UInt8, Lib.indexByte l c = (match idxB c l with | some i => ((i : Nat) : Int) | none => -1)
 | [] => rfl
 | b :: l => by
   simp only [Lib.indexByte, idxB]
   by_cases h : b = c
   · subst h; simp
   · rw [if_neg h, if_neg (by simpa using h), indexByte_idxB c l]
     cases idxB c l with
     | none => rfl
     | some i =>
       simp only [Option.map_some]
       rw [if_neg (by simp)]
       simp
theorem idxB_lt {c : UInt8} : ∀ {l : List UInt8} {i : Nat}, idxB c l = some i → i < l.length
 | [], _, h => by cases h
 | b :: l, i, h => by
   simp only [idxB] at h
   split at h
   · cases h; simp
   · cases hl : idxB c l with
     | none => rw [hl] at h; cases h
     | some j =>
       rw [hl] at h; cases h
       have := idxB_lt hl
       simp; omega
theorem idxB_none {c : UInt8} : ∀ {l : List UInt8}, idxB c l = none ↔ c ∉ l
 | [] => by simp [idxB]
 | b :: l => by
   simp only [idxB, List.mem_cons, not_or]
   by_cases h : b = c
   · subst h; simp
   · rw [if_neg h]
     simp [idxB_none (l := l), show ¬ c = b from fun e => h e.symm]
def splitB (c : UInt8) : List UInt8 → List (List UInt8)
 | [] => [[]]
 | b :: l => if b = c then [] :: splitB c l else match splitB c l with
   | p :: ps => (b :: p) :: ps
   | [] => [[b]]
theorem splitB_some {c : UInt8} : ∀ {l : List UInt8} {i : Nat}, idxB c l = some i → splitB c l = l.take i :: splitB c (l.drop (i + 1))
 | [], _, h => by cases h
 | b :: l, i, h => by
   simp only [idxB] at h
   split at h
   · rename_i hb; cases h; simp [splitB, hb]
   · rename_i hb
     cases hl : idxB c l with
     | none => rw [hl] at h; cases h
     | some j =>
       rw [hl] at h; cases h
       simp [splitB, hb, splitB_some hl]
theorem splitB_none {c : UInt8} : ∀ {l : List UInt8}, idxB c l = none → splitB c l = [l]
 | [], _ => rfl
 | b :: l, h => by
   simp only [idxB] at h
   split at h
   · cases h
   · rename_i hb
     have hl : idxB c l = none := by cases hl : idxB c l with
       | none => rfl
       | some j => rw [hl] at h; cases h
     simp [splitB, hb, splitB_none hl]
theorem splitB_length (c : UInt8) : ∀ l : List UInt8, (splitB c l).length = l.count c + 1
 | [] => rfl
 | b :: l => by
   have ih := splitB_length c l
   simp only [splitB, List.count_cons]
   by_cases h : b = c
   · subst h; simp [ih]
   · rw [if_neg h]
     cases hs : splitB c l with
     | nil => rw [hs] at ih; simp at ih
     | cons p ps => rw [hs] at ih; simp [h] at ih ⊢; exact ih
theorem byteNat (c : UInt8) : (((c.toNat : Nat) : Int).toNat.toUInt8) = c := by simp
theorem IndexByteString (l : List UInt8) (c : UInt8) (w : World) :
   Sem.run Tryz.prog (callFunc F.internal_bytealg_IndexByteString #[.string (S l), .int .u8 ((c.toNat : Nat) : Int)]) w = .ok (.value (.int .i64 (Lib.indexByte l c))) w := by
 rw [run_callFunc_extern Tryz.func145 rfl rfl rfl rfl, Lib.run_indexByteString, byteNat]
 rfl
theorem CountString (l : List UInt8) (c : UInt8) (w : World) :
   Sem.run Tryz.prog (callFunc F.internal_bytealg_CountString #[.string (S l), .int .u8 ((c.toNat : Nat) : Int)]) w = .ok (.value (.int .i64 ((l.count c : Nat) : Int))) w := by
 rw [run_callFunc_extern Tryz.func62 rfl rfl rfl rfl, Lib.run_countString, byteNat]
 rfl
theorem IndexLite (l : List UInt8) (c : UInt8) (w : World) : Ret Tryz.prog F.internal_stringslite_Index #[.string (S l), .string (S [c])] w (fun v w' => v = .int .i64 (Lib.indexByte l c) ∧ w = w') := by
 refine W.internal_stringslite_Index_ok (S l) (S [c]) w _ ?_
 (delta W.internal_stringslite_Index Br c1 r3 wI; dsimp only)
 refine ⟨fun h => ?_, fun _ => ⟨fun _ => ?_, fun h => by have h : true = false := h; cases h⟩⟩
 · rw [S_toList, S_toList] at h
   have h : [c] = l := by
     have : (((ByteArray.size (S [c]) : Nat) : Int) == 0) = false := rfl
     rw [this, Bool.false_or] at h
     exact eq_of_beq h
   subst h
   exact ⟨by simp [Lib.indexByte], rfl⟩
 · refine ⟨by decide, c, rfl, ?_⟩
   refine Calls.mono (W.internal_stringslite_IndexByte_ok (S l) _ w (fun v w' => v = .int .i64 (Lib.indexByte l c) ∧ w = w') ?_) ?_
   · unfold W.internal_stringslite_IndexByte
     exact ⟨_, w, IndexByteString l c w, rfl, rfl⟩
   · rintro _ _ ⟨_, rfl, rfl, rfl⟩
     exact ⟨_, rfl, rfl, rfl⟩
theorem Index1 (l : List UInt8) (c : UInt8) (w : World) : Ret Tryz.prog F.strings_Index #[.string (S l), .string (S [c])] w (fun v w' => v = .int .i64 (Lib.indexByte l c) ∧ w = w') := by
 refine W.strings_Index_ok (S l) (S [c]) w _ ?_
 (delta W.strings_Index c1; dsimp only)
 refine (IndexLite l c w).use ?_
 rintro _ _ ⟨rfl, rfl⟩
 exact ⟨_, rfl, rfl, rfl⟩
theorem Contains1 (l : List UInt8) (c : UInt8) (w : World) : Ret Tryz.prog F.strings_Contains #[.string (S l), .string (S [c])] w (fun v w' => v = .bool (decide (c ∈ l)) ∧ w = w') := by
 refine W.strings_Contains_ok (S l) (S [c]) w _ ?_
 (delta W.strings_Contains c1; dsimp only)
 refine (Index1 l c w).use ?_
 rintro _ _ ⟨rfl, rfl⟩
 refine ⟨_, rfl, ?_, rfl⟩
 rw [indexByte_idxB]
 cases h : idxB c l with
 | none => have := idxB_none.1 h; simp [this]
 | some i =>
   have : c ∈ l := by
     rcases Classical.em (c ∈ l) with h2 | h2
     · exact h2
     · have := idxB_none.2 h2; rw [h] at this; cases this
   simp [this]
def strs (ls : List (List UInt8)) : List Value := ls.map fun p => Value.string (S p)
theorem strs_length (ls : List (List UInt8)) : (strs ls).length = ls.length := by simp [strs]
theorem strs_append (a b : List (List UInt8)) : strs (a ++ b) = strs a ++ strs b := by simp [strs]
theorem zrow_string (n : Nat) : zrow Tryz.prog Ty.string n = (List.replicate n (.string (S []))).toArray := zrow_of (by kernel_rfl) (by kernel_rfl) n
theorem Split1 (l : List UInt8) (c : UInt8) (hl : l.length ≤ 1000000000000) (w : World) : Ret Tryz.prog F.strings_Split #[.string (S l), .string (S [c])] w
   (fun v w' => ∃ s : Sl, v = .slice s.a s.len s.cap ∧ s.len = (splitB c l).length ∧ Src 1 w' s (strs (splitB c l)) ∧ Ext w w') := by
 refine W.strings_Split_ok (S l) (S [c]) w _ ?_
 (delta W.strings_Split c5; dsimp only)
 refine Calls.mono (W.strings_genSplit_ok (S l) (S [c]) 0 (-1) w (fun v w' => ∃ s : Sl, v = .slice s.a s.len s.cap ∧ s.len = (splitB c l).length ∧ Src 1 w' s (strs (splitB c l)) ∧ Ext w w') ?_) ?_
 · (delta W.strings_genSplit Nx Br c5 c1 wI mI nA st T20; dsimp only)
   have hcnt : l.count c ≤ l.length := List.count_le_length
   have hlen := splitB_length c l
   refine ⟨fun h => by simp at h, fun _ => ⟨fun h => ?_, fun _ => ?_⟩⟩
   · exact absurd h (by rw [S_toList, show ByteArray.toList (ByteArray.mk #[]) = [] from ByteArray.toList_mk []]; simp)
   refine Jn1 (fun n w1 => n = ((l.count c + 1 : Nat) : Int) ∧ w = w1) (fun q hq => ⟨fun _ => ?_, fun h => by simp at h⟩) ?_
   · refine Calls.mono (W.strings_Count_ok (S l) (S [c]) w (fun v w' => v = .int .i64 ((l.count c : Nat) : Int) ∧ w = w') ?_) ?_
     · (delta W.strings_Count Br c1 wI T20; dsimp only)
       exact ⟨fun h => (by have h : false = true := h; cases h), fun _ => ⟨fun _ => ⟨by decide, c, rfl, _, w, CountString l c w, rfl, rfl⟩, fun h => (by have h : true = false := h; cases h)⟩⟩
     · rintro _ _ ⟨_, rfl, rfl, rfl⟩
       exact ⟨_, rfl, hq _ _ ⟨by rw [wrapi (by omega) (by omega)]; omega, rfl⟩⟩
   rintro _ _ ⟨rfl, rfl⟩
   rw [S_size, wrapi (n := (l.length : Int) + 1) (by omega) (by omega)]
   refine ⟨((l.count c + 1 : Nat) : Int), w, ?_, ?_⟩
   · rw [run_min_int2, if_neg (by omega)]
   obtain ⟨n, hn⟩ : ∃ n, n = l.count c + 1 := ⟨_, rfl⟩
   rw [← hn]
   rw [← hn] at hlen
   have hx1 : Ext w (w.alloc (.cells (zrow Tryz.prog Ty.string n) Ty.string)) := Chg.alloc (.refl _ _) _
   have ho1 : OwnS 1 Ty.string (w.alloc (.cells (zrow Tryz.prog Ty.string n) Ty.string)) ⟨some ⟨w.heap.size, 0, none⟩, n, n⟩ (List.replicate n (.string (S []))) := by
     rw [zrow_string]
     exact OwnS.new w _ n (by simp) (by show n ≤ 2 ^ 63 - 1; omega)
   rw [wrapi (n := (n : Int) - 1) (by omega) (by omega)]
   refine ⟨⟨by omega, by omega, by omega, by omega⟩, ?_⟩
   rw [show Int.toNat (n : Int) = n from rfl]
   refine Jn2 (fun s i w' => ∃ (r : List UInt8) (done : List (List UInt8)), s = S r ∧ i = done.length ∧ splitB c l = done ++ [r] ∧ done.length + 1 = n ∧ Ext w w' ∧ OwnS 1 Ty.string w' ⟨some ⟨w.heap.size, 0, none⟩, n, n⟩ (strs done ++ List.replicate 1 (.string (S [])))) (fun q hq => ?_) ?_
   · refine ⟨fun s i w' => ∃ (r : List UInt8) (done : List (List UInt8)), s = S r ∧ i = done.length ∧ r.length ≤ l.length ∧ splitB c l = done ++ splitB c r ∧ done.length + 1 ≤ n ∧ Ext w w' ∧ OwnS 1 Ty.string w' ⟨some ⟨w.heap.size, 0, none⟩, n, n⟩ (strs done ++ List.replicate (n - done.length) (.string (S []))),
       fun _ i _ => (n - i).toNat, ⟨l, [], rfl, rfl, Nat.le_refl _, rfl, by simp; omega, hx1, by simpa [strs] using ho1⟩, ?_⟩
     rintro _ _ w1 ⟨r, done, rfl, rfl, hrl, hsp, hd, hx, hown⟩
     have hlen2 : done.length + (r.count c + 1) = n := by
       have := congrArg List.length hsp
       rw [List.length_append, splitB_length c r, hlen] at this
       exact this.symm
     refine ⟨fun hlt => ?_, fun hge => ?_⟩
     · have hlt := of_decide_eq_true hlt
       refine (Index1 r c w1).use ?_
       rintro _ _ ⟨rfl, rfl⟩
       refine ⟨_, rfl, ?_⟩
       have hne : c ∈ r := by
         rcases Classical.em (c ∈ r) with h | h
         · exact h
         · have := List.count_eq_zero.2 h; omega
       cases hi : idxB c r with
       | none => exact absurd hne (idxB_none.1 hi)
       | some i =>
         rw [indexByte_idxB, hi]
         have hir := idxB_lt hi
         have e1 : ((ByteArray.size (S [c]) : Nat) : Int) = 1 := rfl
         simp only [e1, Int.add_zero]
         rw [wrapi (n := (i : Int)) (by omega) (by omega), wrapi (n := (i : Int) + 1) (by omega) (by omega), S_size, S_extract, S_extract, show Int.toNat ((i : Int) + 1) = i + 1 by omega, show Int.toNat (i : Int) = i from rfl]
         refine ⟨fun h => (by have := of_decide_eq_true h; omega), fun _ => ⟨⟨by omega, by omega⟩, ?_⟩⟩
         obtain ⟨A, hA, hb, hc, hf, _, hset⟩ := hown.at (i := done.length) (v := .string (S [])) (by
           rw [List.getElem?_append_right (by rw [strs_length]; exact Nat.le_refl _), strs_length]
           rw [Nat.sub_self, show n - done.length = (n - done.length - 1) + 1 by omega]
           rfl)
         obtain rfl : A = ⟨w.heap.size, 0, none⟩ := by simpa using hA.symm
         refine ⟨_, rfl, hb, ⟨_, hc⟩, hf, ⟨by omega, by omega⟩, ⟨r.drop (i + 1), done ++ [r.take i], ?_, ?_, ?_, ?_, ?_, ?_, ?_⟩, ?_⟩
         · rw [List.take_of_length_le (by simp)]
         · rw [wrapi (by omega) (by omega)]; simp
         · simp; omega
         · rw [hsp, splitB_some hi]; simp
         · simp; omega
         · exact hx.set (by rw [add_mk]; exact Nat.le_refl _) _
         · have := hset (.string (S (List.take (i - 0) (List.drop 0 r))))
           rw [Nat.sub_zero, List.drop_zero, List.set_append_right (h := by rw [strs_length]; exact Nat.le_refl _), strs_length, Nat.sub_self, show n - done.length = (n - done.length - 1) + 1 by omega, List.replicate_succ, List.set_cons_zero] at this
           rw [Nat.sub_zero, List.drop_zero, strs_append, List.length_append, List.length_singleton, show n - (done.length + 1) = n - done.length - 1 by omega, List.append_assoc]
           exact this
         · rw [wrapi (by omega) (by omega)]
           show ((n : Int) - ((done.length : Int) + 1)).toNat < ((n : Int) - (done.length : Int)).toNat
           omega
     · have hge := of_decide_eq_false hge
       have h0 : r.count c = 0 := by omega
       have hnone : idxB c r = none := idxB_none.2 (List.count_eq_zero.1 h0)
       rw [splitB_none hnone] at hsp
       refine hq _ _ _ ⟨r, done, rfl, rfl, hsp, by omega, hx, ?_⟩
       rwa [show n - done.length = 1 by omega] at hown
   rintro _ _ w1 ⟨r, done, rfl, rfl, hsp, hd, hx, hown⟩
   obtain ⟨A, hA, hb, hc, hf, _, hset⟩ := hown.at (i := done.length) (v := .string (S [])) (by
     rw [List.getElem?_append_right (by rw [strs_length]; exact Nat.le_refl _), strs_length]
     simp)
   obtain rfl : A = ⟨w.heap.size, 0, none⟩ := by simpa using hA.symm
   rw [wrapi (n := (done.length : Int) + 1) (by omega) (by omega)]
   have hset := hset (.string (S r))
   rw [List.set_append_right (h := by rw [strs_length]; exact Nat.le_refl _), strs_length, Nat.sub_self, List.replicate_one, List.set_cons_zero] at hset
   have hcut : cutA (some ⟨w.heap.size, 0, none⟩) 1 0 n = some ⟨w.heap.size, 0, none⟩ := by
     rw [cut_some (by omega)]
   have e2 : Int.toNat ((done.length : Int) + 1) - 0 = n := by omega
   refine ⟨_, rfl, hb, ⟨_, hc⟩, hf, ⟨by omega, by omega⟩, ⟨some ⟨w.heap.size, 0, none⟩, n, n⟩, by rw [hcut, e2, Nat.sub_zero], hlen.symm, ?_, hx.set (by rw [add_mk]; exact Nat.le_refl _) _⟩
   rw [hsp, strs_append]
   exact hset.src
 · rintro _ w1 ⟨_, rfl, s, rfl, h⟩
   exact ⟨s, rfl, s, rfl, h⟩
end Go.Proofs.YtgljoledlhmhnaaGreatDoor
namespace Go.Proofs.YtgljoledlhmhnaaGreatDoor
open Go Gx
theorem u8s_plain (l : List UInt8) : ∀ v ∈ u8s l, Plain v := by
 intro v hv
 obtain ⟨n, _, rfl⟩ := List.mem_map.1 hv
 trivial
theorem u8s_append (a b : List UInt8) : u8s (a ++ b) = u8s a ++ u8s b := by simp [u8s]
theorem run_copy_str {dT sT ty : TypeId} {w : World} {b o dl dc : Nat} (l : List UInt8) (hu : Tryz.prog.underlying dT = some (.slice Ty.uint8)) (hle : l.length ≤ dl) (hst : StoreOk w ⟨b, o, none⟩ (u8s l)) :
   Sem.run Tryz.prog (Builtin.copy_ #[dT, sT] ty #[.slice (some ⟨b, o, none⟩) dl dc, .string (S l)]) w = .ok (.int .i64 ((l.length : Nat) : Int)) (setCells w ⟨b, o, none⟩ 0 (u8s l)) := by
 have hmin : Nat.min (S l).size dl = l.length := Nat.min_eq_left hle
 have hz := run_sizeOf' (P := Tryz.prog) (w := w) (t := Ty.uint8) (d := .int .u8) (by kernel_rfl)
 have hc : Tryz.prog.cellsOf Ty.uint8 = 1 := by kernel_rfl
 rw [hc] at hz
 have hst' := run_storeCells (P := Tryz.prog) (A := ⟨b, o, none⟩) (u8s l) 0 w (by simpa using hst.1) hst.2
 simp [Builtin.copy_, run_underlying' hu, Builtin.lenOf, Builtin.firstCells, hz, hmin]
 have e2 : List.take l.length (List.map (fun b => Value.int .u8 ((b.toNat : Nat) : Int)) (S l).data.toList) = u8s l := by simp [S, u8s, List.take_of_length_le]
 rw [e2, hst']
 rfl
theorem freeze_ext {w0 w : World} (h : Ext w0 w) {A : Addr} (hA : w0.heap.size ≤ A.block) (n : Nat) : Ext w0 (w.freeze A n) := by
 unfold World.freeze
 split
 · exact h
 · refine Ext.of_new h (W := fun k => k = A.block) ⟨rfl, rfl, rfl, by simp, fun k hk hW => ?_⟩ (fun k hk => by subst hk; exact hA)
   show (w.heap.modify A.block _)[k]? = _
   rw [Array.getElem?_modify, if_neg (fun e => hW e.symm)]
theorem unsafeString_blk {w : World} {b : Nat} {c : Array Value} (l : List UInt8) (h0 : l ≠ []) (hl : l.length ≤ 1000000000000) (hB : Blk w b c Ty.uint8) (hc : c.toList.take l.length = u8s l) :
   Sem.run Tryz.prog (Builtin.unsafeString_ #[Ty.P_uint8, Ty.int] Ty.string #[.pointer (some ⟨b, 0, none⟩), .int .i64 ((l.length : Nat) : Int)]) w = .ok (.string (S l)) (w.freeze ⟨b, 0, none⟩ l.length) := by
 have hsz : l.length ≤ c.size := by
   have : min l.length c.size = l.length := by simpa [u8s_length] using congrArg List.length hc
   omega
 refine Lib.run_unsafeString_row w Ty.P_uint8 Ty.int Ty.string Ty.uint8 (by kernel_rfl) (by kernel_rfl) b c.size ?_ l h0 hsz (by omega) ?_
 · unfold World.shape?
   have := hB
   unfold Blk at this
   rw [this]
 · intro j x hx
   have hj : j < l.length := (List.getElem?_eq_some_iff.1 hx).1
   rw [add_mk, Nat.zero_add, hB.cell]
   have h1 : (u8s l)[j]? = some (.int .u8 ((x.toNat : Nat) : Int)) := by rw [u8s, List.getElem?_map, hx]; rfl
   rw [← hc, List.getElem?_take_of_lt hj] at h1
   simpa using h1
theorem Clone_str (l : List UInt8) (hl : l.length ≤ 1000000000000) (w : World) : Ret Tryz.prog F.internal_stringslite_Clone #[.string (S l)] w (fun v w' => v = .string (S l) ∧ Ext w w') := by
 refine W.internal_stringslite_Clone_ok (S l) w _ ?_
 delta W.internal_stringslite_Clone Nx Br mI nA
 rw [S_size]
 refine ⟨fun h => ?_, fun h => ?_⟩
 · have h := eq_of_beq h
   have : l = [] := List.length_eq_zero_iff.1 (by omega)
   subst this
   exact ⟨rfl, .refl _ _⟩
 · have h0 : l ≠ [] := by rintro rfl; simp at h
   have hpos : 0 < l.length := List.length_pos_iff.2 h0
   have hz : zrow Tryz.prog Ty.uint8 l.length = (List.replicate l.length (.int .u8 0)).toArray := zrow_of (by kernel_rfl) (by kernel_rfl) _
   rw [show Int.toNat (l.length : Int) = l.length from rfl, hz]
   have hx1 : Ext w (w.alloc (.cells (List.replicate l.length (.int .u8 0)).toArray Ty.uint8)) := Chg.alloc (.refl _ _) _
   have hB1 := Blk.new w (List.replicate l.length (.int .u8 0)).toArray Ty.uint8
   have hrun := run_copy_str (dT := Ty.Sl_uint8) (sT := Ty.string) (ty := Ty.int) (dl := l.length) (dc := l.length) l (by kernel_rfl) (Nat.le_refl _) (hB1.storeOk 0 (u8s l) (by simp [u8s_length]) (u8s_plain l))
   have hB2 := hB1.sets (u8s l) 0 0
   simp only [Nat.add_zero] at hB2
   have hx2 : Ext w (setCells (w.alloc (.cells (List.replicate l.length (.int .u8 0)).toArray Ty.uint8)) ⟨w.heap.size, 0, none⟩ 0 (u8s l)) :=
     Ext.of_new hx1 (W := fun k => k = w.heap.size) (Chg.setsB (.refl _ _) (u8s l) 0) (fun k hk => by subst hk; exact Nat.le_refl _)
   have hcont : (spl (List.replicate l.length (.int .u8 0)).toArray 0 (u8s l)).toList.take l.length = u8s l := by
     have := take_spl (u8s l) (List.replicate l.length (.int .u8 0)).toArray 0 (by simp [u8s_length])
     simpa [u8s_length] using this
   refine ⟨⟨by omega, by omega, by omega, by omega⟩, _, _, hrun, _, rfl, ⟨by decide, by omega⟩, ?_⟩
   rw [show Int.toNat 0 * 1 = 0 from rfl, add_zero']
   exact ⟨_, _, unsafeString_blk l h0 hl hB2 hcont, rfl, freeze_ext hx2 (Nat.le_refl _) _⟩
theorem append_str_fit {oT : TypeId} {w : World} {s : Sl} (l : List UInt8) (hfit : s.len + l.length ≤ s.cap) (hst : ∀ a, s.a = some a → StoreOk w (a.add s.len) (u8s l)) :
   Sem.run Tryz.prog (Builtin.append_ #[Ty.Sl_uint8, Ty.string] oT #[.slice s.a s.len s.cap, .string (S l)]) w =
     .ok (.slice s.a (s.len + l.length) s.cap) (match s.a with | some a => setCells w (a.add s.len) 0 (u8s l) | none => w) := by
 have hu : Tryz.prog.underlying Ty.Sl_uint8 = some (.slice Ty.uint8) := by kernel_rfl
 have hs : Tryz.prog.underlying Ty.string = some .string := by kernel_rfl
 have hz := run_sizeOf' (P := Tryz.prog) (w := w) (t := Ty.uint8) (d := .int .u8) (by kernel_rfl)
 have hc : Tryz.prog.cellsOf Ty.uint8 = 1 := by kernel_rfl
 rw [hc] at hz
 have hsz : (S l).size = l.length := rfl
 have e2 : List.take l.length (List.map (fun b => Value.int .u8 ((b.toNat : Nat) : Int)) (S l).data.toList) = u8s l := by simp [S, u8s, List.take_of_length_le]
 cases ha : s.a with
 | none => simp [Builtin.append_, run_underlying' hu, run_underlying' hs, Builtin.lenOf, Builtin.firstCells, hz, hsz, hfit]
 | some a =>
   have hst' := hst a ha
   have := run_storeCells (P := Tryz.prog) (A := a.add s.len) (u8s l) 0 w (by simpa using hst'.1) hst'.2
   simp [Builtin.append_, run_underlying' hu, run_underlying' hs, Builtin.lenOf, Builtin.firstCells, hz, hsz, hfit, e2, this]
theorem eqPtr {xo yo : Operand} {A : Addr} : OpqEq Tryz.prog .neq Ty.P_strings_Builder xo yo (.pointer (some A)) (.pointer (some A)) false := by
 intro w
 have hu : Tryz.prog.underlying Ty.P_strings_Builder = some (.pointer Ty.strings_Builder) := by kernel_rfl
 have hz := fun w => run_sizeOf' (P := Tryz.prog) (w := w) (t := Ty.strings_Builder) (d := (Tryz.prog.underlying Ty.strings_Builder).get (by kernel_rfl)) (by simp)
 have hc : Tryz.prog.cellsOf Ty.strings_Builder = 2 := by kernel_rfl
 have e1 : ∀ (d : Nat) (w : World), (Op.equalIn (d + 1) Ty.P_strings_Builder (.pointer (some A)) (.pointer (some A))).run Tryz.prog w = .ok true w := by
   intro d w
   simp [Op.equalIn, run_underlying' hu, hz, hc, sameAddr]
 have := e1 9999 w
 rw [← equal_succ] at this
 simp [eqGuard, binOp, this]
set_option maxRecDepth 100000 in
theorem copyCheck0 {w : World} {B : Nat} {p : Option Addr} {v2 : Value} (hp : p = none ∨ p = some ⟨B, 0, none⟩) (hB : Blk w B #[.pointer p, v2] Ty.strings_Builder) :
   Ret Tryz.prog F.strings_Builder_copyCheck #[.pointer (some ⟨B, 0, none⟩)] w (fun v w' => v = .tuple #[] ∧ Blk w' B #[.pointer (some ⟨B, 0, none⟩), v2] Ty.strings_Builder ∧ Chg (fun q => q = B) w w') := by
 refine W.strings_Builder_copyCheck_ok _ w _ ?_
 delta W.strings_Builder_copyCheck Nx Br
 refine ⟨_, rfl, p, by rw [hB.cell]; rfl, fun h => ?_, fun h => ?_⟩
 · have hup : Tryz.prog.underlying Ty.P_strings_Builder = some (.pointer Ty.strings_Builder) := by kernel_rfl
   have huu : Tryz.prog.underlying Ty.unsafe_Pointer = some .unsafePointer := by kernel_rfl
   have hi : Tryz.prog.info? Ty.strings_Builder = some ((Tryz.prog.info? Ty.strings_Builder).get (by kernel_rfl)) := (Option.some_get _).symm
   refine ⟨some ⟨B, 0, none⟩, w, ?_, some ⟨B, 0, none⟩, w, ?_, some ⟨B, 0, none⟩, w, ?_, _, rfl, ⟨_, by rw [hB.cell]; rfl⟩, hB.frozen _ rfl, rfl, ?_⟩
   · exact Lib.run_to_unsafe w _ hup huu hi (by decide +kernel) hB.shape (by show 0 < 2; decide)
   · rw [run_callFunc_extern Tryz.func86 rfl rfl rfl rfl]; rfl
   · exact Lib.run_from_unsafe w _ huu hup hi hB.shape (by kernel_rfl)
   · exact ⟨hB.set 0 (.pointer (some ⟨B, 0, none⟩)), Chg.cellB (.refl _ _) _⟩
 · rcases hp with rfl | rfl
   · simp at h
   · exact ⟨_, rfl, some ⟨B, 0, none⟩, by rw [hB.cell]; rfl, false, eqPtr, (fun h => by cases h), fun _ => ⟨rfl, hB, .refl _ _⟩⟩
theorem MakeNoZero (n : Nat) (hn : n ≤ 1000000000000) (w : World) :
   ∃ cs : Array Value, Sem.run Tryz.prog (callFunc F.internal_bytealg_MakeNoZero #[.int .i64 (n : Int)]) w = .ok (.value (.slice (some ⟨w.heap.size, 0, none⟩) n cs.size)) (w.drew.drew.alloc (.cells cs Ty.uint8)) ∧ n ≤ cs.size ∧ cs.size ≤ maxLen := by
 obtain ⟨cs, h1, h2, h3⟩ := Lib.run_makeNoZero (P := Tryz.prog) w #[Ty.int] Ty.Sl_uint8 Ty.uint8 (by kernel_rfl) n (by omega)
 refine ⟨cs, ?_, h2, h3 (by show n ≤ 2 ^ 63 - 1; omega)⟩
 refine (run_callFunc_extern (e := Extern.BytealgMakeNoZero.makeNoZero #[Ty.int] #[Ty.Sl_uint8]) Tryz.func133 rfl rfl rfl (by kernel_rfl) _ _).trans ?_
 rw [h1]
 rfl
structure Bld (w0 w : World) (B : Nat) (l : List UInt8) (cap : Nat) : Prop where
 ext : Ext w0 w
 new : w0.heap.size ≤ B
 st : ∃ s : Sl, Blk w B #[.pointer (some ⟨B, 0, none⟩), .slice s.a s.len s.cap] Ty.strings_Builder ∧ OwnS 1 Ty.uint8 w s (u8s l) ∧ cap ≤ s.cap ∧ ∀ k, ownB s k → w0.heap.size ≤ k ∧ k ≠ B
theorem Grow0 {w0 w : World} {B : Nat} (n : Nat) (hn : n ≤ 1000000000000) (hx : Ext w0 w) (hnew : w0.heap.size ≤ B) (hB : Blk w B #[.pointer none, .slice none 0 0] Ty.strings_Builder) :
   Ret Tryz.prog F.strings_Builder_Grow #[.pointer (some ⟨B, 0, none⟩), .int .i64 n] w (fun v w' => v = .tuple #[] ∧ Bld w0 w' B [] n) := by
 refine W.strings_Builder_Grow_ok _ n w _ ?_
 (delta W.strings_Builder_Grow Nx c2 Br r1 wI; dsimp only)
 refine (copyCheck0 (.inl rfl) hB).use ?_
 rintro _ w1 ⟨rfl, hB1, hc1⟩
 have hx1 : Ext w0 w1 := Ext.of_new hx hc1 (fun k hk => by subst hk; exact hnew)
 refine ⟨rfl, Jn0 (fun w2 => w1 = w2) (fun q hq => ⟨fun h => by have := of_decide_eq_true h; omega, fun _ => hq _ rfl⟩) ?_⟩
 rintro _ rfl
 have hB2 := hB1.drew
 have hx2 : Ext w0 w1.drew := Chg.drew hx1
 have hcell : w1.drew.cell? ((Addr.mk B 0 none).add 1) = some (.slice none 0 0) := by rw [add_mk, hB2.cell]; rfl
 refine ⟨_, rfl, id, ⟨none, 0, 0⟩, hcell, _, rfl, id, ⟨none, 0, 0⟩, hcell, fun h => ?_, fun h => ?_⟩
 · refine Calls.mono (W.strings_Builder_grow_ok _ n _ (fun v w' => v = .tuple #[] ∧ Bld w0 w' B [] n) ?_) ?_
   · (delta W.strings_Builder_grow Nx r1 wI st; dsimp only)
     have hB3 := hB2.drew
     have hcell3 : w1.drew.drew.cell? ((Addr.mk B 0 none).add 1) = some (.slice none 0 0) := by rw [add_mk, hB3.cell]; rfl
     obtain ⟨cs, hrun, hcs1, hcs2⟩ := MakeNoZero n hn w1.drew.drew
     have hlt := hB3.lt
     have e1 : IntKind.wrap .i64 ((IntKind.wrap .i64 (2 * (((0 : Nat)) : Int))) + (n : Int)) = (n : Int) := by
       rw [show IntKind.wrap .i64 (2 * (((0 : Nat)) : Int)) = 0 from rfl, Int.zero_add, wrapi (by omega) (by omega)]
     have hB4 := ((hB3.drew).drew).alloc (.cells cs Ty.uint8)
     have hxa : Ext w1.drew.drew (w1.drew.drew.drew.drew.alloc (.cells cs Ty.uint8)) := Chg.alloc (Chg.drew (Chg.drew (.refl _ _))) _
     have hcut : cutA (some (Addr.mk w1.drew.drew.heap.size 0 none)) 1 0 cs.size = some ⟨w1.drew.drew.heap.size, 0, none⟩ := by
       unfold cutA; split
       · rfl
       · simp [add_mk]
     refine ⟨fun _ => False, _, rfl, id, ⟨none, 0, 0⟩, hcell3, _, rfl, id, ⟨none, 0, 0⟩, hcell3, ⟨some ⟨w1.drew.drew.heap.size, 0, none⟩, n, cs.size⟩, _, by rw [e1]; exact hrun, hxa, ⟨Int.le_refl 0, by show ((0 : Nat) : Int) ≤ ((cs.size : Nat) : Int); omega⟩, _, rfl, ⟨none, 0, 0⟩, by rw [add_mk, hB4.cell]; rfl, 0, _, ?_, _, rfl, ⟨_, by rw [add_mk, hB4.cell]; rfl⟩, hB4.frozen _ rfl, rfl, ?_⟩
     · rw [hcut]
       have hu : Tryz.prog.underlying Ty.Sl_uint8 = some (.slice Ty.uint8) := by kernel_rfl
       have hz := fun w => run_sizeOf' (P := Tryz.prog) (w := w) (t := Ty.uint8) (d := .int .u8) (by kernel_rfl)
       simp [Builtin.copy_, run_underlying' hu, Builtin.lenOf, Builtin.firstCells, hz, storeCells]
       rfl
     · rw [hcut, add_mk]
       have hx5 : Ext w0 (w1.drew.drew.drew.drew.alloc (.cells cs Ty.uint8)) := Ext.trans (Chg.drew hx2) hxa
       refine ⟨hx5.set hnew _, hnew, ⟨some ⟨w1.drew.drew.heap.size, 0, none⟩, 0, cs.size⟩, hB4.set 1 _, ?_, hcs1, ?_⟩
       · refine ⟨rfl, Nat.zero_le _, hcs2, .inr ⟨_, cs, rfl, (Blk.new w1.drew.drew.drew.drew cs Ty.uint8).set_ne (by show B ≠ w1.drew.drew.heap.size; omega) _, by simp, by simp [u8s]⟩⟩
       · rintro k ⟨A, hA, hk⟩
         cases hA
         subst hk
         exact ⟨(Chg.drew hx2).size, by show w1.drew.drew.heap.size ≠ B; omega⟩
   · rintro _ w2 ⟨_, rfl, rfl, hb⟩
     exact ⟨rfl, rfl, hb⟩
 · have h := of_decide_eq_false h
   have h0 : n = 0 := by
     rw [show IntKind.wrap .i64 ((((0 : Nat)) : Int) - (((0 : Nat)) : Int)) = 0 from rfl] at h
     omega
   subst h0
   exact ⟨rfl, hx2, hnew, ⟨none, 0, 0⟩, hB2, OwnS.none _ _ _, Nat.le_refl _, fun k hk => (ownB_none k hk).elim⟩
theorem WriteString {w0 w : World} {B cap : Nat} {l : List UInt8} (m : List UInt8) (h : Bld w0 w B l cap) (hr : l.length + m.length ≤ cap) :
   Ret Tryz.prog F.strings_Builder_WriteString #[.pointer (some ⟨B, 0, none⟩), .string (S m)] w (fun v w' => v = .tuple #[.int .i64 ((m.length : Nat) : Int), .nilIface] ∧ Bld w0 w' B (l ++ m) cap) := by
 obtain ⟨hx, hn, s, hB, ho, hcap, hf⟩ := h
 refine W.strings_Builder_WriteString_ok _ (S m) w _ ?_
 (delta W.strings_Builder_WriteString Nx c2 r1 st; dsimp only)
 refine (copyCheck0 (.inr rfl) hB).use ?_
 rintro _ w1 ⟨rfl, hB1, hc1⟩
 have hx1 : Ext w0 w1 := Ext.of_new hx hc1 (fun k hk => by subst hk; exact hn)
 have ho1 := ho.chg hc1 (fun k hk => (hf k hk).2)
 have hsl : s.len = l.length := by have := ho.1; rw [u8s_length, Nat.mul_one] at this; exact this.symm
 obtain ⟨g1, g2, g3, g4⟩ := ho1
 have hst : ∀ a, s.a = some a → StoreOk w1 (a.add s.len) (u8s m) := by
   intro a ha
   rcases g4 with ⟨hn, _⟩ | ⟨b, c, hbb, hblk, hcs, hv⟩
   · rw [hn] at ha; cases ha
   · rw [hbb] at ha
     cases ha
     rw [add_mk]
     exact hblk.storeOk _ _ (by rw [hcs, u8s_length]; omega) (u8s_plain m)
 have hrun := append_str_fit (oT := Ty.Sl_uint8) (w := w1) (s := s) m (by omega) hst
 refine ⟨rfl, _, rfl, s, by rw [add_mk, hB1.cell]; rfl, ⟨s.a, s.len + m.length, s.cap⟩, _, hrun, ?_⟩
 rcases g4 with ⟨hn2, hc0⟩ | ⟨b, c, hbb, hblk, hcs, hv⟩
 · have hm0 : m = [] := List.length_eq_zero_iff.1 (by omega)
   have hl0 : l = [] := List.length_eq_zero_iff.1 (by omega)
   subst hm0 hl0
   simp only [hn2]
   refine ⟨_, rfl, ⟨_, by rw [add_mk, hB1.cell]; rfl⟩, hB1.frozen _ rfl, rfl, ?_⟩
   rw [add_mk]
   refine ⟨hx1.set hn _, hn, ⟨none, 0, 0⟩, ?_, OwnS.none _ _ _, by omega, fun k hk => (ownB_none k hk).elim⟩
   have := hB1.set 1 (.slice none (s.len + 0) s.cap)
   rw [show s.len + 0 = 0 by simpa using hsl, hc0] at this
   rw [hc0]
   simpa [hsl] using this
 · simp only [hbb, add_mk, Nat.zero_add]
   have hbB := (hf b ⟨_, hbb, rfl⟩)
   have hB2 := hB1.sets_ne (A := ⟨b, s.len, none⟩) hbB.2 (u8s m) 0 hB1
   have hblk2 := Blk.sets (T := Ty.uint8) (u8s m) s.len 0 hblk
   have hx2 : Ext w0 (setCells w1 ⟨b, s.len, none⟩ 0 (u8s m)) := Ext.of_new hx1 (Chg.setsB (.refl _ _) (u8s m) 0) (fun k hk => by subst hk; exact hbB.1)
   refine ⟨_, rfl, ⟨_, by rw [add_mk, hB2.cell]; rfl⟩, hB2.frozen _ rfl, rfl, ?_⟩
   rw [add_mk]
   refine ⟨hx2.set hn _, hn, ⟨some ⟨b, 0, none⟩, s.len + m.length, s.cap⟩, hB2.set 1 _, ⟨?_, by show s.len + m.length ≤ s.cap; omega, g3, .inr ⟨b, _, rfl, hblk2.set_ne (fun e => hbB.2 e.symm) _, by rw [spl_size]; exact hcs, ?_⟩⟩, hcap, ?_⟩
   · rw [u8s_length, List.length_append]; show _ = (s.len + m.length) * 1; omega
   · have := take_spl (u8s m) c s.len (by rw [hcs, u8s_length]; omega)
     rw [u8s_length] at this
     rw [u8s_append]
     show List.take ((s.len + m.length) * 1) _ = _
     rw [Nat.mul_one, Nat.add_zero, this, ← hv, Nat.mul_one]
   · rintro k ⟨A, hA, hk⟩
     cases hA
     subst hk
     exact hbB
theorem BString {w0 w : World} {B cap : Nat} {l : List UInt8} (h : Bld w0 w B l cap) (h0 : l ≠ []) (hl : l.length ≤ 1000000000000) :
   Ret Tryz.prog F.strings_Builder_String #[.pointer (some ⟨B, 0, none⟩)] w (fun v w' => v = .string (S l) ∧ Ext w0 w') := by
 obtain ⟨hx, hn, s, hB, ho, hcap, hf⟩ := h
 refine W.strings_Builder_String_ok _ w _ ?_
 (delta W.strings_Builder_String Nx r1; dsimp only)
 have hB1 := hB.drew
 have hx1 : Ext w0 w.drew := Chg.drew hx
 have hsl : s.len = l.length := by have := ho.1; rw [u8s_length, Nat.mul_one] at this; exact this.symm
 have hpos : 0 < l.length := List.length_pos_iff.2 h0
 obtain ⟨g1, g2, g3, g4⟩ := ho
 rcases g4 with ⟨hn2, hc0⟩ | ⟨b, c, hbb, hblk, hcs, hv⟩
 · omega
 · have hcell : w.drew.cell? ((Addr.mk B 0 none).add 1) = some (.slice s.a s.len s.cap) := by rw [add_mk, hB1.cell]; rfl
   have hbB := (hf b ⟨_, hbb, rfl⟩)
   refine ⟨fun _ => False, _, rfl, id, s, hcell, _, rfl, id, s, hcell, some ⟨b, 0, none⟩, w.drew, ?_, .refl _ _, S l, _, ?_, rfl, freeze_ext hx1 (A := ⟨b, 0, none⟩) hbB.1 l.length⟩
   · rw [hbb]
     have : s.cap ≠ 0 := by omega
     have hdef : ∀ (a : Addr) (l c : Nat), Builtin.unsafeSliceData_ #[Ty.Sl_uint8] Ty.P_uint8 #[.slice (some a) l c] = (if c ≠ 0 then pure (.pointer (some a)) else (do if (← viewAt a.block).isSome then pure (.pointer (some a)) else pure (.pointer (some ⟨← newObj (.view a (← elemOf Ty.P_uint8)), 0, none⟩)))) := fun _ _ _ => rfl
     rw [hdef, if_pos this]
     rfl
   · rw [hsl]
     exact unsafeString_blk l h0 hl hblk.drew (by rw [← hv, hsl, Nat.mul_one])
def joinB (c : UInt8) : List (List UInt8) → List UInt8
 | [] => []
 | [l] => l
 | l :: m :: ls => l ++ c :: joinB c (m :: ls)
def tailB (c : UInt8) : List (List UInt8) → List UInt8
 | [] => []
 | l :: ls => c :: l ++ tailB c ls
theorem joinB_cons (c : UInt8) (l : List UInt8) : ∀ ls, joinB c (l :: ls) = l ++ tailB c ls
 | [] => by simp [joinB, tailB]
 | m :: ls => by simp [joinB, tailB, joinB_cons c m ls]
theorem tailB_append (c : UInt8) : ∀ (a b : List (List UInt8)), tailB c (a ++ b) = tailB c a ++ tailB c b
 | [], _ => rfl
 | l :: ls, b => by simp [tailB, tailB_append c ls b]
def sumLen : List (List UInt8) → Nat
 | [] => 0
 | l :: ls => l.length + sumLen ls
theorem sumLen_append : ∀ (a b : List (List UInt8)), sumLen (a ++ b) = sumLen a + sumLen b
 | [], _ => by simp [sumLen]
 | l :: ls, b => by simp [sumLen, sumLen_append ls b, Nat.add_assoc]
theorem tailB_length (c : UInt8) : ∀ ls, (tailB c ls).length = ls.length + sumLen ls
 | [] => rfl
 | l :: ls => by simp [tailB, sumLen, tailB_length c ls]; omega
theorem take_succ {α : Type} (ls : List α) {i : Nat} (h : i < ls.length) : ls.take (i + 1) = ls.take i ++ [ls[i]] := by
 rw [List.take_succ_eq_append_getElem h]
theorem Join1 (ls : List (List UInt8)) (c : UInt8) {s : Sl} {w : World} (hs : Src 1 w s (strs ls)) (hcap : s.len ≤ s.cap) (hn : ls.length ≤ 1000000) (hl : sumLen ls ≤ 100000000000) :
   Ret Tryz.prog F.strings_Join #[.slice s.a s.len s.cap, .string (S [c])] w (fun v w' => v = .string (S (joinB c ls)) ∧ Ext w w') := by
 refine W.strings_Join_ok s (S [c]) w _ ?_
 (delta W.strings_Join Nx Br bd r2 wI mI z2 c2 nA c3 c4; dsimp only)
 have hsl : s.len = ls.length := by have := hs.len; rw [strs_length, Nat.mul_one] at this; exact this.symm
 have hget : ∀ {i : Nat} (h : i < ls.length), (strs ls)[i]? = some (.string (S ls[i])) := by
   intro i h; simp [strs, h]
 have e1 : ((ByteArray.size (S [c]) : Nat) : Int) = 1 := rfl
 rcases ls with _ | ⟨l0, _ | ⟨m, ls⟩⟩
 · exact ⟨fun _ => ⟨rfl, .refl _ _⟩, fun h => by rw [hsl] at h; simp at h⟩
 · refine ⟨fun h => by rw [hsl] at h; simp at h, fun _ => ⟨fun _ => ?_, fun h => by rw [hsl] at h; simp at h⟩⟩
   obtain ⟨A, hA, hb, hc⟩ := hs.at (hget (i := 0) (by simp))
   exact ⟨A, hA, hb, S l0, hc, rfl, .refl _ _⟩
 · simp only [List.length_cons] at hn hsl
   refine ⟨fun h => by have := eq_of_beq h; omega, fun _ => ⟨fun h => by have := eq_of_beq h; omega, fun _ => ?_⟩⟩
   refine Jn1 (fun n w1 => n = ((ls.length + 1 : Nat) : Int) ∧ w = w1) (fun q hq => ⟨fun _ => ?_, fun h => by have := of_decide_eq_false h; omega⟩) ?_
   · rw [wrapi (n := ((s.len : Nat) : Int) - 1) (by omega) (by omega)]
     refine Jn0 (fun w1 => w = w1) (fun q2 hq2 => ⟨by omega, fun h => ?_, fun _ => hq2 _ rfl⟩) ?_
     · exfalso
       have h := of_decide_eq_true h
       have hq1 : (9223372036854 : Int) ≤ 9223372036854775807 / (((s.len : Nat) : Int) - 1) := Int.le_ediv_of_mul_le (by omega) (by omega)
       have hq2 : (9223372036854775807 : Int) / (((s.len : Nat) : Int) - 1) ≤ 9223372036854775807 := Int.ediv_le_self _ (by decide)
       rw [tdiv_nn (by omega), wrapi (by omega) (by omega)] at h
       omega
     · rintro _ rfl
       refine hq _ _ ⟨?_, rfl⟩
       rw [e1, wrapi (n := 1 * (((s.len : Nat) : Int) - 1)) (by omega) (by omega), wrapi (by omega) (by omega)]
       omega
   rintro _ _ ⟨rfl, rfl⟩
   obtain ⟨all, hall⟩ : ∃ all, all = l0 :: m :: ls := ⟨_, rfl⟩
   rw [← hall] at hs hget hl
   have hlen : all.length = ls.length + 1 + 1 := by rw [hall]; rfl
   have hsum : ∀ i, sumLen (all.take i) ≤ sumLen all := by
     intro i
     have := sumLen_append (all.take i) (all.drop i)
     rw [List.take_append_drop] at this
     omega
   refine ⟨fun n i w' => ∃ k : Nat, i = k ∧ k ≤ all.length ∧ n = ((ls.length + 1 + sumLen (all.take k) : Nat) : Int) ∧ w = w', fun _ i _ => (all.length - i).toNat, ⟨0, rfl, Nat.zero_le _, by simp [sumLen], rfl⟩, ?_⟩
   rintro _ _ _ ⟨k, rfl, hk, rfl, rfl⟩
   have hsk := hsum k
   refine ⟨fun hlt => ?_, fun hge => ?_⟩
   · have hlt : k < all.length := by have := of_decide_eq_true hlt; omega
     obtain ⟨A, hA, hb, hc⟩ := hs.at (hget hlt)
     have hsk1 := hsum (k + 1)
     rw [take_succ all hlt, sumLen_append] at hsk1
     simp only [sumLen] at hsk1
     refine ⟨A, hA, hb, S all[k], hc, Jn0 (fun w1 => w = w1) (fun q hq => ⟨fun h => ?_, fun _ => hq _ rfl⟩) ?_⟩
     · exfalso
       have h := of_decide_eq_true h
       rw [S_size, wrapi (by omega) (by omega)] at h
       omega
     · rintro _ rfl
       rw [S_size, wrapi (by omega) (by omega), wrapi (n := (k : Int) + 1) (by omega) (by omega)]
       refine ⟨⟨k + 1, by omega, by omega, ?_, rfl⟩, ?_⟩
       · rw [take_succ all hlt, sumLen_append]
         simp only [sumLen]
         omega
       · show ((all.length : Int) - ((k : Int) + 1)).toNat < ((all.length : Int) - (k : Int)).toNat
         omega
   · have hge : k = all.length := by have := of_decide_eq_false hge; omega
     subst hge
     rw [List.take_length]
     have hB := Blk.new w #[.pointer none, .slice none 0 0] Ty.strings_Builder
     have hx0 : Ext w (w.alloc (.cells #[.pointer none, .slice none 0 0] Ty.strings_Builder)) := Chg.alloc (.refl _ _) _
     have hcapL : (ls.length + 1 + sumLen all) = (joinB c all).length := by
       rw [hall, joinB_cons, List.length_append, tailB_length]
       simp [sumLen]
       omega
     refine (Grow0 (ls.length + 1 + sumLen all) (by omega) hx0 (Nat.le_refl _) hB).use ?_
     rintro _ w2 ⟨rfl, hb2⟩
     have h0lt : 0 < all.length := by omega
     have hs2 := hs.ext hb2.ext
     obtain ⟨A, hA, hb, hc⟩ := hs2.at (hget h0lt)
     have hl0 : all[0] = l0 := by simp [hall]
     rw [hl0] at hc
     refine ⟨rfl, A, hA, hb, S l0, hc, ?_⟩
     refine (WriteString l0 hb2 (by rw [hcapL, hall, joinB_cons]; simp)).use ?_
     rintro _ w3 ⟨rfl, hb3⟩
     refine ⟨_, _, rfl, ⟨by decide, by omega⟩, ?_⟩
     have etl : all.tail = m :: ls := by rw [hall]; rfl
     have hgt : ∀ {i : Nat} (h : i < (m :: ls).length), (strs all)[i + 1]? = some (.string (S (m :: ls)[i])) := by
       intro i h
       rw [hget (i := i + 1) (by simp at h ⊢; omega)]
       simp [hall]
     refine ⟨fun i w' => ∃ k : Nat, i = k ∧ k ≤ (m :: ls).length ∧ Bld w w' w.heap.size (l0 ++ tailB c ((m :: ls).take k)) (ls.length + 1 + sumLen all), fun i _ => ((m :: ls).length - i).toNat, ⟨0, rfl, Nat.zero_le _, by simpa [tailB] using hb3⟩, ?_⟩
     rintro _ w4 ⟨k, rfl, hk, hb4⟩
     rw [show Int.toNat 1 = 1 from rfl]
     have hsl1 : ((s.len - 1 : Nat) : Int) = ls.length + 1 := by omega
     have hroom : ∀ j, (l0 ++ tailB c ((m :: ls).take j)).length ≤ ls.length + 1 + sumLen all := by
       intro j
       rw [hcapL, hall, joinB_cons]
       have := tailB_append c ((m :: ls).take j) ((m :: ls).drop j)
       rw [List.take_append_drop] at this
       rw [this]
       simp
     refine ⟨fun hlt => ?_, fun hge => ?_⟩
     · have hlt : k < (m :: ls).length := by have := of_decide_eq_true hlt; simp; omega
       have hs4 := hs.ext hb4.ext
       obtain ⟨A, hA, hb, hc⟩ := hs4.at (hgt hlt)
       have hcutA : cutA s.a 1 1 s.cap = some (A.add 1) ∨ s.cap = 1 := by
         by_cases e : s.cap = 1
         · exact .inr e
         · left; simp [cutA, e, hA]
       have hcap2 : s.cap ≠ 1 := by omega
       have hr1 := hroom (k + 1)
       rw [take_succ _ hlt, tailB_append] at hr1
       simp only [tailB, List.length_append, List.length_cons, List.length_nil] at hr1
       rcases hcutA with hcutA | e
       · refine ⟨_, hcutA, ⟨by omega, by simp at hlt; omega⟩, S (m :: ls)[k], ?_, ?_⟩
         · rw [add_add]
           have : 1 + Int.toNat (k : Int) * 1 = Int.toNat ((k + 1 : Nat) : Int) * 1 := by simp; omega
           rw [this]; exact hc
         refine (WriteString [c] hb4 (by simp only [List.length_append, List.length_cons, List.length_nil]; omega)).use ?_
         rintro _ w5 ⟨rfl, hb5⟩
         refine ⟨_, _, rfl, ?_⟩
         refine (WriteString (m :: ls)[k] hb5 (by simp only [List.length_append, List.length_cons, List.length_nil]; omega)).use ?_
         rintro _ w6 ⟨rfl, hb6⟩
         rw [wrapi (n := (k : Int) + 1) (by omega) (by simp at hlt; omega)]
         refine ⟨_, _, rfl, ⟨k + 1, by omega, by omega, ?_⟩, ?_⟩
         · rw [take_succ _ hlt, tailB_append]
           simpa [tailB] using hb6
         · show (((m :: ls).length : Int) - ((k : Int) + 1)).toNat < (((m :: ls).length : Int) - (k : Int)).toNat
           omega
       · exact absurd e hcap2
     · have hge : k = (m :: ls).length := by have := of_decide_eq_false hge; simp at hk ⊢; omega
       subst hge
       rw [List.take_length] at hb4
       have hj : l0 ++ tailB c (m :: ls) = joinB c all := by rw [hall, joinB_cons]
       rw [hj] at hb4
       refine (BString hb4 ?_ (by rw [← hcapL]; omega)).use ?_
       · rw [← hj]; simp [tailB]
       · rintro _ w5 ⟨rfl, hx5⟩
         exact ⟨_, rfl, by rw [hall], hx5⟩
end Go.Proofs.YtgljoledlhmhnaaGreatDoor
namespace Go.Proofs.YtgljoledlhmhnaaGreatDoor
open Go Gx
def ErrV (w : World) (g : Nat) : Prop := ∃ v, w.cell? ⟨g, 0, none⟩ = some v ∧ (v = .nilIface ∨ ∃ t x, v = .iface t x)
theorem ErrV.ext {w w' : World} {g : Nat} (h : ErrV w g) (hx : Ext w w') : ErrV w' g := by
 obtain ⟨v, h1, h2⟩ := h
 exact ⟨v, cell_ext hx h1, h2⟩
structure Errs (w : World) : Prop where
 syn : ErrV w G.strconv_ErrSyntax
 rng : ErrV w G.strconv_ErrRange
theorem Errs.ext {w w' : World} (h : Errs w) (hx : Ext w w') : Errs w' := ⟨h.syn.ext hx, h.rng.ext hx⟩
theorem eqErr {op : BinOp} {xo yo : Operand} (hop : op = .eql ∨ op = .neq) (c k : Int) : OpqEq Tryz.prog op Ty.error xo yo (.iface Ty.strconv_Error (.int .i64 c)) (.iface Ty.strconv_Error (.int .i64 k)) (if op = .eql then c == k else !(c == k)) := by
 intro w
 obtain ⟨ms, hu⟩ : ∃ ms, Tryz.prog.underlying Ty.error = some (.interface ms) := by
   have h : isIfaceT (Tryz.prog.underlying Ty.error) = true := by kernel_rfl
   generalize Tryz.prog.underlying Ty.error = o at h
   cases o with
   | none => cases h
   | some d => cases d <;> first | exact ⟨_, rfl⟩ | cases h
 have he : Tryz.prog.underlying Ty.strconv_Error = some (.int .i64) := by kernel_rfl
 obtain ⟨i, hi, hcmp⟩ : ∃ i, Tryz.prog.info? Ty.strconv_Error = some i ∧ i.comparable = true := by
   refine ⟨(Tryz.prog.info? Ty.strconv_Error).get (by kernel_rfl), (Option.some_get _).symm, by kernel_rfl⟩
 have e1 : ∀ (d : Nat) (w : World), (Op.equalIn (d + 1 + 1) Ty.error (.iface Ty.strconv_Error (.int .i64 c)) (.iface Ty.strconv_Error (.int .i64 k))).run Tryz.prog w = .ok (c == k) w := by
   intro d w
   rw [Op.equalIn]
   simp [run_underlying' hu, run_typeInfo' hi, hcmp, run_equalIn_int w d Ty.strconv_Error .i64 .i64 c k he]
 have := e1 9998 w
 have e2 : (Op.equal Ty.error (.iface Ty.strconv_Error (.int .i64 c)) (.iface Ty.strconv_Error (.int .i64 k))).run Tryz.prog w = .ok (c == k) w := this
 rcases hop with rfl | rfl <;> simp [eqGuard, binOp, e2]
theorem mkErr {fn : ByteArray} {l : List UInt8} {w4 : World} {v3 : Value} (hv : v3 = .nilIface ∨ ∃ t x, v3 = .iface t x) :
   ∃ c7 : Array Value, Sem.run Tryz.prog (Instr.build Ty.strconv_NumError #[(0, .string fn), (1, .string (S l)), (2, v3)]) w4 = .ok (.agg c7) w4 := by
 rcases hv with rfl | ⟨t, x, rfl⟩
 · exact ⟨#[.string fn, .string (S l), .nilIface], by kernel_rfl⟩
 · exact ⟨#[.string fn, .string (S l), .iface t x], by kernel_rfl⟩
theorem syntaxError (fn : ByteArray) (l : List UInt8) (hl : l.length ≤ 1000000000000) (w : World) (he : Errs w) : Ret Tryz.prog F.strconv_syntaxError #[.string fn, .string (S l)] w (fun v w' => (∃ A, v = .pointer (some A)) ∧ Ext w w') := by
 refine W.strconv_syntaxError_ok fn (S l) w _ ?_
 (delta W.strconv_syntaxError Nx r6 T22 c4 c7 nA; dsimp only)
 obtain ⟨v3, h3, hv3⟩ := he.syn
 refine ⟨fun _ => False, id, v3, h3, (Clone_str l hl w.drew).use ?_⟩
 rintro _ w4 ⟨rfl, hx⟩
 obtain ⟨c7, h7⟩ := mkErr (fn := fn) (l := l) (w4 := w4) hv3
 exact ⟨_, rfl, hx, c7, h7, ⟨_, rfl⟩, Chg.alloc (Ext.trans (Chg.drew (.refl _ _)) hx) _⟩
theorem rangeError (fn : ByteArray) (l : List UInt8) (hl : l.length ≤ 1000000000000) (w : World) (he : Errs w) : Ret Tryz.prog F.strconv_rangeError #[.string fn, .string (S l)] w (fun v w' => (∃ A, v = .pointer (some A)) ∧ Ext w w') := by
 refine W.strconv_rangeError_ok fn (S l) w _ ?_
 (delta W.strconv_rangeError Nx r6 T22 c4 c7 nA; dsimp only)
 obtain ⟨v3, h3, hv3⟩ := he.rng
 refine ⟨fun _ => False, id, v3, h3, (Clone_str l hl w.drew).use ?_⟩
 rintro _ w4 ⟨rfl, hx⟩
 obtain ⟨c7, h7⟩ := mkErr (fn := fn) (l := l) (w4 := w4) hv3
 exact ⟨_, rfl, hx, c7, h7, ⟨_, rfl⟩, Chg.alloc (Ext.trans (Chg.drew (.refl _ _)) hx) _⟩
theorem toError (fn : ByteArray) (l : List UInt8) (hl : l.length ≤ 1000000000000) (b k c : Int) (hc : c = 1 ∨ c = 2) (w : World) (he : Errs w) :
   Ret Tryz.prog F.strconv_toError #[.string fn, .string (S l), .int .i64 b, .int .i64 k, .iface Ty.strconv_Error (.int .i64 c)] w (fun v w' => (∃ t x, v = .iface t x) ∧ Ext w w') := by
 refine W.strconv_toError_ok fn (S l) b k _ w _ ?_
 (delta W.strconv_toError Br c11; dsimp only)
 refine ⟨_, eqErr (.inl rfl) c 2, fun h => ?_, fun h => ?_⟩
 · refine (syntaxError fn l hl w he).use ?_
   rintro _ w1 ⟨⟨A, rfl⟩, hx⟩
   exact ⟨_, rfl, ⟨_, _, rfl⟩, hx⟩
 · refine ⟨_, eqErr (.inl rfl) c 1, fun h => ?_, fun h2 => ?_⟩
   · refine (rangeError fn l hl w he).use ?_
     rintro _ w1 ⟨⟨A, rfl⟩, hx⟩
     exact ⟨_, rfl, ⟨_, _, rfl⟩, hx⟩
   · exfalso
     simp at h h2
     omega
def PN (k : IntKind) (r : Option Int) (v : Value) : Prop := match r with
 | some n => v = .tuple #[.int k n, .nilIface]
 | none => ∃ (m : Int) (t : TypeId) (x : Value), v = .tuple #[.int k m, .iface t x]
theorem ParseUint (l : List UInt8) (b k : Nat) (hl : l.length ≤ 1000000000000) (hb : b = 10 ∨ b = 16) (hk : 1 ≤ k ∧ k ≤ 64) (w : World) (he : Errs w) :
   Ret Tryz.prog F.strconv_ParseUint #[.string (S l), .int .i64 b, .int .i64 k] w (fun v w' => PN .u64 ((parseB b (2 ^ k - 1) l).map (fun n => ((n : Nat) : Int))) v ∧ Ext w w') := by
 refine W.strconv_ParseUint_ok (S l) b k w _ ?_
 (delta W.strconv_ParseUint c7 Br c8; dsimp only)
 refine (ParseUint_in l b k hl hb k (.inl rfl) hk w).use ?_
 rintro v w1 ⟨hv, hx⟩
 cases hp : parseB b (2 ^ k - 1) l with
 | some n =>
   rw [hp] at hv
   simp only [PU] at hv
   subst hv
   exact ⟨_, _, rfl, true, rfl, fun h => by simp at h, fun _ => ⟨rfl, hx⟩⟩
 | none =>
   rw [hp] at hv
   obtain ⟨m, c, rfl, hc⟩ := hv
   refine ⟨_, _, rfl, false, rfl, fun _ => ?_, fun h => by simp at h⟩
   refine (toError _ l hl b k c hc w1 (he.ext hx)).use ?_
   rintro _ w2 ⟨⟨t, x, rfl⟩, hx2⟩
   exact ⟨_, rfl, ⟨_, _, _, rfl⟩, hx.trans hx2⟩
def aFold : Int → List UInt8 → Option Int
 | n, [] => some n
 | n, c :: cs => if IntKind.wrap .u8 (((c.toNat : Nat) : Int) - 48) > 9 then none else
     aFold (IntKind.wrap .i64 ((IntKind.wrap .i64 (n * 10)) + (IntKind.wrap .i64 (IntKind.wrap .u8 (((c.toNat : Nat) : Int) - 48))))) cs
theorem aFold_append : ∀ (a b : List UInt8) (n : Int), aFold n (a ++ b) = (aFold n a).bind (fun m => aFold m b)
 | [], _, _ => rfl
 | c :: a, b, n => by
   simp only [List.cons_append, aFold]
   split
   · rfl
   · exact aFold_append a b _
theorem aFold_num (n : Nat) (hn : n < 1000000000000000000) : aFold 0 (numB 10 n) = some (n : Int) := by
 induction n using Nat.strongRecOn with
 | ind n ih =>
   have hd : ∀ d : Nat, d < 10 → IntKind.wrap .u8 ((((dig d).toNat : Nat) : Int) - 48) = d := by
     intro d hd
     rw [dig_val (by omega), if_pos hd, wr8 (by omega) (by omega)]; omega
   by_cases h : n < 10
   · rw [numB_lt h]
     simp only [aFold, hd n h]
     rw [if_neg (by omega), wrapi (n := 0 * 10) (by omega) (by omega), wrapi (n := (n : Int)) (by omega) (by omega), wrapi (n := 0 * 10 + (n : Int)) (by omega) (by omega)]
     simp
   · rw [numB_ge (by omega) (by omega), aFold_append, ih (n / 10) (by omega) (by omega)]
     simp only [Option.bind_some, aFold, hd (n % 10) (by omega)]
     rw [if_neg (by omega), wrapi (n := ((n / 10 : Nat) : Int) * 10) (by omega) (by omega), wrapi (n := ((n % 10 : Nat) : Int)) (by omega) (by omega), wrapi (n := ((n / 10 : Nat) : Int) * 10 + ((n % 10 : Nat) : Int)) (by omega) (by omega)]
     congr 1
     omega
theorem numB_digit (n : Nat) : ∀ c ∈ numB 10 n, 48 ≤ c.toNat ∧ c.toNat ≤ 57 := by
 induction n using Nat.strongRecOn with
 | ind n ih =>
   have hd : ∀ d : Nat, d < 10 → 48 ≤ (dig d).toNat ∧ (dig d).toNat ≤ 57 := by
     intro d hd
     have := dig_val (d := d) (by omega)
     rw [if_pos hd] at this
     omega
   by_cases h : n < 10
   · rw [numB_lt h]
     intro c hc
     rw [List.mem_singleton.1 hc]; exact hd n h
   · rw [numB_ge (by omega) (by omega)]
     intro c hc
     rcases List.mem_append.1 hc with hc | hc
     · exact ih (n / 10) (by omega) c hc
     · rw [List.mem_singleton.1 hc]; exact hd _ (by omega)
theorem numB_len (b k : Nat) (hb : 2 ≤ b) : ∀ n, n < b ^ (k + 1) → (numB b n).length ≤ k + 1 := by
 induction k with
 | zero => intro n h; rw [numB_lt (by simpa using h)]; simp
 | succ k ih =>
   intro n h
   by_cases h2 : n < b
   · rw [numB_lt h2]; simp
   · rw [numB_ge hb (by omega)]
     have := ih (n / b) (by rw [Nat.div_lt_iff_lt_mul (by omega), ← Nat.pow_succ]; exact h)
     simp; omega
end Go.Proofs.YtgljoledlhmhnaaGreatDoor
namespace Go.Proofs.YtgljoledlhmhnaaGreatDoor
open Go Gx
def numI (n : Int) : List UInt8 := if n < 0 then 45 :: numB 10 n.natAbs else numB 10 n.natAbs
theorem FormatIntI (n : Int) (h0 : -9223372036854775808 ≤ n) (h1 : n ≤ 9223372036854775807) (w : World) (ht : TabPow w) : Ret Tryz.prog F.internal_strconv_FormatInt #[.int .i64 n, .int .i64 10] w (fun v w' => v = .string (S (numI n)) ∧ Ext w w') := by
 by_cases hneg : n < 0
 rotate_left
 · obtain ⟨m, rfl⟩ : ∃ m : Nat, n = m := ⟨n.natAbs, by omega⟩
   have e : numI (m : Int) = numB 10 m := by unfold numI; rw [if_neg (by omega)]; rfl
   rw [e]
   exact FormatInt10 m (by omega) w ht
 obtain ⟨m, rfl⟩ : ∃ m : Nat, n = -(m : Int) := ⟨n.natAbs, by omega⟩
 have e : numI (-(m : Int)) = 45 :: numB 10 m := by
   unfold numI
   rw [if_pos hneg]
   congr 2
   omega
 rw [e]
 refine W.internal_strconv_FormatInt_ok (-(m : Int)) 10 w _ ?_
 (delta W.internal_strconv_FormatInt Nx Br c4 z3 c1 wI c2 nA st c6; dsimp only)
 refine ⟨fun _ => ⟨fun h => ?_, fun h => ?_⟩, fun h => by simp at h⟩
 · simp only [Bool.and_eq_true, decide_eq_true_eq] at h; omega
 · have hx1 : Ext w (w.alloc (.cells (bufV 24 (fun _ => 0)) Ty.n24_uint8)) := Chg.alloc (.refl _ _) _
   have hB1 : Buf (w.alloc (.cells (bufV 24 (fun _ => 0)) Ty.n24_uint8)) w.heap.size Ty.n24_uint8 24 (fun _ => 0) := ⟨Blk.new _ _ _⟩
   have ew : IntKind.wrap .u64 (0 - (IntKind.wrap .u64 (-(m : Int)))) = (m : Int) := by
     rw [wr64m, wr64m]; omega
   refine Jn1 (fun x w1 => x = (m : Int) ∧ w1 = w.alloc (.cells (bufV 24 (fun _ => 0)) Ty.n24_uint8)) (fun q hq => ⟨fun _ => hq _ _ ⟨ew, rfl⟩, fun h => absurd hneg (of_decide_eq_false h)⟩) ?_
   rintro _ _ ⟨rfl, rfl⟩
   refine (numDigits m (by omega) (by omega) _ (ht.ext hx1)).use ?_
   rintro _ w2 ⟨k, rfl, hk, rfl⟩
   obtain ⟨g1, g2, g3, g4⟩ := hk
   refine ⟨_, rfl, ?_⟩
   rw [wrapi (n := 1 + (k : Int)) (by omega) (by omega)]
   refine ⟨⟨by omega, by omega⟩, ⟨by omega, by omega⟩, ?_⟩
   rw [show (1 + (k : Int)).toNat = k + 1 by omega, show Int.toNat 1 = 1 from rfl, cut_some (by omega), show k + 1 - 1 = k by omega]
   refine (formatBase10 (a := ⟨some ⟨w.heap.size, 0 + 1 * 1, none⟩, k, 23⟩) (o := 0 + 1 * 1) (b := w.heap.size) (m := 24) (u := m) rfl (by show k ≤ 100; omega) (by omega) g4 (by show 0 + 1 * 1 + k ≤ 24; omega) hB1).use ?_
   rintro _ w3 ⟨rfl, f3, hB3, hT3, hc3⟩
   have hx3 : Ext w w3 := Ext.of_new hx1 hc3 (fun q hq => by subst hq; exact Nat.le_refl _)
   have e0 : Addr.add ⟨w.heap.size, 0, none⟩ (Int.toNat 0 * 1) = ⟨w.heap.size, 0, none⟩ := rfl
   rw [e0]
   have hB4 := hB3.set (i := 0) rfl 45
   refine ⟨rfl, fun _ => ⟨⟨by omega, by omega⟩, ⟨_, hB3.cell rfl (by omega)⟩, hB3.frozen rfl, ⟨by omega, by omega⟩, ?_⟩, fun h => absurd hneg (of_decide_eq_false h)⟩
   rw [cut0']
   refine ⟨_, _, conv_byteS (ns := (List.range (k + 1)).map fun i => (put f3 0 45) (0 + i)) (s := ⟨some ⟨w.heap.size, 0, none⟩, k + 1, 24⟩) (by kernel_rfl) (by kernel_rfl) ?_, ?_, ?_⟩
   · have := hB4.src (o := 0) (n := k + 1) (c := 24) (by omega)
     rw [List.map_map]
     exact this
   · rw [IsDigs.numB ⟨g1, g2, g3, g4⟩, ← decN_of_tail hT3, List.range_succ_eq_map, List.map_cons, List.map_cons, List.map_map]
     have e1 : (put f3 0 45) (0 + 0) = 45 := rfl
     rw [e1]
     congr 3
     simp only [List.map_map]
     refine List.map_congr_left fun i _ => ?_
     show UInt8.ofNat ((put f3 0 45) (0 + (i + 1))).toNat = UInt8.ofNat (f3 (0 + 1 * 1 + i)).toNat
     unfold put
     rw [if_neg (by omega), show 0 + (i + 1) = 0 + 1 * 1 + i by omega]
   · exact Ext.set hx3 (A := ⟨w.heap.size, 0, none⟩) (Nat.le_refl _) _
theorem ItoaI (n : Int) (h0 : -9223372036854775808 ≤ n) (h1 : n ≤ 9223372036854775807) (w : World) (ht : TabPow w) : Ret Tryz.prog F.strconv_Itoa #[.int .i64 n] w (fun v w' => v = .string (S (numI n)) ∧ Ext w w') := by
 refine W.strconv_Itoa_ok n w _ ?_
 (delta W.strconv_Itoa c4; dsimp only)
 refine Calls.mono (W.internal_strconv_Itoa_ok n w (fun v w' => v = .string (S (numI n)) ∧ Ext w w') ?_) ?_
 · (delta W.internal_strconv_Itoa c4; dsimp only)
   refine (FormatIntI n h0 h1 w ht).use ?_
   rintro _ w1 ⟨rfl, hx⟩
   exact ⟨_, rfl, rfl, hx⟩
 · rintro _ w1 ⟨_, rfl, rfl, hx⟩
   exact ⟨_, rfl, rfl, hx⟩
theorem FormatUint10 (n : Nat) (hn : n ≤ 18446744073709551615) (w : World) (ht : TabPow w) : Ret Tryz.prog F.strconv_FormatUint #[.int .u64 n, .int .i64 10] w (fun v w' => v = .string (S (numB 10 n)) ∧ Ext w w') := by
 refine W.strconv_FormatUint_ok n 10 w _ ?_
 (delta W.strconv_FormatUint c4; dsimp only)
 refine Calls.mono (W.internal_strconv_FormatUint_ok n 10 w (fun v w' => v = .string (S (numB 10 n)) ∧ Ext w w') ?_) ?_
 rotate_left
 · rintro _ w1 ⟨_, rfl, rfl, hx⟩
   exact ⟨_, rfl, rfl, hx⟩
 (delta W.internal_strconv_FormatUint Nx Br c4 wI z3 c1 c2 nA c6; dsimp only)
 refine ⟨fun _ => ⟨fun h => ?_, fun h => ?_⟩, fun h => by simp at h⟩
 · have h : n < 100 := by simp at h; omega
   rw [wrapi (by omega) (by omega)]
   refine (small n h w).use ?_
   rintro _ w1 ⟨rfl, rfl⟩
   exact ⟨_, rfl, rfl, .refl _ _⟩
 · have h : 100 ≤ n := by simp at h; omega
   have hx1 : Ext w (w.alloc (.cells (bufV 24 (fun _ => 0)) Ty.n24_uint8)) := Chg.alloc (.refl _ _) _
   have hB1 : Buf (w.alloc (.cells (bufV 24 (fun _ => 0)) Ty.n24_uint8)) w.heap.size Ty.n24_uint8 24 (fun _ => 0) := ⟨Blk.new _ _ _⟩
   refine (numDigits n (by omega) (by omega) _ (ht.ext hx1)).use ?_
   rintro _ w2 ⟨k, rfl, hk, rfl⟩
   obtain ⟨g1, g2, g3, g4⟩ := hk
   refine ⟨_, rfl, ⟨by omega, by omega⟩, ?_⟩
   rw [cut0', Int.toNat_natCast, Nat.sub_zero]
   refine (formatBase10 (a := ⟨some ⟨w.heap.size, 0, none⟩, k, 24⟩) (o := 0) (b := w.heap.size) (m := 24) (u := n) rfl (by show k ≤ 100; omega) (by omega) g4 (by show 0 + k ≤ 24; omega) hB1).use ?_
   rintro _ w3 ⟨rfl, f3, hB3, hT3, hc3⟩
   have hx3 : Ext w w3 := Ext.of_new hx1 hc3 (fun q hq => by subst hq; exact Nat.le_refl _)
   refine ⟨rfl, ⟨by omega, by omega⟩, _, w3, conv_byteS (ns := (List.range k).map fun i => f3 (0 + i)) (s := ⟨some ⟨w.heap.size, 0, none⟩, k, 24⟩) (by kernel_rfl) (by kernel_rfl) ?_, ?_, hx3⟩
   · have := hB3.src (o := 0) (n := k) (c := 24) (by omega)
     rw [List.map_map]
     exact this
   · rw [decN_of_tail hT3, IsDigs.numB ⟨g1, g2, g3, g4⟩]
end Go.Proofs.YtgljoledlhmhnaaGreatDoor
namespace Go.Proofs.YtgljoledlhmhnaaGreatDoor
open Go Gx
def I64 (n : Int) : Prop := -9223372036854775808 ≤ n ∧ n ≤ 9223372036854775807
theorem wrapV (n : Int) : IntKind.wrap .i64 n = if 9223372036854775808 ≤ n % 18446744073709551616 then n % 18446744073709551616 - 18446744073709551616 else n % 18446744073709551616 := by
 simp only [IntKind.wrap, IntKind.signed, IntKind.bits]; simp
theorem I64.wrap (n : Int) : I64 (IntKind.wrap .i64 n) := by
 rw [wrapV]
 unfold I64
 constructor <;> split <;> omega
theorem I64.zero : I64 0 := by unfold I64; omega
def AW (v : Value) : Prop := ∃ (m : Int) (e : Value), v = .tuple #[.int .i64 m, e] ∧ (e = .nilIface ∨ ∃ c : Int, e = .iface Ty.strconv_Error (.int .i64 c) ∧ (c = 1 ∨ c = 2)) ∧ I64 m
theorem ParseIntW (l : List UInt8) (hl : l.length ≤ 1000000000000) (w : World) : Ret Tryz.prog F.internal_strconv_ParseInt #[.string (S l), .int .i64 10, .int .i64 0] w (fun v w' => AW v ∧ Ext w w') := by
 refine W.internal_strconv_ParseInt_ok (S l) 10 0 w _ ?_
 (delta W.internal_strconv_ParseInt Br c7 wI; dsimp only)
 rw [S_toList, show ByteArray.toList (ByteArray.mk #[]) = [] from ByteArray.toList_mk []]
 refine ⟨fun _ => ⟨⟨_, _, rfl, .inr ⟨_, rfl, .inr rfl⟩, I64.zero⟩, .refl _ _⟩, fun h => ?_⟩
 have h : l ≠ [] := by simpa using h
 have hpos : 0 < l.length := List.length_pos_iff.2 h
 have hex : (S l).extract (Int.toNat 1) (S l).size = S (l.drop 1) := by
   rw [S_extract, S_size]
   congr 1
   exact List.take_of_length_le (by simp)
 rw [hex, S_size]
 refine Jn2 (fun s b w' => w = w' ∧ ∃ m : List UInt8, s = S m ∧ m.length ≤ l.length) (fun q hq => ⟨by decide, l[0], by rw [S_byteAt]; simp [hpos], fun _ => ⟨⟨by decide, by omega⟩, hq _ _ _ ⟨rfl, _, rfl, by simp⟩⟩, fun _ => ⟨fun _ => ⟨⟨by decide, by omega⟩, hq _ _ _ ⟨rfl, _, rfl, by simp⟩⟩, fun _ => hq _ _ _ ⟨rfl, l, rfl, Nat.le_refl _⟩⟩⟩) ?_
 rintro _ neg _ ⟨rfl, m, rfl, hm⟩
 refine (ParseUint_in m 10 64 (by omega) (.inl rfl) 0 (.inr ⟨rfl, rfl⟩) (by decide) w).use ?_
 rintro v w1 ⟨hv, hx⟩
 have hv' : ∃ (n : Int) (e : Value), v = .tuple #[.int .u64 n, e] ∧ (e = .nilIface ∨ ∃ c : Int, e = .iface Ty.strconv_Error (.int .i64 c) ∧ (c = 1 ∨ c = 2)) := by
   unfold PU at hv
   split at hv
   · exact ⟨_, _, hv, .inl rfl⟩
   · obtain ⟨n, c, h1, h2⟩ := hv
     exact ⟨n, _, h1, .inr ⟨c, rfl, h2⟩⟩
 obtain ⟨n, e, rfl, he⟩ := hv'
 obtain ⟨bn, hbn, hbe⟩ : ∃ bn : Bool, ifaceNil e = some bn ∧ (bn = false → ∃ c : Int, e = .iface Ty.strconv_Error (.int .i64 c) ∧ (c = 1 ∨ c = 2)) := by
   rcases he with rfl | ⟨c, rfl, hc⟩
   · exact ⟨true, rfl, fun h => by cases h⟩
   · exact ⟨false, rfl, fun _ => ⟨c, rfl, hc⟩⟩
 refine ⟨n, e, rfl, bn, hbn, Jn1 (fun b w' => w1 = w') (fun q hq => ⟨fun h => ?_, fun _ => hq _ _ rfl⟩) ?_⟩
 · obtain ⟨c, rfl, hc⟩ := hbe (by simpa using h)
   exact ⟨_, eqErr (.inr rfl) c 1, hq _ _ rfl⟩
 rintro b13 _ rfl
 refine ⟨fun _ => ⟨⟨_, _, rfl, he, I64.zero⟩, hx⟩, fun _ => Jn1 (fun k w' => w1 = w') (fun q hq => ⟨fun _ => hq _ _ rfl, fun _ => hq _ _ rfl⟩) ?_⟩
 rintro k _ rfl
 refine ⟨?_, fun _ => ⟨⟨_, _, rfl, .inr ⟨_, rfl, .inl rfl⟩, I64.wrap _⟩, hx⟩, fun _ => ⟨fun _ => ⟨⟨_, _, rfl, .inr ⟨_, rfl, .inl rfl⟩, I64.wrap _⟩, hx⟩, fun _ => Jn1 (fun k w' => w1 = w' ∧ I64 k) (fun q hq => ⟨fun _ => hq _ _ ⟨rfl, I64.wrap _⟩, fun _ => hq _ _ ⟨rfl, I64.wrap _⟩⟩) ?_⟩⟩
 · rw [wr64m]; omega
 · rintro k _ ⟨rfl, hk⟩
   exact ⟨⟨_, _, rfl, .inl rfl, hk⟩, hx⟩
theorem numB_head (n : Nat) : ∃ c t, numB 10 n = c :: t ∧ c.toNat ≠ 45 ∧ c.toNat ≠ 43 := by
 have hp := numB_length_pos 10 n
 have hd := numB_digit n
 cases h : numB 10 n with
 | nil => rw [h] at hp; simp at hp
 | cons c t =>
   have := hd c (by rw [h]; simp)
   exact ⟨c, t, rfl, by omega, by omega⟩
theorem numI_len (n : Int) (h : I64 n) : (numI n).length ≤ 21 := by
 have := numB_len 10 19 (by omega) n.natAbs (by unfold I64 at h; omega)
 unfold numI
 split <;> simp <;> omega
theorem neg_wrap (k : Nat) (hk : k ≤ 9223372036854775808) : IntKind.wrap .i64 (0 - (IntKind.wrap .i64 (k : Int))) = -(k : Int) := by
 rw [wrapV, wrapV]
 split <;> split <;> omega
theorem numI_head (n : Int) : ∃ c t, numI n = c :: t ∧ (n < 0 → c.toNat = 45 ∧ t = numB 10 n.natAbs) ∧ (¬ n < 0 → c.toNat ≠ 45 ∧ c.toNat ≠ 43 ∧ c :: t = numB 10 n.natAbs) := by
 obtain ⟨c, t, hct, hc1, hc2⟩ := numB_head n.natAbs
 unfold numI
 split
 · rename_i h; exact ⟨45, _, rfl, fun _ => ⟨rfl, rfl⟩, fun h2 => absurd h h2⟩
 · rename_i h; exact ⟨c, t, hct, fun h2 => absurd h2 h, fun _ => ⟨hc1, hc2, hct.symm⟩⟩
theorem ParseIntN (n : Int) (hn : I64 n) (w : World) : Ret Tryz.prog F.internal_strconv_ParseInt #[.string (S (numI n)), .int .i64 10, .int .i64 0] w (fun v w' => v = .tuple #[.int .i64 n, .nilIface] ∧ Ext w w') := by
 unfold I64 at hn
 obtain ⟨c, t, hI, hneg, hpos⟩ := numI_head n
 rw [hI]
 refine W.internal_strconv_ParseInt_ok (S (c :: t)) 10 0 w _ ?_
 (delta W.internal_strconv_ParseInt Br c7 wI; dsimp only)
 rw [S_toList, show ByteArray.toList (ByteArray.mk #[]) = [] from ByteArray.toList_mk []]
 refine ⟨fun h => by simp at h, fun _ => ?_⟩
 have hex : (S (c :: t)).extract (Int.toNat 1) (S (c :: t)).size = S t := by
   rw [S_extract, S_size]
   congr 1
   exact List.take_of_length_le (by simp)
 rw [hex, S_size]
 refine Jn2 (fun s b w' => w = w' ∧ s = S (numB 10 n.natAbs) ∧ b = decide (n < 0)) (fun q hq => ⟨by decide, c, rfl, fun h => ?_, fun _ => ⟨fun h => ?_, fun h => ?_⟩⟩) ?_
 · exfalso
   have h := eq_of_beq h
   by_cases h0 : n < 0
   · have := (hneg h0).1; omega
   · have := (hpos h0).2.1; omega
 · have h := eq_of_beq h
   by_cases h0 : n < 0
   · exact ⟨⟨by decide, by rw [List.length_cons]; omega⟩, hq _ _ _ ⟨rfl, by rw [(hneg h0).2], by rw [decide_eq_true h0]⟩⟩
   · have := (hpos h0).1; omega
 · have h : ((c.toNat : Nat) : Int) ≠ 45 := fun e => by rw [e] at h; simp at h
   by_cases h0 : n < 0
   · have := (hneg h0).1; omega
   · exact hq _ _ _ ⟨rfl, by rw [(hpos h0).2.2], by rw [decide_eq_false h0]⟩
 rintro _ _ _ ⟨rfl, rfl, rfl⟩
 have hlen := numB_len 10 19 (by omega) n.natAbs (by omega)
 refine (ParseUint_in (numB 10 n.natAbs) 10 64 (by omega) (.inl rfl) 0 (.inr ⟨rfl, rfl⟩) (by decide) w).use ?_
 rw [parseB_num 10 (2 ^ 64 - 1) (by omega) (by omega) n.natAbs (by omega)]
 rintro v w1 ⟨hv, hx⟩
 simp only [PU] at hv
 subst hv
 refine ⟨_, _, rfl, true, rfl, Jn1 (fun b w' => b = false ∧ w1 = w') (fun q hq => ⟨fun h => by simp at h, fun _ => hq _ _ ⟨rfl, rfl⟩⟩) ?_⟩
 rintro _ _ ⟨rfl, rfl⟩
 refine ⟨fun h => by simp at h, fun _ => Jn1 (fun k w' => k = 64 ∧ w1 = w') (fun q hq => ⟨fun _ => hq _ _ ⟨rfl, rfl⟩, fun h => by simp at h⟩) ?_⟩
 rintro _ _ ⟨rfl, rfl⟩
 have ec : IntKind.wrap .u64 (1 * 2 ^ (min (Int.toNat (IntKind.wrap .u64 (IntKind.wrap .i64 (64 - 1)))) 64)) = 9223372036854775808 := by decide +kernel
 rw [ec]
 refine ⟨by decide +kernel, fun h => ?_, fun _ => ⟨fun h => ?_, fun _ => Jn1 (fun k w' => k = n ∧ w1 = w') (fun q hq => ⟨fun h => hq _ _ ⟨?_, rfl⟩, fun h => hq _ _ ⟨?_, rfl⟩⟩) ?_⟩⟩
 · exfalso
   simp only [Bool.and_eq_true, Bool.not_eq_true', decide_eq_false_iff_not, decide_eq_true_eq] at h; omega
 · exfalso
   simp only [Bool.and_eq_true, decide_eq_true_eq] at h; omega
 · have h := of_decide_eq_true h
   rw [neg_wrap _ (by omega)]; omega
 · have h := of_decide_eq_false h
   rw [wrapi (by omega) (by omega)]; omega
 · rintro _ _ ⟨rfl, rfl⟩
   exact ⟨rfl, hx⟩
theorem Atoi_inW (l : List UInt8) (hl : l.length ≤ 1000000000000) (w : World) : Ret Tryz.prog F.internal_strconv_Atoi #[.string (S l)] w (fun v w' => AW v ∧ Ext w w') := by
 refine W.internal_strconv_Atoi_ok (S l) w _ ?_
 (delta W.internal_strconv_Atoi Br bd r4 wI c3; dsimp only)
 rw [S_size]
 refine ⟨fun h => ?_, fun h => ?_⟩
 · have hlen : 0 < l.length ∧ l.length < 19 := by
     simp at h; omega
   have hex : (S l).extract (Int.toNat 1) l.length = S (l.drop 1) := by
     rw [S_extract]
     congr 1
     exact List.take_of_length_le (by simp)
   rw [hex]
   have h0 : byteAt (S l) (Int.toNat 0) = some l[0] := by rw [S_byteAt]; simp [hlen.1]
   refine Jn1 (fun s w' => w = w' ∧ ∃ m : List UInt8, s = S m ∧ m.length ≤ l.length) (fun q hq => ⟨by decide, l[0], h0, Jn1 (fun b w' => w = w') (fun q2 hq2 => ⟨fun h => hq2 _ _ rfl, fun _ => ⟨by decide, l[0], h0, hq2 _ _ rfl⟩⟩) ?_⟩) ?_
   · rintro b _ rfl
     exact ⟨fun h => ⟨⟨by decide, by omega⟩, fun _ => ⟨⟨0, _, rfl, .inr ⟨_, rfl, .inr rfl⟩, I64.zero⟩, .refl _ _⟩, fun _ => hq _ _ ⟨rfl, _, rfl, by simp⟩⟩, fun _ => hq _ _ ⟨rfl, l, rfl, Nat.le_refl _⟩⟩
   rintro _ _ ⟨rfl, m, rfl, hm⟩
   obtain ⟨s, w2, hrun, hsl, hsrc, hx⟩ := conv_strB (src := Ty.string) (dst := Ty.Sl_uint8) (w := w) m (by kernel_rfl) (by kernel_rfl)
   refine ⟨s, w2, hrun, fun n i w' => w2 = w' ∧ I64 n ∧ ∃ j : Nat, i = j ∧ j ≤ m.length, fun _ i _ => (m.length - i).toNat, ⟨rfl, I64.zero, 0, rfl, Nat.zero_le _⟩, ?_⟩
   rintro n _ _ ⟨rfl, hn, j, rfl, hj⟩
   refine ⟨fun hlt => ?_, fun hge => ?_⟩
   · have hlt : j < m.length := by have := of_decide_eq_true hlt; omega
     obtain ⟨A, hA, hb1, hcell⟩ := hsrc.at (u8s_get hlt)
     refine ⟨A, hA, hb1, _, hcell, fun h => ⟨⟨0, _, rfl, .inr ⟨_, rfl, .inr rfl⟩, I64.zero⟩, hx⟩, fun h => ?_⟩
     refine ⟨⟨rfl, I64.wrap _, j + 1, by rw [wrapi (by omega) (by omega)]; omega, by omega⟩, ?_⟩
     rw [wrapi (n := (j : Int) + 1) (by omega) (by omega)]
     show ((m.length : Int) - ((j : Int) + 1)).toNat < ((m.length : Int) - (j : Int)).toNat
     omega
   · refine Jn1 (fun k w' => w2 = w' ∧ I64 k) (fun q hq => ⟨by decide, l[0], h0, fun h => hq _ _ ⟨rfl, I64.wrap _⟩, fun _ => hq _ _ ⟨rfl, hn⟩⟩) ?_
     rintro k _ ⟨rfl, hk⟩
     exact ⟨⟨k, _, rfl, .inl rfl, hk⟩, hx⟩
 · refine (ParseIntW l hl w).use ?_
   rintro _ w1 ⟨⟨m, e, rfl, he, hm⟩, hx⟩
   exact ⟨m, e, rfl, ⟨m, e, rfl, he, hm⟩, hx⟩
theorem numB_pow : ∀ n : Nat, n < 10 ^ (numB 10 n).length := by
 intro n
 induction n using Nat.strongRecOn with
 | ind n ih =>
   by_cases h : n < 10
   · rw [numB_lt h]; simpa using h
   · rw [numB_ge (by omega) (by omega), List.length_append]
     have := ih (n / 10) (by omega)
     show n < 10 ^ ((numB 10 (n / 10)).length + 1)
     rw [Nat.pow_succ]
     omega
theorem Atoi_inN (n : Int) (hn : I64 n) (w : World) : Ret Tryz.prog F.internal_strconv_Atoi #[.string (S (numI n))] w (fun v w' => v = .tuple #[.int .i64 n, .nilIface] ∧ Ext w w') := by
 refine W.internal_strconv_Atoi_ok (S (numI n)) w _ ?_
 (delta W.internal_strconv_Atoi Br bd r4 wI c3; dsimp only)
 rw [S_size]
 refine ⟨fun h => ?_, fun h => ?_⟩
 rotate_left
 · refine (ParseIntN n hn w).use ?_
   rintro _ w1 ⟨rfl, hx⟩
   exact ⟨_, _, rfl, rfl, hx⟩
 have hlen : (numI n).length < 19 := by simp at h; omega
 have hsm : n.natAbs < 1000000000000000000 := by
   have h1 := numB_pow n.natAbs
   have h2 : (numB 10 n.natAbs).length ≤ 18 := by
     unfold numI at hlen
     split at hlen
     · simp at hlen; omega
     · omega
   exact Nat.lt_of_lt_of_le h1 (Nat.pow_le_pow_right (by omega) h2)
 have hmp := numB_length_pos 10 n.natAbs
 have hml := numB_len 10 17 (by omega) n.natAbs (by simpa using hsm)
 obtain ⟨c, t, hI, hneg, hpos⟩ := numI_head n
 rw [hI]
 have hex : (S (c :: t)).extract (Int.toNat 1) (c :: t).length = S t := by
   rw [S_extract]
   congr 1
   exact List.take_of_length_le (by simp)
 rw [hex]
 refine Jn1 (fun s w' => w = w' ∧ s = S (numB 10 n.natAbs)) (fun q hq => ⟨by decide, c, rfl, Jn1 (fun b w' => w = w' ∧ b = decide (n < 0)) (fun q2 hq2 => ⟨fun h => hq2 _ _ ⟨rfl, ?_⟩, fun h => ⟨by decide, c, rfl, hq2 _ _ ⟨rfl, ?_⟩⟩⟩) ?_⟩) ?_
 · have h := eq_of_beq h
   by_cases h0 : n < 0
   · rw [decide_eq_true h0]
   · have := (hpos h0).1; omega
 · have h : ((c.toNat : Nat) : Int) ≠ 45 := fun e => by rw [e] at h; simp at h
   by_cases h0 : n < 0
   · have := (hneg h0).1; omega
   · have := (hpos h0).2.1
     rw [decide_eq_false h0, beq_eq_false_iff_ne]; omega
 · rintro _ _ ⟨rfl, rfl⟩
   refine ⟨fun h => ⟨⟨by decide, by rw [List.length_cons]; omega⟩, fun h1 => ?_, fun _ => hq _ _ ⟨rfl, by rw [(hneg (of_decide_eq_true h)).2]⟩⟩, fun h => hq _ _ ⟨rfl, by rw [(hpos (of_decide_eq_false h)).2.2]⟩⟩
   exfalso
   have h1 := of_decide_eq_true h1
   rw [(hneg (of_decide_eq_true h)).2, S_size] at h1
   omega
 rintro _ _ ⟨rfl, rfl⟩
 obtain ⟨s, w2, hrun, hsl, hsrc, hx⟩ := conv_strB (src := Ty.string) (dst := Ty.Sl_uint8) (w := w) (numB 10 n.natAbs) (by kernel_rfl) (by kernel_rfl)
 have hfold := aFold_num n.natAbs hsm
 obtain ⟨m, hm⟩ : ∃ m, m = numB 10 n.natAbs := ⟨_, rfl⟩
 rw [← hm] at hrun hsl hsrc hfold hmp hml ⊢
 refine ⟨s, w2, hrun, fun k i w' => w2 = w' ∧ ∃ j : Nat, i = j ∧ j ≤ m.length ∧ aFold k (m.drop j) = some (n.natAbs : Int), fun _ i _ => (m.length - i).toNat, ⟨rfl, 0, rfl, Nat.zero_le _, hfold⟩, ?_⟩
 rintro k _ _ ⟨rfl, j, rfl, hj, hF⟩
 refine ⟨fun hlt => ?_, fun hge => ?_⟩
 · have hlt : j < m.length := by have := of_decide_eq_true hlt; omega
   obtain ⟨A, hA, hb1, hcell⟩ := hsrc.at (u8s_get hlt)
   rw [List.drop_eq_getElem_cons hlt] at hF
   simp only [aFold] at hF
   refine ⟨A, hA, hb1, _, hcell, fun h => ?_, fun h => ?_⟩
   · rw [if_pos (of_decide_eq_true h)] at hF; cases hF
   · rw [if_neg (of_decide_eq_false h)] at hF
     refine ⟨⟨rfl, j + 1, by rw [wrapi (by omega) (by omega)]; omega, by omega, hF⟩, ?_⟩
     rw [wrapi (n := (j : Int) + 1) (by omega) (by omega)]
     show ((m.length : Int) - ((j : Int) + 1)).toNat < ((m.length : Int) - (j : Int)).toNat
     omega
 · have hge : j = m.length := by have := of_decide_eq_false hge; omega
   subst hge
   rw [List.drop_length] at hF
   simp only [aFold, Option.some.injEq] at hF
   subst hF
   refine Jn1 (fun k w' => w2 = w' ∧ k = n) (fun q hq => ⟨by decide, c, rfl, fun h => hq _ _ ⟨rfl, ?_⟩, fun h => hq _ _ ⟨rfl, ?_⟩⟩) ?_
   · have h := eq_of_beq h
     by_cases h0 : n < 0
     · rw [wrapi (by omega) (by omega)]; omega
     · have := (hpos h0).1; omega
   · have h : ((c.toNat : Nat) : Int) ≠ 45 := fun e => by rw [e] at h; simp at h
     by_cases h0 : n < 0
     · have := (hneg h0).1; omega
     · omega
   · rintro _ _ ⟨rfl, rfl⟩
     exact ⟨rfl, hx⟩
theorem numB_inj {a b : Nat} (h : numB 10 a = numB 10 b) : a = b := by
 have h1 := parseB_num 10 (a + b) (by omega) (by omega) a (by omega)
 have h2 := parseB_num 10 (a + b) (by omega) (by omega) b (by omega)
 rw [h, h2] at h1
 exact (Option.some.inj h1).symm
theorem numI_inj {a b : Int} (h : numI a = numI b) : a = b := by
 obtain ⟨c, t, e1, n1, p1⟩ := numI_head a
 obtain ⟨d, u, e2, n2, p2⟩ := numI_head b
 rw [e1, e2] at h
 obtain ⟨rfl, rfl⟩ := List.cons.inj h
 by_cases ha : a < 0
 · by_cases hb : b < 0
   · have := numB_inj ((n1 ha).2.symm.trans (n2 hb).2)
     omega
   · exact absurd (n1 ha).1 (p2 hb).1
 · by_cases hb : b < 0
   · exact absurd (n2 hb).1 (p1 ha).1
   · have := numB_inj ((p1 ha).2.2.symm.trans (p2 hb).2.2)
     omega
theorem AtoiI (l : List UInt8) (hl : l.length ≤ 1000000000000) (w : World) (he : Errs w) : Ret Tryz.prog F.strconv_Atoi #[.string (S l)] w
   (fun v w' => (∃ (m : Int) (e : Value), v = .tuple #[.int .i64 m, e] ∧ (e = .nilIface ∨ ∃ t x, e = .iface t x) ∧ I64 m ∧ ∀ n : Int, I64 n → l = numI n → m = n ∧ e = .nilIface) ∧ Ext w w') := by
 refine W.strconv_Atoi_ok (S l) w _ ?_
 (delta W.strconv_Atoi c3 Br c8; dsimp only)
 by_cases hc : ∃ n : Int, I64 n ∧ l = numI n
 · obtain ⟨n, hn, rfl⟩ := hc
   refine (Atoi_inN n hn w).use ?_
   rintro _ w1 ⟨rfl, hx⟩
   refine ⟨_, _, rfl, true, rfl, fun h => by simp at h, fun _ => ⟨⟨n, _, rfl, .inl rfl, hn, fun k _ e => ⟨numI_inj e, rfl⟩⟩, hx⟩⟩
 · refine (Atoi_inW l hl w).use ?_
   rintro _ w1 ⟨⟨m, e, rfl, h1, hm⟩, hx⟩
   refine ⟨m, e, rfl, ?_⟩
   rcases h1 with rfl | ⟨c, rfl, hcc⟩
   · exact ⟨true, rfl, fun h => by simp at h, fun _ => ⟨⟨m, _, rfl, .inl rfl, hm, fun k hk e => absurd ⟨k, hk, e⟩ hc⟩, hx⟩⟩
   · refine ⟨false, rfl, fun _ => ?_, fun h => by simp at h⟩
     refine (toError _ l hl 0 0 c hcc w1 (he.ext hx)).use ?_
     rintro _ w2 ⟨⟨t, x, rfl⟩, hx2⟩
     exact ⟨_, rfl, ⟨m, _, rfl, .inr ⟨_, _, rfl⟩, hm, fun k hk e => absurd ⟨k, hk, e⟩ hc⟩, hx.trans hx2⟩
end Go.Proofs.YtgljoledlhmhnaaGreatDoor
namespace Go.Proofs.YtgljoledlhmhnaaGreatDoor
open Go Gx
structure Ad where
 six : Bool
 b : List UInt8
 h : b.length = 16
 deriving DecidableEq
def Ad.c (a : Ad) : List Value := .bool a.six :: u8s a.b
theorem Ad.ext' {a b : Ad} (h1 : a.six = b.six) (h2 : a.b = b.b) : a = b := by
 cases a; cases b; simp_all
theorem Ad.c_length (a : Ad) : a.c.length = 17 := by simp [Ad.c, u8s_length, a.h]
theorem u8s_inj : ∀ {a b : List UInt8}, u8s a = u8s b → a = b
 | [], [], _ => rfl
 | [], _ :: _, h => by simp [u8s] at h
 | _ :: _, [], h => by simp [u8s] at h
 | x :: a, y :: b, h => by
   simp only [u8s, List.map_cons, List.cons.injEq, Value.int.injEq, true_and] at h
   have h1 : x = y := by
     have : x.toNat = y.toNat := by exact_mod_cast h.1
     exact UInt8.toNat_inj.1 this
   rw [h1, u8s_inj (a := a) (b := b) h.2]
theorem Ad.c_inj {a b : Ad} (h : a.c = b.c) : a = b := by
 simp only [Ad.c, List.cons.injEq, Value.bool.injEq] at h
 exact Ad.ext' h.1 (u8s_inj h.2)
def zeros (n : Nat) : List UInt8 := List.replicate n 0
def Ad.zero : Ad := ⟨false, zeros 16, by simp [zeros]⟩
theorem list16 {α : Type} : ∀ (l : List α), l.length = 16 → ∃ x0 x1 x2 x3 x4 x5 x6 x7 x8 x9 x10 x11 x12 x13 x14 x15, l = [x0, x1, x2, x3, x4, x5, x6, x7, x8, x9, x10, x11, x12, x13, x14, x15]
 | [x0, x1, x2, x3, x4, x5, x6, x7, x8, x9, x10, x11, x12, x13, x14, x15], _ => ⟨x0, x1, x2, x3, x4, x5, x6, x7, x8, x9, x10, x11, x12, x13, x14, x15, rfl⟩
def bytesL (n : Nat) : List Lf := List.replicate n (.int .u8)
theorem okCs_u8s : ∀ (l : List UInt8), okCs (bytesL l.length) (u8s l)
 | [] => rfl
 | _ :: l => ⟨_, _, rfl, ⟨_, rfl⟩, okCs_u8s l⟩
theorem Ad.okCs (a : Ad) : Gx.okCs (.bool :: bytesL 16) a.c := ⟨_, _, rfl, ⟨_, rfl⟩, by have := okCs_u8s a.b; rwa [a.h] at this⟩
theorem eqAd (a b : Ad) : AggEq Tryz.prog Ty.api_Addr a.c.toArray b.c.toArray (decide (a = b)) := by
 have h := AggEq.flat (P := Tryz.prog) (T := Ty.api_Addr) (d := (Tryz.prog.underlying Ty.api_Addr).get (by kernel_rfl)) (ls := .bool :: bytesL 16) (Option.some_get _).symm (by kernel_rfl) (by kernel_rfl) (by kernel_rfl) a.okCs b.okCs
 have e : eqVs a.c b.c = decide (a = b) := by
   rw [Bool.eq_iff_iff, eqVs_iff a.okCs b.okCs, decide_eq_true_eq]
   exact ⟨Ad.c_inj, fun h => by rw [h]⟩
 rwa [e] at h
theorem eq12 (a b : List UInt8) (ha : a.length = 12) (hb : b.length = 12) : AggEq Tryz.prog Ty.n12_uint8 (u8s a).toArray (u8s b).toArray (decide (a = b)) := by
 have o1 := okCs_u8s a
 have o2 := okCs_u8s b
 rw [ha] at o1; rw [hb] at o2
 have h := AggEq.flat (P := Tryz.prog) (T := Ty.n12_uint8) (d := (Tryz.prog.underlying Ty.n12_uint8).get (by kernel_rfl)) (ls := bytesL 12) (Option.some_get _).symm (by kernel_rfl) (by kernel_rfl) (by kernel_rfl) o1 o2
 have e : eqVs (u8s a) (u8s b) = decide (a = b) := by
   rw [Bool.eq_iff_iff, eqVs_iff o1 o2, decide_eq_true_eq]
   exact ⟨u8s_inj, fun h => by rw [h]⟩
 rwa [e] at h
theorem mkAd0 (w : World) : Sem.run Tryz.prog (Instr.build Ty.api_Addr #[]) w = .ok (.agg Ad.zero.c.toArray) w := by kernel_rfl
theorem mk12 (w : World) : Sem.run Tryz.prog (Instr.build Ty.n12_uint8 #[]) w = .ok (.agg (u8s (zeros 12)).toArray) w := by kernel_rfl
theorem mkAd (w : World) (six : Bool) (b : List UInt8) (h : b.length = 16) : Sem.run Tryz.prog (Instr.build Ty.api_Addr #[(0, .bool six), (1, .agg (u8s b).toArray)]) w = .ok (.agg (Ad.mk six b h).c.toArray) w := by
 obtain ⟨x0, x1, x2, x3, x4, x5, x6, x7, x8, x9, x10, x11, x12, x13, x14, x15, rfl⟩ := list16 b h
 kernel_rfl
def Var (w : World) (b : Nat) (vs : List Value) (T : TypeId) : Prop := Blk w b vs.toArray T
section
variable {w w' : World} {b : Nat} {vs us : List Value} {T : TypeId}
theorem Var.new (w : World) (vs : List Value) (T : TypeId) : Var (w.alloc (.cells vs.toArray T)) w.heap.size vs T := Blk.new _ _ _
theorem Var.rd (h : Var w b vs T) {n : Nat} (hn : vs.length = n) : rdCells w ⟨b, 0, none⟩ 0 n = some vs := by
 have := rdCells_blk h n 0 0 (by simp [hn])
 rw [this]
 simp [← hn]
theorem Var.rdAt (h : Var w b vs T) {o n : Nat} (hn : o + n ≤ vs.length) : rdCells w ⟨b, o, none⟩ 0 n = some ((vs.drop o).take n) := by
 have := rdCells_blk h n o 0 (by simpa using hn)
 rw [this]
 simp
theorem Var.cell (h : Var w b vs T) {i : Nat} : w.cell? ⟨b, i, none⟩ = vs[i]? := by
 rw [Blk.cell h]; simp
theorem Var.ext (h : Var w b vs T) (hx : Ext w w') : Var w' b vs T := Blk.ext h hx
theorem Var.chg {W : Nat → Prop} (h : Var w b vs T) (hx : Chg W w w') (hb : ¬ W b) : Var w' b vs T := Blk.chg h hx hb
theorem Var.drew (h : Var w b vs T) : Var w.drew b vs T := Blk.drew h
theorem Var.lt (h : Var w b vs T) : b < w.heap.size := Blk.lt h
theorem Var.storeOk (h : Var w b vs T) (hn : us.length = vs.length) (hp : ∀ v ∈ us, Plain v) : StoreOk w ⟨b, 0, none⟩ us := Blk.storeOk h 0 us (by simp [hn]) hp
theorem Var.put (h : Var w b vs T) (hn : us.length = vs.length) : Var (setCells w ⟨b, 0, none⟩ 0 us) b us T := by
 have := Blk.sets us 0 0 h
 simp only [Nat.add_zero] at this
 have e : (spl vs.toArray 0 us) = us.toArray := by
   have h1 := take_spl us vs.toArray 0 (by simp [hn])
   rw [Nat.zero_add, hn, List.take_zero, List.nil_append, List.take_of_length_le (by rw [Array.length_toList, spl_size]; simp)] at h1
   apply Array.toList_inj.1
   rw [h1]
 rwa [e] at this
end
theorem Ad.plain (a : Ad) : ∀ v ∈ a.c, Plain v := by
 intro v hv
 rcases List.mem_cons.1 hv with rfl | hv
 · trivial
 · exact u8s_plain _ v hv
theorem Ext.put {w0 w : World} {b : Nat} {us : List Value} (h : Ext w0 w) (hb : w0.heap.size ≤ b) : Ext w0 (setCells w ⟨b, 0, none⟩ 0 us) :=
 Ext.of_new h (Chg.setsB (.refl _ _) us 0) (fun k hk => by subst hk; exact hb)
theorem nx {w : World} {K : World → Prop} (h : K w) : Nx w K := h
theorem nxVar {w : World} {c : Array Value} {vs : List Value} {T : TypeId} (hc : c = vs.toArray) {K : World → Prop} (h : ∀ w', Var w' w.heap.size vs T → Ext w w' → w'.heap.size = w.heap.size + 1 → K w') : Nx (w.alloc (.cells c T)) K := by
 subst hc
 exact h _ (Var.new _ _ _) (Chg.alloc (.refl _ _) _) (by simp)
theorem nxPut {w : World} {b : Nat} {vs us l : List Value} {T : TypeId} (hv : Var w b vs T) (hn : us.length = vs.length) (hl : l = us) {K : World → Prop} (h : ∀ w', Var w' b us T → Chg (fun q => q = b) w w' → w'.heap.size = w.heap.size → K w') : Nx (setCells w ⟨b, 0, none⟩ 0 l) K := by
 subst hl
 refine h _ (hv.put hn) (Chg.setsB (.refl _ _) l 0) ?_
 have : ∀ (vs : List Value) (i : Nat) (w : World), (setCells w ⟨b, 0, none⟩ i vs).heap.size = w.heap.size := by
   intro vs
   induction vs with
   | nil => intro i w; rfl
   | cons v vs ih => intro i w; rw [setCells, ih]; simp [World.setCell]
 exact this _ _ _
theorem Ext.of_chg {w0 w w' : World} {b : Nat} (h : Ext w0 w) (hc : Chg (fun q => q = b) w w') (hb : w0.heap.size ≤ b) : Ext w0 w' := Ext.of_new h hc (fun k hk => by subst hk; exact hb)
def Ad.raw (a : Ad) : List UInt8 := if a.six then a.b else a.b.drop 12
theorem Ad.raw_length (a : Ad) : a.raw.length = if a.six then 16 else 4 := by
 unfold Ad.raw; split
 · exact a.h
 · simp [a.h]
def Ad.good (a : Ad) : Bool := a.six || decide (a.b.take 12 = zeros 12)
theorem Var.src8 {w : World} {b o n c : Nat} {vs : List Value} {T : TypeId} {l : List UInt8} (h : Var w b vs T) (hn : o + n ≤ vs.length) (hl : (vs.drop o).take n = u8s l) : Src 1 w ⟨some ⟨b, o, none⟩, n, c⟩ (u8s l) := by
 have hlen : n = l.length := by
   have := congrArg List.length hl
   rw [List.length_take, List.length_drop, u8s_length] at this
   omega
 refine ⟨by rw [u8s_length]; show _ = n * 1; omega, (fun h => by cases h), fun a ha => ?_⟩
 cases ha
 show rdCells w ⟨b, o, none⟩ 0 (n * 1) = _
 rw [Nat.mul_one, h.rdAt hn, hl]
theorem addr_raw (a : Ad) (w : World) : Ret Tryz.prog F.addr_raw #[.agg a.c.toArray] w (fun v w' => ∃ s : Sl, v = .slice s.a s.len s.cap ∧ s.len = a.raw.length ∧ s.cap = s.len ∧ Src 1 w' s (u8s a.raw) ∧ Ext w w') := by
 refine W.addr_raw_ok _ w _ ?_
 (delta W.addr_raw Nx r8 nA Br; dsimp only)
 have hv := Var.new w a.c Ty.api_Addr
 have hx : Ext w (w.alloc (.cells a.c.toArray Ty.api_Addr)) := Chg.alloc (.refl _ _) _
 refine ⟨a.six, hv.cell, fun h => ?_, fun h => ⟨⟨by decide, by decide⟩, ?_⟩⟩
 · have hr : a.raw = a.b := by simp [Ad.raw, h]
   have e : cutA (some (Addr.add ⟨w.heap.size, 0, none⟩ 1)) 1 0 16 = some ⟨w.heap.size, 1, none⟩ := by rw [add_mk, cut_some (by decide)]
   refine ⟨⟨some ⟨w.heap.size, 1, none⟩, 16, 16⟩, by rw [e], by rw [hr, a.h], rfl, hv.src8 (by rw [a.c_length]; decide) ?_, hx⟩
   rw [hr]
   simp [Ad.c, List.take_of_length_le, u8s_length, a.h]
 · have hr : a.raw = a.b.drop 12 := by simp [Ad.raw, h]
   have e : cutA (some (Addr.add ⟨w.heap.size, 0, none⟩ 1)) 1 (Int.toNat 12) 16 = some ⟨w.heap.size, 13, none⟩ := by
     rw [add_mk, show Int.toNat 12 = 12 from rfl, cut_some (by decide)]
   refine ⟨⟨some ⟨w.heap.size, 13, none⟩, 4, 4⟩, by rw [e]; rfl, by rw [hr]; simp [a.h], rfl, hv.src8 (by rw [a.c_length]; decide) ?_, hx⟩
   rw [hr]
   simp [Ad.c, u8s, List.take_of_length_le, a.h, List.map_drop]
theorem appByte : AppT Tryz.prog Ty.Sl_uint8 Ty.uint8 1 1 := ⟨by kernel_rfl⟩
theorem run_copy_sl {dT sT ty : TypeId} {w : World} {b o dl dc : Nat} {s : Sl} {l : List UInt8} (hu : Tryz.prog.underlying dT = some (.slice Ty.uint8)) (hs : Src 1 w s (u8s l)) (hle : s.len ≤ dl) (hst : StoreOk w ⟨b, o, none⟩ (u8s l)) :
   Sem.run Tryz.prog (Builtin.copy_ #[dT, sT] ty #[.slice (some ⟨b, o, none⟩) dl dc, .slice s.a s.len s.cap]) w = .ok (.int .i64 ((s.len : Nat) : Int)) (setCells w ⟨b, o, none⟩ 0 (u8s l)) := by
 have hmin : Nat.min s.len dl = s.len := Nat.min_eq_left hle
 have hz := run_sizeOf' (P := Tryz.prog) (w := w) (t := Ty.uint8) (d := .int .u8) (by kernel_rfl)
 have hc : Tryz.prog.cellsOf Ty.uint8 = 1 := by kernel_rfl
 rw [hc] at hz
 have hf := run_firstCells (P := Tryz.prog) hs
 have hst' := run_storeCells (P := Tryz.prog) (A := ⟨b, o, none⟩) (u8s l) 0 w (by simpa using hst.1) hst.2
 simp [Builtin.copy_, run_underlying' hu, Builtin.lenOf, hz, hmin, hf, hst']
 rfl
def ad4 (l : List UInt8) (h : l.length = 4) : Ad := ⟨false, zeros 12 ++ l, by simp [zeros, h]⟩
theorem addr_last {s : Sl} {l : List UInt8} {w : World} (hs : Src 1 w s (u8s l)) (hl : l.length = 4) : Ret Tryz.prog F.addr_last #[.slice s.a s.len s.cap] w (fun v w' => v = .agg (ad4 l hl).c.toArray ∧ Ext w w') := by
 refine W.addr_last_ok s w _ ?_
 delta W.addr_last Nx z6 nA T26
 have hsl : s.len = 4 := by have := hs.len; rw [u8s_length] at this; omega
 have hv := Var.new w Ad.zero.c Ty.api_Addr
 have hx : Ext w (w.alloc (.cells Ad.zero.c.toArray Ty.api_Addr)) := Chg.alloc (.refl _ _) _
 have e : cutA (some (Addr.add ⟨w.heap.size, 0, none⟩ 1)) 1 (Int.toNat 12) 16 = some ⟨w.heap.size, 13, none⟩ := by
   rw [add_mk, show Int.toNat 12 = 12 from rfl, cut_some (by decide)]
 have hs1 := hs.ext hx
 have hst := Blk.storeOk hv 13 (u8s l) (by rw [u8s_length, hl]; simp [Ad.c_length]) (u8s_plain l)
 have hB := Blk.sets (u8s l) 13 0 hv
 have hcont : spl Ad.zero.c.toArray (13 + 0) (u8s l) = (ad4 l hl).c.toArray := by
   have h1 := take_spl (u8s l) Ad.zero.c.toArray 13 (by rw [u8s_length, hl]; simp [Ad.c_length])
   rw [List.take_of_length_le (by rw [Array.length_toList, spl_size, u8s_length, hl]; simp [Ad.c_length])] at h1
   apply Array.toList_inj.1
   rw [Nat.add_zero, h1]
   have h2 : (ad4 l hl).c = (.bool false :: u8s (zeros 12)) ++ u8s l := by
     show Value.bool false :: u8s (zeros 12 ++ l) = _
     rw [u8s_append]; rfl
   rw [h2]
   congr 1
 rw [hcont] at hB
 refine ⟨⟨by decide, by decide⟩, ((s.len : Nat) : Int), setCells (w.alloc (.cells Ad.zero.c.toArray Ty.api_Addr)) ⟨w.heap.size, 13, none⟩ 0 (u8s l), ?_, ?_⟩
 · rw [e]
   exact run_copy_sl (by kernel_rfl) hs1 (by show s.len ≤ 4; omega) hst
 · have hv2 : Var (setCells (w.alloc (.cells Ad.zero.c.toArray Ty.api_Addr)) ⟨w.heap.size, 13, none⟩ 0 (u8s l)) w.heap.size (ad4 l hl).c Ty.api_Addr := hB
   have hx2 : Ext w (setCells (w.alloc (.cells Ad.zero.c.toArray Ty.api_Addr)) ⟨w.heap.size, 13, none⟩ 0 (u8s l)) := Ext.of_new hx (Chg.setsB (.refl _ _) (u8s l) 0) (fun k hk => by subst hk; exact Nat.le_refl _)
   have hv3 := hv2.put (us := (ad4 l hl).c) rfl
   exact ⟨_, hv2.rd (Ad.c_length _), hv2.storeOk rfl (Ad.plain _), by simp [Ad.c_length], _, hv3.rd (Ad.c_length _), rfl, Ext.put hx2 (Nat.le_refl _)⟩
def ofB (l : List UInt8) : Option Ad := if h : l.length = 4 then some (ad4 l h) else if h : l.length = 16 then some ⟨true, l, h⟩ else none
theorem addr_of {s : Sl} {l : List UInt8} {w : World} (hs : Src 1 w s (u8s l)) : Ret Tryz.prog F.addr_of #[.slice s.a s.len s.cap] w (fun v w' => v = .tuple #[.agg ((ofB l).getD Ad.zero).c.toArray, .bool (ofB l).isSome] ∧ Ext w w') := by
 refine W.addr_of_ok s w _ ?_
 (delta W.addr_of Nx z6 Br c15 c4 T27 nA c9 c12; dsimp only)
 have hsl : s.len = l.length := by have := hs.len; rw [u8s_length] at this; omega
 have hv := Var.new w Ad.zero.c Ty.api_Addr
 have hx : Ext w (w.alloc (.cells Ad.zero.c.toArray Ty.api_Addr)) := Chg.alloc (.refl _ _) _
 have hs1 := hs.ext hx
 unfold ofB
 refine ⟨fun h => ?_, fun h => ⟨fun h2 => ?_, fun h2 => ?_⟩⟩
 · have h4 : l.length = 4 := by have := eq_of_beq h; omega
   rw [dif_pos h4]
   refine (addr_last hs1 h4).use ?_
   rintro _ w2 ⟨rfl, hx2⟩
   have hv2 := hv.ext hx2
   have hv3 := hv2.put (us := (ad4 l h4).c) (by simp [Ad.c_length])
   exact ⟨_, rfl, hv2.storeOk (by simp [Ad.c_length]) (Ad.plain _), by simp [Ad.c_length], _, hv3.rd (Ad.c_length _), rfl, Ext.put (hx.trans hx2) (Nat.le_refl _)⟩
 · have h4 : l.length ≠ 4 := by have := ne_of_beq_false h; omega
   have h16 : l.length = 16 := by have := eq_of_beq h2; omega
   rw [dif_neg h4, dif_pos h16]
   obtain ⟨A, hA⟩ : ∃ A, s.a = some A := by
     cases ha : s.a with
     | some A => exact ⟨A, rfl⟩
     | none => have := hs.nil ha; rw [show l = [] from u8s_inj (by simpa [u8s] using this)] at h16; simp at h16
   have hrd := hs1.rd A hA
   rw [hsl, h16] at hrd
   have hv3 := hv.put (us := (Ad.mk true l h16).c) (by simp [Ad.c_length])
   refine ⟨by omega, A, hA, _, hrd, _, mkAd _ true l h16, hv.storeOk (by simp [Ad.c_length]) (Ad.plain _), by simp [Ad.c_length], _, hv3.rd (Ad.c_length _), rfl, Ext.put hx (Nat.le_refl _)⟩
 · have h4 : l.length ≠ 4 := by have := ne_of_beq_false h; omega
   have h16 : l.length ≠ 16 := by have := ne_of_beq_false h2; omega
   rw [dif_neg h4, dif_neg h16]
   have hv3 := hv.put (us := Ad.zero.c) rfl
   exact ⟨_, mkAd0 _, hv.storeOk rfl (Ad.plain _), rfl, _, hv3.rd (Ad.c_length _), rfl, Ext.put hx (Nat.le_refl _)⟩
theorem addr_good (a : Ad) (w : World) : Ret Tryz.prog F.addr_good #[.agg a.c.toArray] w (fun v w' => v = .bool a.good ∧ Ext w w') := by
 refine W.addr_good_ok _ w _ ?_
 (delta W.addr_good Nx r8 nA Br c6; dsimp only)
 have hv := Var.new w a.c Ty.api_Addr
 have hx : Ext w (w.alloc (.cells a.c.toArray Ty.api_Addr)) := Chg.alloc (.refl _ _) _
 have e : cutA (some (Addr.add ⟨w.heap.size, 0, none⟩ 1)) 1 0 16 = some ⟨w.heap.size, 1, none⟩ := by rw [add_mk, cut_some (by decide)]
 refine ⟨a.six, hv.cell, Jn1 (fun b w1 => b = a.good ∧ Ext w w1) (fun q hq => ⟨fun h => hq _ _ ⟨by simp [Ad.good, h], hx⟩, fun h => ⟨⟨by decide, by decide⟩, by decide, _, e, (u8s (a.b.take 12)), ?_, _, mk12 _, _, eq12 _ _ (by simp [a.h]) (by simp [zeros]), hq _ _ ⟨by simp [Ad.good, h], hx⟩⟩⟩) ?_⟩
 · rw [hv.rdAt (by rw [a.c_length]; decide)]
   simp [Ad.c, u8s, List.map_take]
 · rintro _ w1 ⟨rfl, hx1⟩
   exact ⟨rfl, hx1⟩
end Go.Proofs.YtgljoledlhmhnaaGreatDoor
namespace Go.Proofs.YtgljoledlhmhnaaGreatDoor
open Go Gx
theorem good_zeros (l : List UInt8) (h : l.length = 12) : l = zeros 12 ↔ ∀ i, (hi : i < 12) → l[i] = 0 := by
 constructor
 · rintro rfl i hi; simp only [zeros, List.getElem_replicate]
 · intro h2
   apply List.ext_getElem
   · simp [zeros, h]
   · intro i h3 h4
     rw [h2 i (by omega)]; simp only [zeros, List.getElem_replicate]
theorem Ad.cB (a : Ad) {i : Nat} (h : i < 16) : a.c[1 + i]? = some (.int .u8 (((a.b[i]'(by rw [a.h]; exact h)).toNat : Nat) : Int)) := by
 rw [Nat.add_comm]
 show (u8s a.b)[i]? = _
 exact u8s_get (by rw [a.h]; exact h)
theorem ref12_Good (a : Ad) (w : World) : Ret Tryz.prog F.ref12_Good #[.agg a.c.toArray] w (fun v w' => v = .bool a.good ∧ Ext w w') := by
 refine W.ref12_Good_ok _ w _ ?_
 (delta W.ref12_Good Nx Br r8 nA r4 wI; dsimp only)
 have hv := Var.new w a.c Ty.api_Addr
 have hx : Ext w (w.alloc (.cells a.c.toArray Ty.api_Addr)) := Chg.alloc (.refl _ _) _
 obtain ⟨w1, hw1⟩ : ∃ w1, w1 = w.alloc (.cells a.c.toArray Ty.api_Addr) := ⟨_, rfl⟩
 rw [← hw1] at hv hx ⊢
 refine ⟨fun i w' => w1 = w' ∧ ∃ k : Nat, i = k ∧ k ≤ 12 ∧ (a.six = false → ∀ j, (hj : j < k) → (hj2 : j < 16) → a.b[j]'(by rw [a.h]; exact hj2) = 0), fun i _ => ((12 : Int) - i).toNat, ⟨rfl, 0, rfl, by omega, fun _ j hj => by omega⟩, ?_⟩
 rintro _ _ ⟨rfl, k, rfl, hk, hz⟩
 refine ⟨fun hlt => ?_, fun hge => ?_⟩
 · have hlt : k < 12 := by have := of_decide_eq_true hlt; omega
   have hcell := a.cB (i := k) (by omega)
   have eA : Addr.add (Addr.add ⟨w.heap.size, 0, none⟩ 1) (Int.toNat (k : Int) * 1) = ⟨w.heap.size, 1 + k, none⟩ := by rw [add_mk, add_mk]; simp
   refine ⟨a.six, hv.cell, Jn1 (fun b w' => w1 = w' ∧ (b = true ↔ a.six = false ∧ a.b[k]'(by rw [a.h]; omega) ≠ 0)) (fun q hq => ⟨fun h => ⟨⟨by omega, by omega⟩, _, by rw [eA, hv.cell]; exact hcell, hq _ _ ⟨rfl, ?_⟩⟩, fun h => hq _ _ ⟨rfl, ?_⟩⟩) ?_⟩
   · have h6 : a.six = false := by simpa using h
     simp only [h6, true_and, bne_iff_ne, ne_eq]
     refine not_congr ?_
     constructor
     · intro h; exact UInt8.toNat_inj.1 (by exact_mod_cast h)
     · intro h; rw [h]; rfl
   · have h6 : a.six = true := by simpa using h
     simp [h6]
   · rintro b _ ⟨rfl, hb⟩
     refine ⟨fun h => ?_, fun h => ?_⟩
     · obtain ⟨h6, hne⟩ := hb.1 h
       refine ⟨?_, hx⟩
       have : ¬ a.b.take 12 = zeros 12 := by
         rw [good_zeros _ (by simp [a.h])]
         intro hall
         have := hall k hlt
         simp at this
         exact hne this
       simp [Ad.good, h6, this]
     · rw [wrapi (by omega) (by omega)]
       refine ⟨⟨rfl, k + 1, by omega, by omega, fun h6 j hj hj2 => ?_⟩, ?_⟩
       · by_cases e : j = k
         · subst e
           rcases Classical.em (a.b[j]'(by rw [a.h]; omega) = 0) with h0 | h0
           · exact h0
           · have := hb.2 ⟨h6, h0⟩; rw [h] at this; cases this
         · exact hz h6 j (by omega) hj2
       · show ((12 : Int) - ((k : Int) + 1)).toNat < ((12 : Int) - (k : Int)).toNat
         omega
 · have hge : k = 12 := by have := of_decide_eq_false hge; omega
   subst hge
   refine ⟨?_, hx⟩
   cases h6 : a.six
   · have : a.b.take 12 = zeros 12 := by
       rw [good_zeros _ (by simp [a.h])]
       intro i hi
       have := hz h6 i hi (by omega)
       simpa using this
     simp [Ad.good, h6, this]
   · simp [Ad.good, h6]
end Go.Proofs.YtgljoledlhmhnaaGreatDoor
namespace Go.Proofs.YtgljoledlhmhnaaGreatDoor
open Go Gx
theorem jnAnd {BODY : (Bool → World → Prop) → Prop} {rest : Bool → World → Prop} {w0 : World} {b : Bool} (c : Bool) (h1 : b = true → ∀ k : Bool → World → Prop, (∀ w', Ext w0 w' → k c w') → BODY k) (h2 : ∀ w', Ext w0 w' → rest (b && c) w') :
   Jn (fun k => (b = true → BODY k) ∧ (b = false → k false w0)) rest :=
 ⟨⟨fun h => h1 h rest (fun w' hx => by have := h2 w' hx; rwa [h, Bool.true_and] at this), fun h => by have := h2 w0 (.refl _ _); rwa [h, Bool.false_and] at this⟩⟩
theorem jnOr {BODY : (Bool → World → Prop) → Prop} {rest : Bool → World → Prop} {w0 : World} {b : Bool} (c : Bool) (h1 : b = false → ∀ k : Bool → World → Prop, (∀ w', Ext w0 w' → k c w') → BODY k) (h2 : ∀ w', Ext w0 w' → rest (b || c) w') :
   Jn (fun k => (b = true → k true w0) ∧ (b = false → BODY k)) rest :=
 ⟨⟨fun h => by have := h2 w0 (.refl _ _); rwa [h, Bool.true_or] at this, fun h => h1 h rest (fun w' hx => by have := h2 w' hx; rwa [h, Bool.false_or] at this)⟩⟩
structure Bk where
 id : Int
 addr : Ad
 port : Int
 weight : Int
 drained : Bool
 deriving DecidableEq
def Bk.c (b : Bk) : List Value := .int .i64 b.id :: (b.addr.c ++ [.int .u16 b.port, .int .i64 b.weight, .bool b.drained])
structure Sv where
 id : Int
 addr : Ad
 port : Int
 proto : Int
 bits : Int
 lasts : Int
 deriving DecidableEq
def Sv.c (s : Sv) (k : Sl) : List Value := .int .i64 s.id :: (s.addr.c ++ [.int .u16 s.port, .int .u8 s.proto, .int .i64 s.bits, .int .u64 s.lasts, .slice k.a k.len k.cap])
structure Dr where
 addr : Ad
 port : Int
 proto : Int
 deriving DecidableEq
def Dr.c (d : Dr) : List Value := d.addr.c ++ [.int .u16 d.port, .int .u8 d.proto]
def Sv.door (s : Sv) : Dr := ⟨s.addr, s.port, s.proto⟩
theorem Bk.c_length (b : Bk) : b.c.length = 21 := by simp [Bk.c, Ad.c_length]
theorem Sv.c_length (s : Sv) (k : Sl) : (s.c k).length = 23 := by simp [Sv.c, Ad.c_length]
theorem Dr.c_length (d : Dr) : d.c.length = 19 := by simp [Dr.c, Ad.c_length]
theorem Dr.plain (d : Dr) : ∀ v ∈ d.c, Plain v := by
 intro v hv
 rcases List.mem_append.1 hv with hv | hv
 · exact d.addr.plain v hv
 · simp only [List.mem_cons, List.not_mem_nil, or_false] at hv
   rcases hv with rfl | rfl <;> trivial
variable {w : World} {b : Nat} {T : TypeId} {s : Sv} {k : Sl}
theorem scell (h : Var w b (s.c k) T) : w.cell? ⟨b, 0, none⟩ = some (.int .i64 s.id) ∧ w.cell? (Addr.add ⟨b, 0, none⟩ 1) = some (.bool s.addr.six) ∧ w.cell? (Addr.add ⟨b, 0, none⟩ 18) = some (.int .u16 s.port) ∧ w.cell? (Addr.add ⟨b, 0, none⟩ 19) = some (.int .u8 s.proto) ∧
   w.cell? (Addr.add ⟨b, 0, none⟩ 20) = some (.int .i64 s.bits) ∧ w.cell? (Addr.add ⟨b, 0, none⟩ 21) = some (.int .u64 s.lasts) ∧ w.cell? (Addr.add ⟨b, 0, none⟩ 22) = some (.slice k.a k.len k.cap) := by
 simp only [add_mk, h.cell]
 refine ⟨rfl, ?_, ?_, ?_, ?_, ?_, ?_⟩ <;> simp [Sv.c, List.getElem?_append, Ad.c_length]
 simp [Ad.c]
theorem srd (h : Var w b (s.c k) T) : rdCells w (Addr.add ⟨b, 0, none⟩ 1) 0 17 = some s.addr.c := by
 rw [add_mk, h.rdAt (by rw [Sv.c_length]; decide)]
 show some ((s.addr.c ++ _).take 17) = _
 rw [List.take_append_of_le_length (by rw [Ad.c_length]; decide), List.take_of_length_le (by rw [Ad.c_length]; decide)]
def idOk (n : Int) : Bool := decide (n ≥ 0) && decide (n ≤ 65535)
def weightOk (n : Int) : Bool := decide (n ≥ 0) && decide (n ≤ 10)
def mayS (s : Sv) (k : Sl) : Bool := idOk s.id && s.addr.good && decide (s.port > 0) && ((s.proto == 6) || (s.proto == 17)) && decide (s.bits ≥ 0) && decide (s.bits ≤ if s.addr.six then 128 else 32) && decide (s.lasts ≥ 1) && decide (s.lasts ≤ 1073741824) && (((k.len : Nat) : Int) == 0)
theorem farm_id (n : Int) (w : World) : Ret Tryz.prog F.farm_id #[.int .i64 n] w (fun v w' => v = .bool (idOk n) ∧ w = w') := by
 refine W.farm_id_ok n w _ ?_
 exact ⟨rfl, rfl⟩
theorem farm_weight (n : Int) (w : World) : Ret Tryz.prog F.farm_weight #[.int .i64 n] w (fun v w' => v = .bool (weightOk n) ∧ w = w') := by
 refine W.farm_weight_ok n w _ ?_
 exact ⟨rfl, rfl⟩
theorem addr_Good' (a : Ad) (w : World) : Ret Tryz.prog F.addr_Good #[.agg a.c.toArray] w (fun v w' => v = .bool a.good ∧ Ext w w') := by
 refine W.addr_Good_ok _ w _ ?_
 (delta W.addr_Good nA c9; dsimp only)
 refine nxVar (vs := a.c) rfl fun w1 hv hx1 _ => ⟨_, hv.rd a.c_length, (addr_good a w1).use ?_⟩
 rintro _ w3 ⟨rfl, hx3⟩
 exact ⟨_, rfl, rfl, Ext.trans hx1 hx3⟩
theorem farm_may (s : Sv) (k : Sl) (w : World) : Ret Tryz.prog F.farm_may #[.agg (s.c k).toArray] w (fun v w' => v = .bool (mayS s k) ∧ Ext w w') := by
 refine W.farm_may_ok _ w _ ?_
 (delta W.farm_may r8 nA Br r4 r3 c9 r7 r5 r1; dsimp only)
 refine nxVar (vs := s.c k) rfl fun w1 hv hx1 _ => Jn1 (fun n w' => w1 = w' ∧ n = if s.addr.six then 128 else 32) (fun q hq => ⟨_, (scell hv).2.1, fun h => hq _ _ ⟨rfl, by rw [h]; rfl⟩, fun h => hq _ _ ⟨rfl, by rw [h]; rfl⟩⟩) ?_
 rintro _ _ ⟨rfl, rfl⟩
 refine ⟨_, (scell hv).2.2.2.1, jnOr (s.proto == 17) (fun _ q hq => ⟨_, (scell hv).2.2.2.1, hq _ (.refl _ _)⟩) fun w10 hx10 => ?_⟩
 have hv10 := hv.ext hx10
 have hX10 := Ext.trans hx1 hx10
 refine ⟨_, (scell hv10).1, (farm_id s.id w10).use ?_⟩
 rintro _ _ ⟨rfl, rfl⟩
 refine ⟨_, rfl, jnAnd s.addr.good (fun _ q hq => ⟨_, srd hv10, (addr_Good' s.addr w10).use ?_⟩) fun w21 hx21 => ?_⟩
 · rintro _ w17 ⟨rfl, hx17⟩
   exact ⟨_, rfl, hq _ hx17⟩
 have hv21 := hv10.ext hx21
 have hX21 := Ext.trans hX10 hx21
 refine jnAnd (decide (s.port > 0)) (fun _ q hq => ⟨_, (scell hv21).2.2.1, hq _ (.refl _ _)⟩) fun w25 hx25 => ?_
 have hv25 := hv21.ext hx25
 refine jnAnd (decide (s.bits ≥ 0)) (fun _ q hq => ⟨_, (scell hv25).2.2.2.2.1, hq _ (.refl _ _)⟩) fun w29 hx29 => ?_
 have hv29 := hv25.ext hx29
 refine jnAnd (decide (s.bits ≤ if s.addr.six then 128 else 32)) (fun _ q hq => ⟨_, (scell hv29).2.2.2.2.1, hq _ (.refl _ _)⟩) fun w33 hx33 => ?_
 have hv33 := hv29.ext hx33
 refine jnAnd (decide (s.lasts ≥ 1)) (fun _ q hq => ⟨_, (scell hv33).2.2.2.2.2.1, hq _ (.refl _ _)⟩) fun w37 hx37 => ?_
 have hv37 := hv33.ext hx37
 refine jnAnd (decide (s.lasts ≤ 1073741824)) (fun _ q hq => ⟨_, (scell hv37).2.2.2.2.2.1, hq _ (.refl _ _)⟩) fun w41 hx41 => ?_
 have hv41 := hv37.ext hx41
 exact jnAnd (((k.len : Nat) : Int) == 0) (fun _ q hq => ⟨k, (scell hv41).2.2.2.2.2.2, hq _ (.refl _ _)⟩) fun w45 hx45 => ⟨rfl, Ext.trans hX21 (Ext.trans hx25 (Ext.trans hx29 (Ext.trans hx33 (Ext.trans hx37 (Ext.trans hx41 hx45)))))⟩
theorem mkDr (w : World) (a : Ad) (n m : Int) : Sem.run Tryz.prog (Instr.build Ty.farm_door #[(0, .agg a.c.toArray), (1, .int .u16 n), (2, .int .u8 m)]) w = .ok (.agg (Dr.mk a n m).c.toArray) w := by
 obtain ⟨six, b, h⟩ := a
 obtain ⟨x0, x1, x2, x3, x4, x5, x6, x7, x8, x9, x10, x11, x12, x13, x14, x15, rfl⟩ := list16 b h
 kernel_rfl
theorem farm_of (s : Sv) (k : Sl) (w : World) : Ret Tryz.prog F.farm_of #[.agg (s.c k).toArray] w (fun v w' => v = .agg s.door.c.toArray ∧ Ext w w') := by
 refine W.farm_of_ok _ w _ ?_
 (delta W.farm_of nA r7 r4 c6; dsimp only)
 refine nxVar (vs := s.c k) rfl fun w1 hv hx1 _ => nxVar (vs := (Dr.mk Ad.zero 0 0).c) (by kernel_rfl) fun w2 hd hx2 _ => ?_
 have hv2 := hv.ext hx2
 exact ⟨_, srd hv2, _, (scell hv2).2.2.1, _, (scell hv2).2.2.2.1, s.door.c.toArray, mkDr _ _ _ _, hd.storeOk (by simp [Dr.c_length]) (Dr.plain _), by simp [Dr.c_length], nxPut hd (us := s.door.c) (by simp [Dr.c_length]) rfl fun w7 hd7 hc7 _ => ⟨_, hd7.rd (Dr.c_length _), rfl, Ext.of_chg (Ext.trans hx1 hx2) hc7 hx1.size⟩⟩
end Go.Proofs.YtgljoledlhmhnaaGreatDoor
namespace Go.Proofs.YtgljoledlhmhnaaGreatDoor
open Go Gx
theorem appBk : AppT Tryz.prog Ty.Sl_api_Backend Ty.api_Backend 21 48 := ⟨by kernel_rfl⟩
theorem bk_Insert {s v : Sl} {vs xs : List Value} {i vb : Nat} {vc : Array Value} {vT : TypeId} {w : World} (ho : OwnS 21 Ty.api_Backend w s vs) (hv : Src 21 w v xs) (hvl : v.len = 1) (hva : v.a = some ⟨vb, 0, none⟩) (hvb : Blk w vb vc vT) (hne : ¬ ownB s vb)
   (hxp : ∀ u ∈ xs, Plain u) (hvp : ∀ u ∈ vs, Plain u) (hi : i ≤ s.len) (hn : s.len ≤ 1000000) :
   Ret Tryz.prog F.slices_Insert_Sl_api_Backend_api_Backend #[.slice s.a s.len s.cap, .int .i64 (i : Int), .slice v.a v.len v.cap] w (fun u w' => ∃ s' : Sl, u = .slice s'.a s'.len s'.cap ∧ OwnS 21 Ty.api_Backend w' s' (vs.take (i * 21) ++ xs ++ vs.drop (i * 21)) ∧ s'.len = s.len + 1 ∧ Chg (ownB s) w w' ∧ (∀ k, ownB s' k → ownB s k ∨ w.heap.size ≤ k)) := by
 obtain ⟨h1, i0, z0, h2, h3, h4, h5, h6, h7, h8⟩ := (appBk).out
 obtain ⟨d0, hd0⟩ := cells_of _ h3
 refine W.slices_Insert_Sl_api_Backend_api_Backend_ok s i v w _ ?_
 (delta W.slices_Insert_Sl_api_Backend_api_Backend Br T24 wI c2; dsimp only)
 have hlc := ho.2.1
 have hcm := ho.2.2.1
 have hmx : maxLen = 9223372036854775807 := rfl
 have hxl : xs.length = 21 := by have := hv.len; rw [hvl] at this; omega
 have hvl' := ho.1
 refine ⟨⟨by omega, by omega⟩, fun h => by rw [hvl] at h; simp at h, fun _ => ⟨fun h => ?_, fun h => ?_⟩⟩
 · have hi2 : i = s.len := by have := eq_of_beq h; omega
   subst hi2
   obtain ⟨s', w', g1, g2, g3, g4, g5⟩ := (appBk).append (oT := Ty.Sl_api_Backend) hv ho hxp (by rw [hvl]; omega)
   refine ⟨s', w', g1, s', rfl, ?_, by rw [g3, hvl], g4, g5⟩
   rwa [List.take_of_length_le (by omega), List.drop_of_length_le (by omega), List.append_nil]
 have hlt : i < s.len := by
   have h : ¬ ((i : Int) = (s.len : Int)) := fun e => by rw [e] at h; simp at h
   omega
 rcases ho.2.2.2 with ⟨_, hc⟩ | ⟨b, c, hb, hblk, hcs, hvs⟩
 · omega
 have hbv : b ≠ vb := fun e => hne ⟨_, hb, e⟩
 have e1 : IntKind.wrap .i64 (((s.len : Nat) : Int) + ((v.len : Nat) : Int)) = ((s.len + 1 : Nat) : Int) := by rw [hvl, wrapi (by omega) (by omega)]; rfl
 have e2 : IntKind.wrap .i64 ((i : Int) + ((v.len : Nat) : Int)) = ((i + 1 : Nat) : Int) := by rw [hvl, wrapi (by omega) (by omega)]; rfl
 have e3 : IntKind.wrap .i64 (((s.len + 1 : Nat) : Int) - (i : Int)) = ((s.len + 1 - i : Nat) : Int) := by rw [wrapi (by omega) (by omega)]; omega
 have hcl : c.toList.length = s.cap * 21 := by simpa using hcs
 have htk : ∀ k, k ≤ s.len → vs.take (k * 21) = c.toList.take (k * 21) := fun k hk => by rw [← hvs, List.take_take, Nat.min_eq_left (by omega)]
 have hdr : vs.drop (i * 21) = (c.toList.drop (i * 21)).take ((s.len - i) * 21) := by rw [← hvs, List.drop_take, show s.len * 21 - i * 21 = (s.len - i) * 21 by omega]
 have hdp : ∀ u ∈ vs.drop (i * 21), Plain u := fun u hu => hvp u (List.mem_of_mem_drop hu)
 have hdl : (vs.drop (i * 21)).length = (s.len - i) * 21 := by rw [List.length_drop, hvl']; omega
 have hcut : ∀ (bb o l m : Nat), l < m → cutA (some (Addr.mk bb o none)) 21 l m = some ⟨bb, o + l * 21, none⟩ := fun bb o l m hlm => cut_some (by omega)
 simp only [e1, e2, e3, Int.toNat_natCast, Nat.sub_zero, cut0']
 refine ⟨fun hg => ?_, fun hg => ?_⟩
 · have hgt : s.cap < s.len + 1 := by have := of_decide_eq_true hg; omega
   have hsrc : Src 21 w ⟨some ⟨b, 0, none⟩, i, s.cap⟩ (vs.take (i * 21)) := by
     have := hblk.srcAt (sz := 21) (o := 0) (n := i) (cap := s.cap) (by omega)
     rw [List.drop_zero] at this
     rwa [htk i (by omega)]
   obtain ⟨nc, zs, rest, g1, g2, g3, g4, g5⟩ := run_append_zeros (P := Tryz.prog) (ats := #[Ty.Sl_api_Backend, Ty.int]) (oT := Ty.Sl_api_Backend) (xT := Ty.int) (k := .i64) (s := ⟨some ⟨b, 0, none⟩, i, s.cap⟩) (n := s.len + 1 - i) rfl rfl h1 (by kernel_rfl) h2 h3 h4 h5 h6 (by rw [h7]; exact h8) hsrc (by show s.cap < i + _; omega) (by rw [h7]; show (2 * (i + _) + 1000) * _ ≤ _; omega)
   have ei : i + (s.len + 1 - i) = s.len + 1 := by omega
   simp only [ei] at g1 g4 g5
   obtain ⟨C, hC⟩ : ∃ C, C = (vs.take (i * 21) ++ zs ++ rest).toArray := ⟨_, rfl⟩
   rw [← hC] at g5
   obtain ⟨w4, hw4⟩ : ∃ w4, w4 = w.drew.alloc (.cells C Ty.api_Backend) := ⟨_, rfl⟩
   rw [← hw4] at g5
   have hB4 : Blk w4 w.heap.size C Ty.api_Backend := by rw [hw4]; exact Blk.new w.drew _ _
   have hx4 : Ext w w4 := by rw [hw4]; exact Chg.alloc (Chg.drew (.refl _ _)) _
   have htl : (vs.take (i * 21)).length = i * 21 := by rw [List.length_take, hvl']; omega
   have hCs : C.size = nc * 21 := by rw [hC]; simp [htl, g3, g4]; omega
   have hCl : C.toList.length = nc * 21 := by simpa using hCs
   have hcp1 := run_copy_rows (P := Tryz.prog) (dT := Ty.Sl_api_Backend) (sT := Ty.Sl_api_Backend) (ty := Ty.int) (A := ⟨w.heap.size, 0 + i * 21, none⟩) (dl := s.len + 1 - i) (dc := nc - i) (n := 1) h1 hd0 h6 (x := v) (by rw [hvl]; exact Nat.min_eq_left (by omega)) (xs := xs) (by have := hv.ext hx4; rw [← hvl]; exact this) (by rw [Nat.zero_add]; exact hB4.storeOk _ _ (by omega) hxp)
   obtain ⟨w6, hw6⟩ : ∃ w6, w6 = setCells w4 ⟨w.heap.size, 0 + i * 21, none⟩ 0 xs := ⟨_, rfl⟩
   rw [← hw6] at hcp1
   have hB6 : Blk w6 w.heap.size (spl C (i * 21) xs) Ty.api_Backend := by rw [hw6, Nat.zero_add]; exact hB4.set0 xs
   have hx6 : Ext w w6 := by rw [hw6]; exact Ext.of_new hx4 (Chg.setsB (.refl _ _) xs 0) (fun k hk => by subst hk; exact Nat.le_refl _)
   have hd6 : Ext w6 w6.drew := Chg.drew (.refl _ _)
   have hx7 := Ext.trans hx6 hd6
   have hcp2 := run_copy_rows (P := Tryz.prog) (w := w6.drew) (dT := Ty.Sl_api_Backend) (sT := Ty.Sl_api_Backend) (ty := Ty.int) (A := ⟨w.heap.size, 0 + (i + 1) * 21, none⟩) (dl := s.len + 1 - (i + 1)) (dc := nc - (i + 1)) (n := s.len - i) h1 hd0 h6 (x := ⟨some ⟨b, 0 + i * 21, none⟩, s.len - i, s.cap - i⟩) (Nat.min_eq_left (by show s.len - i ≤ _; omega)) (xs := vs.drop (i * 21))
     (by have := (hblk.ext hx7).srcAt (sz := 21) (o := i * 21) (n := s.len - i) (cap := s.cap - i) (by omega); rw [hdr, Nat.zero_add]; exact this) (by rw [Nat.zero_add]; exact Blk.storeOk (Blk.drew hB6) _ _ (by rw [spl_size]; omega) hdp)
   have ecut1 : cutA (some (Addr.mk w.heap.size 0 none)) 21 i nc = some ⟨w.heap.size, 0 + i * 21, none⟩ := hcut _ _ _ _ (by omega)
   have ecut2 : cutA (some (Addr.mk w.heap.size 0 none)) 21 (i + 1) nc = some ⟨w.heap.size, 0 + (i + 1) * 21, none⟩ := hcut _ _ _ _ (by omega)
   have ecut3 : cutA s.a 21 i s.cap = some ⟨b, 0 + i * 21, none⟩ := by rw [hb]; exact hcut _ _ _ _ (by omega)
   have hg5 : Sem.run Tryz.prog (Builtin.append_ #[Ty.Sl_api_Backend, Ty.int] Ty.Sl_api_Backend #[.slice s.a i s.cap, .int .i64 ((s.len + 1 - i : Nat) : Int)]) w = .ok (.slice (some ⟨w.heap.size, 0, none⟩) (s.len + 1) nc) w4 := by rw [hb]; exact g5
   refine ⟨⟨by omega, by omega⟩, ⟨some ⟨w.heap.size, 0, none⟩, s.len + 1, nc⟩, w4, hg5, ⟨by omega, by show (i : Int) ≤ ((s.len + 1 : Nat) : Int); omega⟩, _, w6, by rw [ecut1]; exact hcp1, nx ⟨⟨by omega, by show ((i + 1 : Nat) : Int) ≤ ((s.len + 1 : Nat) : Int); omega⟩, ⟨by omega, by omega⟩, _, _, by rw [ecut2, ecut3]; exact hcp2, ⟨some ⟨w.heap.size, 0, none⟩, s.len + 1, nc⟩, rfl, ?_, rfl, ?_, ?_⟩⟩
   · refine OwnS.mk' ((Blk.drew hB6).set0 (o := 0 + (i + 1) * 21) _) (by simp [htl, hxl, hdl]; omega) (by omega) (by omega) (by rw [spl_size, spl_size, hCs]) ?_
     rw [toList_spl _ _ _ (by rw [spl_size]; omega), toList_spl _ _ _ (by omega)]
     have t1 : C.toList.take (i * 21) = vs.take (i * 21) := by rw [hC, List.toList_toArray, List.append_assoc]; exact List.take_left' htl
     have t2 : (C.toList.take (i * 21) ++ xs ++ C.toList.drop (i * 21 + xs.length)).take (0 + (i + 1) * 21) = vs.take (i * 21) ++ xs := by
       rw [t1, List.take_append_of_le_length (by simp [htl, hxl]; omega), List.take_of_length_le (by simp [htl, hxl]; omega)]
     rw [t2, List.take_append_of_le_length (by simp [htl, hxl, hdl]; omega), List.take_of_length_le (by simp [htl, hxl, hdl]; omega)]
   · exact Chg.of_ext (Ext.of_new hx7 (Chg.setsB (.refl _ _) _ 0) (fun k hk => by subst hk; exact Nat.le_refl _))
   · rintro k ⟨A, hA, hk⟩
     cases hA
     exact .inr (Nat.le_of_eq hk)
 · have hle : s.len + 1 ≤ s.cap := by have := of_decide_eq_false hg; omega
   have ecut1 : cutA s.a 21 (i + 1) s.cap = some ⟨b, 0 + (i + 1) * 21, none⟩ := by rw [hb]; exact hcut _ _ _ _ (by omega)
   have ecut2 : cutA s.a 21 i s.cap = some ⟨b, 0 + i * 21, none⟩ := by rw [hb]; exact hcut _ _ _ _ (by omega)
   have hov : Sem.run Tryz.prog (callFunc F.slices_overlaps_api_Backend #[.slice v.a v.len v.cap, .slice (some ⟨b, 0 + (i + 1) * 21, none⟩) (s.len + 1 - (i + 1)) (s.cap - (i + 1))]) w = .ok (.value (.bool false)) w := by
     rw [hva, run_callFunc_extern (e := Extern.SlicesOverlaps.overlaps #[Ty.Sl_api_Backend, Ty.Sl_api_Backend] #[Ty.bool]) Tryz.func150 (by kernel_rfl) (by kernel_rfl) (by kernel_rfl) (by kernel_rfl)]
     have := Lib.run_overlaps_apart (P := Tryz.prog) w Ty.Sl_api_Backend Ty.bool Ty.api_Backend h1 21 (fun w => by have := run_sizeOf' (w := w) hd0; rwa [h6] at this) ⟨vb, 0, none⟩ ⟨b, 0 + (i + 1) * 21, none⟩ v.len v.cap (s.len + 1 - (i + 1)) (s.cap - (i + 1)) (fun e => hbv e.symm) vT Ty.api_Backend vc.size c.size
       (by have := hvb; unfold Blk at this; simp [World.shape?, this]) (by have := hblk; unfold Blk at this; simp [World.shape?, this]) (by omega) (hvb.frozen _ rfl) (hvb.frozen _ rfl)
     rw [this]; rfl
   have hcp1 := run_copy_rows (P := Tryz.prog) (w := w.drew) (dT := Ty.Sl_api_Backend) (sT := Ty.Sl_api_Backend) (ty := Ty.int) (A := ⟨b, 0 + (i + 1) * 21, none⟩) (dl := s.len + 1 - (i + 1)) (dc := s.cap - (i + 1)) (n := s.len - i) h1 hd0 h6 (x := ⟨some ⟨b, 0 + i * 21, none⟩, s.len + 1 - i, s.cap - i⟩) ((Nat.min_eq_right (by show _ ≤ s.len + 1 - i; omega)).trans (by omega)) (xs := vs.drop (i * 21))
     (by have := (Blk.drew hblk).srcAt (sz := 21) (o := i * 21) (n := s.len - i) (cap := s.cap - i) (by omega); rw [hdr, Nat.zero_add]; exact this) (by rw [Nat.zero_add]; exact Blk.storeOk (Blk.drew hblk) _ _ (by omega) hdp)
   obtain ⟨w3, hw3⟩ : ∃ w3, w3 = setCells w.drew ⟨b, 0 + (i + 1) * 21, none⟩ 0 (vs.drop (i * 21)) := ⟨_, rfl⟩
   rw [← hw3] at hcp1
   have hB3 : Blk w3 b (spl c ((i + 1) * 21) (vs.drop (i * 21))) Ty.api_Backend := by rw [hw3, Nat.zero_add]; exact (Blk.drew hblk).set0 _
   have hc3 : Chg (ownB s) w w3 := by
     rw [hw3]
     exact Chg.mono (W := fun q => q = b) (Chg.setsB (Chg.drew (.refl _ _)) _ 0) (fun k _ hk => ⟨_, hb, hk.symm⟩)
   have hv3 : Src 21 w3 v xs := hv.chg hc3 (fun k hk hk2 => by obtain ⟨A, hA, rfl⟩ := hk; rw [hva] at hA; cases hA; exact hne hk2)
   have hcp2 := run_copy_rows (P := Tryz.prog) (w := w3) (dT := Ty.Sl_api_Backend) (sT := Ty.Sl_api_Backend) (ty := Ty.int) (A := ⟨b, 0 + i * 21, none⟩) (dl := s.len + 1 - i) (dc := s.cap - i) (n := 1) h1 hd0 h6 (x := v) (by rw [hvl]; exact Nat.min_eq_left (by omega)) (xs := xs) (by rw [← hvl]; exact hv3) (by rw [Nat.zero_add]; exact hB3.storeOk _ _ (by rw [spl_size]; omega) hxp)
   refine ⟨⟨by omega, by omega⟩, ⟨by omega, by omega⟩, false, w, by rw [ecut1]; exact hov, fun _ => nx ⟨⟨by omega, by omega⟩, ⟨by omega, by omega⟩, _, w3, by rw [ecut1, ecut2]; exact hcp1, ⟨by omega, by omega⟩, _, _, by rw [ecut2]; exact hcp2, ⟨s.a, s.len + 1, s.cap⟩, rfl, ?_, rfl, ?_, fun k hk => .inl hk⟩, fun h => by simp at h⟩
   · have hso : OwnS 21 Ty.api_Backend (setCells w3 ⟨b, 0 + i * 21, none⟩ 0 xs) ⟨some ⟨b, 0, none⟩, s.len + 1, s.cap⟩ (vs.take (i * 21) ++ xs ++ vs.drop (i * 21)) := by
       have htl : (vs.take (i * 21)).length = i * 21 := by rw [List.length_take, hvl']; omega
       refine OwnS.mk' (hB3.set0 (o := 0 + i * 21) _) (by simp [htl, hxl, hdl]; omega) (by omega) (by omega) (by rw [spl_size, spl_size, hcs]) ?_
       rw [toList_spl _ _ _ (by rw [spl_size]; omega), toList_spl _ _ _ (by omega)]
       have t1 : (c.toList.take ((i + 1) * 21) ++ vs.drop (i * 21) ++ c.toList.drop ((i + 1) * 21 + (vs.drop (i * 21)).length)).take (0 + i * 21) = vs.take (i * 21) := by
         rw [Nat.zero_add, List.take_append_of_le_length (by simp [hdl]; omega), List.take_append_of_le_length (by simp; omega), List.take_take, htk i (by omega), Nat.min_eq_left (by omega)]
       have t2 : (c.toList.take ((i + 1) * 21) ++ vs.drop (i * 21) ++ c.toList.drop ((i + 1) * 21 + (vs.drop (i * 21)).length)).drop (0 + i * 21 + xs.length) = vs.drop (i * 21) ++ c.toList.drop ((i + 1) * 21 + (vs.drop (i * 21)).length) := by
         have hl : (c.toList.take ((i + 1) * 21)).length = 0 + i * 21 + xs.length := by simp; omega
         rw [List.append_assoc, ← hl, List.drop_left]
       rw [t1, t2, ← List.append_assoc, List.take_append_of_le_length (by simp [htl, hxl, hdl]; omega), List.take_of_length_le (by simp [htl, hxl, hdl]; omega)]
     rw [← hb] at hso
     exact hso
   · exact hc3.trans (Chg.mono (W := fun q => q = b) (Chg.setsB (.refl _ _) _ 0) (fun k _ hk => ⟨_, hb, hk.symm⟩))
theorem bk_Delete {s : Sl} {vs : List Value} {i : Nat} {w : World} (ho : OwnS 21 Ty.api_Backend w s vs) (hvp : ∀ u ∈ vs, Plain u) (hzp : ∀ z, (Tryz.prog.info? Ty.api_Backend).bind (·.zero) = some z → ∀ u ∈ z.cells.toList, Plain u) (hi : i < s.len) (hn : s.len ≤ 1000000) :
   Ret Tryz.prog F.slices_Delete_Sl_api_Backend_api_Backend #[.slice s.a s.len s.cap, .int .i64 (i : Int), .int .i64 ((i + 1 : Nat) : Int)] w (fun u w' => ∃ s' : Sl, u = .slice s'.a s'.len s'.cap ∧ OwnS 21 Ty.api_Backend w' s' (vs.take (i * 21) ++ vs.drop ((i + 1) * 21)) ∧ s'.len = s.len - 1 ∧ s'.a = s.a ∧ Chg (ownB s) w w') := by
 obtain ⟨h1, i0, z0, h2, h3, h4, h5, h6, h7, h8⟩ := (appBk).out
 obtain ⟨d0, hd0⟩ := cells_of _ h3
 refine W.slices_Delete_Sl_api_Backend_api_Backend_ok s i ((i + 1 : Nat) : Int) w _ ?_
 (delta W.slices_Delete_Sl_api_Backend_api_Backend Br r4; dsimp only)
 have hlc := ho.2.1
 have hcm := ho.2.2.1
 have hvl' := ho.1
 rcases ho.2.2.2 with ⟨_, hc⟩ | ⟨b, c, hb, hblk, hcs, hvs⟩
 · omega
 have hcl : c.toList.length = s.cap * 21 := by simpa using hcs
 simp only [Int.toNat_natCast, Nat.sub_zero, cut0']
 have hdr : vs.drop ((i + 1) * 21) = (c.toList.drop ((i + 1) * 21)).take ((s.len - (i + 1)) * 21) := by rw [← hvs, List.drop_take, show s.len * 21 - (i + 1) * 21 = (s.len - (i + 1)) * 21 by omega]
 have hdl : (vs.drop ((i + 1) * 21)).length = (s.len - (i + 1)) * 21 := by rw [List.length_drop, hvl']; omega
 have htk : vs.take (i * 21) = c.toList.take (i * 21) := by rw [← hvs, List.take_take, Nat.min_eq_left (by omega)]
 have htl : (vs.take (i * 21)).length = i * 21 := by rw [List.length_take, hvl']; omega
 have hdp : ∀ u ∈ vs.drop ((i + 1) * 21), Plain u := fun u hu => hvp u (List.mem_of_mem_drop hu)
 have hBd : Blk w.drew b c Ty.api_Backend := Blk.drew hblk
 have hsrc : Src 21 w.drew ⟨cutA s.a 21 (i + 1) s.cap, s.len - (i + 1), s.cap - (i + 1)⟩ (vs.drop ((i + 1) * 21)) := by
   by_cases he : i + 1 = s.cap
   · have e0 : s.len - (i + 1) = 0 := by omega
     refine ⟨by rw [hdl], fun _ => List.length_eq_zero_iff.1 (by rw [hdl, e0, Nat.zero_mul]), fun a _ => ?_⟩
     have : vs.drop ((i + 1) * 21) = [] := List.length_eq_zero_iff.1 (by rw [hdl, e0, Nat.zero_mul])
     rw [this]
     show rdCells _ _ 0 ((s.len - (i + 1)) * 21) = _
     rw [e0, Nat.zero_mul]; rfl
   · rw [hb, cut_some (by omega), hdr, Nat.zero_add]
     exact hBd.srcAt (by omega)
 have hap := run_append_fit (P := Tryz.prog) (ats := #[Ty.Sl_api_Backend, Ty.Sl_api_Backend]) (oT := Ty.Sl_api_Backend) (s := ⟨s.a, i, s.cap⟩) rfl rfl h1 h1 hd0 h6 hsrc (by show i + (s.len - (i + 1)) ≤ s.cap; omega) (fun a ha => by
   have ha : s.a = some a := ha
   rw [hb] at ha; cases ha
   rw [add_mk, Nat.zero_add]
   exact hBd.storeOk _ _ (by show i * 21 + _ ≤ _; omega) hdp)
 have en : i + (s.len - (i + 1)) = s.len - 1 := by omega
 simp only [hb, add_mk, Nat.zero_add, en] at hap
 obtain ⟨w3, hw3⟩ : ∃ w3, w3 = setCells w.drew ⟨b, i * 21, none⟩ 0 (vs.drop ((i + 1) * 21)) := ⟨_, rfl⟩
 rw [← hw3] at hap
 have hB3 : Blk w3 b (spl c (i * 21) (vs.drop ((i + 1) * 21))) Ty.api_Backend := by rw [hw3]; exact hBd.set0 _
 have hc3 : Chg (ownB s) w w3 := by
   rw [hw3]
   exact Chg.mono (W := fun q => q = b) (Chg.setsB (Chg.drew (.refl _ _)) _ 0) (fun k _ hk => ⟨_, hb, hk.symm⟩)
 obtain ⟨zs, hzl, hcr⟩ := run_clear_rows (P := Tryz.prog) (w := w3) (T := Ty.Sl_api_Backend) (o := Ty.t) (n := 1) (c := s.cap - (s.len - 1)) (A := ⟨b, (s.len - 1) * 21, none⟩) h1 h2 h4 h5 (by decide) (fun zs hzs => by
   refine hB3.storeOk _ _ (by rw [hzs, spl_size]; simp [Builtin.zeroCells, h5]; omega) fun u hu => ?_
   rw [hzs] at hu
   simp only [Builtin.zeroCells, Array.toList_map, List.mem_map] at hu
   obtain ⟨j, hj, rfl⟩ := hu
   have hj : j < 1 * z0.cells.size := by simpa using hj
   have hjm : j % z0.cells.size < z0.cells.size := Nat.mod_lt _ (by omega)
   have hg : z0.cells[j % z0.cells.size]! = z0.cells[j % z0.cells.size] := getElem!_pos z0.cells (j % z0.cells.size) hjm
   rw [hg]
   exact hzp z0 (by rw [h2]; exact h4) _ (by simp))
 have ecut : cutA (some (Addr.mk b 0 none)) 21 (s.len - 1) s.cap = some ⟨b, (s.len - 1) * 21, none⟩ := by rw [cut_some (by omega), Nat.zero_add]
 have en2 : s.len - (s.len - 1) = 1 := by omega
 refine ⟨⟨by omega, by omega⟩, ⟨by omega, by omega⟩, ⟨by omega, by omega⟩, fun h => ?_, fun _ => nx ⟨⟨by omega, by omega⟩, ⟨by omega, by omega⟩, ⟨some ⟨b, 0, none⟩, s.len - 1, s.cap⟩, w3, by rw [hb]; exact hap, ⟨by omega, by show ((s.len : Nat) : Int) ≤ ((s.cap : Nat) : Int); omega⟩, ⟨by omega, by show ((s.len - 1 : Nat) : Int) ≤ ((s.len : Nat) : Int); omega⟩, _, _, by rw [en2, ecut]; exact hcr, ⟨some ⟨b, 0, none⟩, s.len - 1, s.cap⟩, rfl, ?_, rfl, hb.symm, ?_⟩⟩
 · have := eq_of_beq h; omega
 · refine OwnS.mk' (hB3.set0 _) (by simp [htl, hdl]; omega) (by omega) hcm (by rw [spl_size, spl_size, hcs]) ?_
   rw [toList_spl _ _ _ (by rw [spl_size]; omega), toList_spl _ _ _ (by omega)]
   have t1 : (c.toList.take (i * 21) ++ vs.drop ((i + 1) * 21) ++ c.toList.drop (i * 21 + (vs.drop ((i + 1) * 21)).length)).take ((s.len - 1) * 21) = vs.take (i * 21) ++ vs.drop ((i + 1) * 21) := by
     rw [← htk, List.take_append_of_le_length (by simp [htl, hdl]; omega), List.take_of_length_le (by simp [htl, hdl]; omega)]
   rw [t1, List.append_assoc, List.take_append_of_le_length (by simp [htl, hdl]; omega), List.take_of_length_le (by simp [htl, hdl]; omega)]
 · exact hc3.trans (Chg.mono (W := fun q => q = b) (Chg.setsB (.refl _ _) _ 0) (fun k _ hk => ⟨_, hb, hk.symm⟩))
def bksC (l : List Bk) : List Value := (l.map Bk.c).flatten
theorem bksC_length : ∀ l : List Bk, (bksC l).length = l.length * 21
 | [] => rfl
 | b :: l => by
   show (b.c ++ bksC l).length = _
   rw [List.length_append, bksC_length l, Bk.c_length, List.length_cons]; omega
theorem Bk.plain (b : Bk) : ∀ v ∈ b.c, Plain v := by
 intro v hv
 rcases List.mem_cons.1 hv with rfl | hv
 · trivial
 rcases List.mem_append.1 hv with hv | hv
 · exact b.addr.plain v hv
 · simp only [List.mem_cons, List.not_mem_nil, or_false] at hv
   rcases hv with rfl | rfl | rfl <;> trivial
theorem bksC_plain (l : List Bk) : ∀ v ∈ bksC l, Plain v := by
 intro v hv
 obtain ⟨x, hx, hv⟩ := List.mem_flatten.1 hv
 obtain ⟨b, _, rfl⟩ := List.mem_map.1 hx
 exact b.plain v hv
theorem bksC_app (a b : List Bk) : bksC (a ++ b) = bksC a ++ bksC b := by simp [bksC]
theorem bksC_one (b : Bk) : bksC [b] = b.c := by simp [bksC]
theorem bksC_take : ∀ (l : List Bk) (k : Nat), (bksC l).take (k * 21) = bksC (l.take k)
 | [], k => by simp [bksC]
 | b :: l, 0 => by simp [bksC]
 | b :: l, k + 1 => by
   show (b.c ++ bksC l).take _ = b.c ++ bksC (l.take k)
   rw [List.take_append, List.take_of_length_le (by rw [Bk.c_length]; omega), Bk.c_length, show (k + 1) * 21 - 21 = k * 21 by omega, bksC_take l k]
theorem bksC_drop : ∀ (l : List Bk) (k : Nat), (bksC l).drop (k * 21) = bksC (l.drop k)
 | [], k => by simp [bksC]
 | b :: l, 0 => by simp [bksC]
 | b :: l, k + 1 => by
   show (b.c ++ bksC l).drop _ = bksC (l.drop k)
   rw [List.drop_append, List.drop_of_length_le (by rw [Bk.c_length]; omega), Bk.c_length, show (k + 1) * 21 - 21 = k * 21 by omega, bksC_drop l k, List.nil_append]
theorem bksC_at {l : List Bk} {i : Nat} (h : i < l.length) : ((bksC l).drop (i * 21)).take 21 = (l[i]).c := by
 rw [bksC_drop, List.drop_eq_getElem_cons h]
 show ((l[i]).c ++ bksC _).take 21 = _
 exact List.take_left' (Bk.c_length _)
abbrev BR (w : World) (s : Sl) (l : List Bk) : Prop := Src 21 w s (bksC l)
theorem BR.len {w : World} {s : Sl} {l : List Bk} (h : BR w s l) : s.len = l.length := by
 have := Src.len h
 rw [bksC_length] at this; omega
theorem BR.get {w : World} {s : Sl} {l : List Bk} (h : BR w s l) {i : Nat} (hi : i < l.length) : ∃ A, s.a = some A ∧ ((0 : Int) ≤ (i : Int) ∧ (i : Int) < ((s.len : Nat) : Int)) ∧ rdCells w (A.add (Int.toNat (i : Int) * 21)) 0 21 = some (l[i]).c := by
 have hl := BR.len h
 cases ha : s.a with
 | none =>
   have := congrArg List.length (h.nil ha)
   rw [bksC_length, List.length_nil] at this
   omega
 | some A =>
   refine ⟨A, rfl, ⟨by omega, by omega⟩, ?_⟩
   rw [Int.toNat_natCast, rdPart (h.rd A ha) (by rw [hl]; omega), bksC_at hi]
theorem bk_Clone {s : Sl} {l : List Bk} {w : World} (hs : BR w s l) (hn : l.length ≤ 1000000) :
   Ret Tryz.prog F.slices_Clone_Sl_api_Backend_api_Backend #[.slice s.a s.len s.cap] w (fun v w' => ∃ s' : Sl, v = .slice s'.a s'.len s'.cap ∧ OwnS 21 Ty.api_Backend w' s' (bksC l) ∧ s'.len = l.length ∧ Ext w w' ∧ ∀ k, ownB s' k → w.heap.size ≤ k) := by
 refine W.slices_Clone_Sl_api_Backend_api_Backend_ok s w _ ?_
 delta W.slices_Clone_Sl_api_Backend_api_Backend Br T24
 have hl := BR.len hs
 refine ⟨fun h => ?_, fun _ => ?_⟩
 · have ha : s.a = none := by cases ha : s.a with
     | none => rfl
     | some A => rw [ha] at h; cases h
   have hv := hs.nil ha
   have h0 : l.length = 0 := by
     have := congrArg List.length hv
     rw [bksC_length, List.length_nil] at this; omega
   exact ⟨⟨none, 0, 0⟩, rfl, by rw [hv]; exact OwnS.none _ _ _, h0.symm, .refl _ _, fun k hk => (ownB_none k hk).elim⟩
 · obtain ⟨s', w', h1, h2, h3, h4, h5, _⟩ := appBk.clone (oT := Ty.Sl_api_Backend) hs (bksC_plain l) (by omega)
   exact ⟨⟨some ⟨w.heap.size, 0, none⟩, 0, 0⟩, _, by kernel_rfl, s', w', h1, s', rfl, h2, by rw [h3, hl], h4, h5⟩
theorem cmp_isNaN_int (x : Int) (w : World) : Ret Tryz.prog F.cmp_isNaN_int #[.int .i64 x] w (fun v w' => v = .bool false ∧ w = w') := by
 refine W.cmp_isNaN_int_ok x w _ ?_
 unfold W.cmp_isNaN_int
 simp
def cmpI (a b : Int) : Int := if a < b then -1 else if a > b then 1 else 0
theorem cmp_Compare_int (x y : Int) (w : World) : Ret Tryz.prog F.cmp_Compare_int #[.int .i64 x, .int .i64 y] w (fun v w' => v = .int .i64 (cmpI x y) ∧ w = w') := by
 refine W.cmp_Compare_int_ok x y w _ ?_
 (delta W.cmp_Compare_int c9 Br; dsimp only)
 refine (cmp_isNaN_int x w).use ?_
 rintro _ _ ⟨rfl, rfl⟩
 refine ⟨_, rfl, (cmp_isNaN_int y w).use ?_⟩
 rintro _ _ ⟨rfl, rfl⟩
 refine ⟨_, rfl, fun h => by simp at h, fun _ => ⟨fun h => by simp at h, fun _ => ⟨fun h => ?_, fun h => ⟨fun h2 => ?_, fun h2 => ?_⟩⟩⟩⟩
 · have h := of_decide_eq_true h
   exact ⟨by unfold cmpI; rw [if_pos h], rfl⟩
 · have h := of_decide_eq_false h
   have h2 := of_decide_eq_true h2
   exact ⟨by unfold cmpI; rw [if_neg h, if_pos h2], rfl⟩
 · have h := of_decide_eq_false h
   have h2 := of_decide_eq_false h2
   exact ⟨by unfold cmpI; rw [if_neg h, if_neg h2], rfl⟩
def Rise (l : List Bk) : Prop := l.Pairwise fun a b => a.id < b.id
def posB (l : List Bk) (id : Int) : Nat := l.findIdx fun b => decide (id ≤ b.id)
def hasB (l : List Bk) (id : Int) : Bool := l.any fun b => b.id == id
theorem Rise.lt {l : List Bk} (h : Rise l) {i j : Nat} (hi : i < j) (hj : j < l.length) : (l[i]).id < (l[j]).id := List.pairwise_iff_getElem.1 h i j (by omega) hj hi
theorem posB_eq {l : List Bk} {id : Int} {a : Nat} (ha : a ≤ l.length) (h1 : ∀ (j : Nat) (h : j < l.length), j < a → (l[j]).id < id) (h2 : ∀ (j : Nat) (h : j < l.length), a ≤ j → id ≤ (l[j]).id) : posB l id = a := by
 unfold posB
 rcases Nat.lt_or_ge a l.length with h | h
 · exact (List.findIdx_eq h).2 ⟨decide_eq_true (h2 a h (Nat.le_refl _)), fun j hj => decide_eq_false (by have := h1 j (by omega) hj; omega)⟩
 · have : a = l.length := by omega
   subst this
   refine List.findIdx_eq_length_of_false fun x hx => ?_
   obtain ⟨j, hj, rfl⟩ := List.getElem_of_mem hx
   exact decide_eq_false (by have := h1 j hj hj; omega)
theorem posB_le (l : List Bk) (id : Int) : posB l id ≤ l.length := List.findIdx_le_length
theorem posB_lo {l : List Bk} {id : Int} {j : Nat} (h : j < posB l id) : (l[j]'(Nat.lt_of_lt_of_le h (posB_le l id))).id < id := by
 have := List.not_of_lt_findIdx h
 simp only [Bool.not_eq_true, decide_eq_false_iff_not] at this
 omega
theorem posB_hi {l : List Bk} (hr : Rise l) {id : Int} {j : Nat} (h : posB l id ≤ j) (hj : j < l.length) : id ≤ (l[j]).id := by
 have hp : posB l id < l.length := by omega
 have h1 : id ≤ (l[posB l id]).id := by
   have := List.findIdx_getElem (w := hp)
   exact of_decide_eq_true this
 rcases Nat.lt_or_ge (posB l id) j with h2 | h2
 · have := hr.lt h2 hj; omega
 · have : j = posB l id := by omega
   subst this; exact h1
theorem hasB_at {l : List Bk} (hr : Rise l) (id : Int) : hasB l id = true ↔ ∃ h : posB l id < l.length, (l[posB l id]).id = id := by
 unfold hasB
 rw [List.any_eq_true]
 constructor
 · rintro ⟨b, hb, he⟩
   obtain ⟨j, hj, rfl⟩ := List.getElem_of_mem hb
   have he := eq_of_beq he
   have h1 : ¬ j < posB l id := fun h => by have := posB_lo h; omega
   refine ⟨by omega, ?_⟩
   have h2 := posB_hi hr (Nat.le_refl (posB l id)) (by omega)
   rcases Nat.lt_or_ge (posB l id) j with h3 | h3
   · have := hr.lt h3 hj; omega
   · have : j = posB l id := by omega
     subst this; exact he
 · rintro ⟨h, he⟩
   exact ⟨_, List.getElem_mem h, by simp [he]⟩
theorem farm_at_1 (b : Bk) (id : Int) (w : World) : Ret Tryz.prog F.farm_at_1 #[.agg b.c.toArray, .int .i64 id] w (fun v w' => v = .int .i64 (cmpI b.id id) ∧ Ext w w') := by
 refine W.farm_at_1_ok _ id w _ ?_
 (delta W.farm_at_1 r3 nA c1; dsimp only)
 refine nxVar (vs := b.c) rfl fun w1 hv hx1 _ => ⟨b.id, hv.cell, (cmp_Compare_int b.id id w1).use ?_⟩
 rintro _ _ ⟨rfl, rfl⟩
 exact ⟨_, rfl, rfl, hx1⟩
theorem bk_Search {s : Sl} {l : List Bk} (id : Int) {w : World} (hs : BR w s l) (hr : Rise l) (hn : l.length ≤ 1000000) :
   Ret Tryz.prog F.slices_BinarySearchFunc_Sl_api_Backend_api_Backend_int #[.slice s.a s.len s.cap, .int .i64 id, .func (.func F.farm_at_1) #[] #[]] w (fun v w' => v = .tuple #[.int .i64 ((posB l id : Nat) : Int), .bool (hasB l id)] ∧ Ext w w') := by
 refine W.slices_BinarySearchFunc_Sl_api_Backend_api_Backend_int_ok s id ⟨F.farm_at_1, #[], #[]⟩ w _ ?_
 (delta W.slices_BinarySearchFunc_Sl_api_Backend_api_Backend_int Br wI ix; dsimp only)
 have hl := BR.len hs
 have hcall : Callable Tryz.prog F.farm_at_1 := ⟨_, (Option.some_get (show (Tryz.prog.funcs[F.farm_at_1]?).isSome = true by kernel_rfl)).symm, by kernel_rfl, by kernel_rfl⟩
 refine ⟨fun lo hi w' => ∃ a b : Nat, lo = a ∧ hi = b ∧ a ≤ b ∧ b ≤ l.length ∧ Ext w w' ∧ (∀ (j : Nat) (h : j < l.length), j < a → (l[j]).id < id) ∧ (∀ (j : Nat) (h : j < l.length), b ≤ j → id ≤ (l[j]).id), fun lo hi _ => (hi - lo).toNat,
   ⟨0, l.length, rfl, by rw [hl], Nat.zero_le _, Nat.le_refl _, .refl _ _, fun j _ h => by omega, fun j h h2 => by omega⟩, ?_⟩
 rintro _ _ w5 ⟨a, b, rfl, rfl, hab, hb, hx5, h1, h2⟩
 have hm := mid_wrap (a := a) (b := b) (by omega)
 refine ⟨fun h => ?_, fun h => ?_⟩
 · have hlt : (a : Int) < (b : Int) := of_decide_eq_true h
   rw [hm]
   obtain ⟨m, hmd⟩ : ∃ m, m = (a + b) / 2 := ⟨_, rfl⟩
   rw [← hmd]
   have hm1 : a ≤ m := by omega
   have hm2 : m < b := by omega
   obtain ⟨A, hA, hbd, hrd⟩ := BR.get (hs.ext hx5) (i := m) (by omega)
   refine ⟨by decide, A, hA, hbd, _, hrd, hcall, (farm_at_1 _ id w5).use ?_⟩
   rintro _ w8 ⟨rfl, hx8⟩
   have hX8 := Ext.trans hx5 hx8
   have hw : IntKind.wrap .i64 ((m : Int) + 1) = ((m + 1 : Nat) : Int) := by rw [wrapi (by omega) (by omega)]; rfl
   refine ⟨_, rfl, fun hc => ?_, fun hc => ?_⟩
   · have hc := of_decide_eq_true hc
     have hlt2 : (l[m]).id < id := by
       unfold cmpI at hc
       split at hc
       · assumption
       · split at hc <;> omega
     rw [hw]
     have hms : ((b : Int) - ((m + 1 : Nat) : Int)).toNat < ((b : Int) - (a : Int)).toNat := by omega
     refine ⟨⟨m + 1, b, rfl, rfl, by omega, hb, hX8, fun j hj hja => ?_, h2⟩, hms⟩
     rcases Nat.lt_or_ge j m with h3 | h3
     · have := hr.lt h3 (by omega : m < l.length); omega
     · have : j = m := by omega
       subst this; exact hlt2
   · have hc := of_decide_eq_false hc
     have hge : id ≤ (l[m]).id := by
       unfold cmpI at hc
       split at hc
       · omega
       · omega
     have hms : ((m : Int) - (a : Int)).toNat < ((b : Int) - (a : Int)).toNat := by omega
     refine ⟨⟨a, m, rfl, rfl, hm1, by omega, hX8, h1, fun j hj hja => ?_⟩, hms⟩
     rcases Nat.lt_or_ge m j with h3 | h3
     · have := hr.lt h3 hj; omega
     · have : j = m := by omega
       subst this; exact hge
 · have hge : ¬ (a : Int) < (b : Int) := of_decide_eq_false h
   have hba : b = a := by omega
   subst hba
   have hp : posB l id = b := posB_eq hb h1 h2
   refine Jn1 (fun c w' => Ext w w' ∧ c = hasB l id) (fun q hq => ⟨fun h => ?_, fun h => ?_⟩) ?_
   · have hlt : (b : Int) < ((s.len : Nat) : Int) := of_decide_eq_true h
     have hlt : b < l.length := by omega
     obtain ⟨A, hA, hbd, hrd⟩ := BR.get (hs.ext hx5) hlt
     refine ⟨A, hA, hbd, _, hrd, hcall, (farm_at_1 _ id w5).use ?_⟩
     rintro _ w8 ⟨rfl, hx8⟩
     refine ⟨_, rfl, hq _ _ ⟨Ext.trans hx5 hx8, ?_⟩⟩
     rw [Bool.eq_iff_iff, hasB_at hr, beq_iff_eq]
     constructor
     · intro hc
       refine ⟨by omega, ?_⟩
       simp only [hp]
       unfold cmpI at hc
       split at hc
       · omega
       · split at hc <;> omega
     · rintro ⟨_, he⟩
       simp only [hp] at he
       unfold cmpI
       rw [if_neg (by omega), if_neg (by omega)]
   · have hge : ¬ (b : Int) < ((s.len : Nat) : Int) := of_decide_eq_false h
     refine hq _ _ ⟨hx5, ?_⟩
     symm
     rw [Bool.eq_false_iff]
     intro hc
     obtain ⟨h3, _⟩ := (hasB_at hr id).1 hc
     omega
   · rintro _ w8 ⟨hx8, rfl⟩
     exact ⟨by rw [hp], hx8⟩
end Go.Proofs.YtgljoledlhmhnaaGreatDoor
namespace Go.Proofs.YtgljoledlhmhnaaGreatDoor
open Go Gx
theorem infoZ {P : Program} {T : TypeId} {z : Value} (h : (P.info? T).bind (·.zero) = some z) : ∃ i, P.info? T = some i ∧ i.zero = some z := by
 cases hi : P.info? T with
 | none => rw [hi] at h; cases h
 | some i => rw [hi] at h; exact ⟨i, rfl, h⟩
theorem Dr.c_inj {a b : Dr} (h : a.c = b.c) : a = b := by
 simp only [Dr.c] at h
 obtain ⟨h1, h2⟩ := List.append_inj h (by simp [Ad.c_length])
 have h3 := Ad.c_inj h1
 cases a; cases b
 simp_all
theorem Dr.okCs (d : Dr) : Gx.okCs ((.bool :: bytesL 16) ++ [.int .u16, .int .u8]) d.c := okCs_mk d.addr.okCs ⟨_, _, rfl, ⟨_, rfl⟩, _, _, rfl, ⟨_, rfl⟩, rfl⟩
theorem eqDr (a b : Dr) : AggEq Tryz.prog Ty.farm_door a.c.toArray b.c.toArray (decide (a = b)) := by
 have h := AggEq.flat (P := Tryz.prog) (T := Ty.farm_door) (d := (Tryz.prog.underlying Ty.farm_door).get (by kernel_rfl)) (ls := (.bool :: bytesL 16) ++ [.int .u16, .int .u8]) (Option.some_get _).symm (by kernel_rfl) (by kernel_rfl) (by kernel_rfl) a.okCs b.okCs
 have e : eqVs a.c b.c = decide (a = b) := by
   rw [Bool.eq_iff_iff, eqVs_iff a.okCs b.okCs, decide_eq_true_eq]
   exact ⟨Dr.c_inj, fun h => by rw [h]⟩
 rwa [e] at h
def Bare : Value → Prop
 | .bool _ => True
 | .int _ _ => True
 | .pointer _ => True
 | _ => False
theorem sameBits_bare (n : Nat) : ∀ v, Bare v → Instr.sameBits n v v = true := by
 intro v hv
 cases v <;> simp only [Bare] at hv <;> cases n <;> simp [Instr.sameBits]
theorem sameBits_agg (n : Nat) (l : List Value) (h : ∀ v ∈ l, Bare v) : Instr.sameBits (n + 1) (.agg l.toArray) (.agg l.toArray) = true := by
 have : ∀ l : List Value, (∀ v ∈ l, Bare v) → ((l.zip l).all fun (x, y) => Instr.sameBits n x y) = true := by
   intro l
   induction l with
   | nil => intro _; rfl
   | cons v l ih =>
     intro h
     simp only [List.zip_cons_cons, List.all_cons, Bool.and_eq_true]
     exact ⟨sameBits_bare n v (h v (by simp)), ih fun u hu => h u (by simp [hu])⟩
 show ((l.toArray.size == l.toArray.size) && _) = true
 rw [beq_self_eq_true, Bool.true_and]
 exact this l h
theorem u8s_bare (l : List UInt8) : ∀ v ∈ u8s l, Bare v := by
 intro v hv
 obtain ⟨b, _, rfl⟩ := List.mem_map.1 hv
 trivial
theorem Dr.bare (d : Dr) : ∀ v ∈ d.c, Bare v := by
 intro v hv
 rcases List.mem_append.1 hv with hv | hv
 · rcases List.mem_cons.1 hv with rfl | hv
   · trivial
   · exact u8s_bare _ v hv
 · simp only [List.mem_cons, List.not_mem_nil, or_false] at hv
   rcases hv with rfl | rfl <;> trivial
theorem checkDr (b : Bool) (d : Dr) (w : World) : (Instr.checkKey b 10000 Ty.farm_door (.agg d.c.toArray)).run Tryz.prog w = .ok () w := by
 obtain ⟨⟨six, l, h⟩, port, proto⟩ := d
 obtain ⟨x0, x1, x2, x3, x4, x5, x6, x7, x8, x9, x10, x11, x12, x13, x14, x15, rfl⟩ := list16 l h
 kernel_rfl
abbrev encI : Int → Value := fun n => .int .i64 n
abbrev encD : Dr → Value := fun d => .agg d.c.toArray
theorem keyI : KeyT Tryz.prog Ty.int encI := KeyT.int (by kernel_rfl)
theorem keyD : KeyT Tryz.prog Ty.farm_door encD :=
 KeyT.agg (d := (Tryz.prog.underlying Ty.farm_door).get (by kernel_rfl)) (Option.some_get _).symm (by kernel_rfl) (fun a b w => (eqDr a b).2 w) checkDr (fun d => sameBits_agg 9999 d.c d.bare)
structure Rec where
 s : Sv
 bs : List Bk
 blk : Nat
 k : Sl
structure Fm where
 p : Nat
 m1 : Nat
 m2 : Nat
def Rec.e1 (r : Rec) : Int × Value := (r.s.id, .pointer (some ⟨r.blk, 0, none⟩))
def Rec.e2 (r : Rec) : Dr × Value := (r.s.door, .int .i64 r.s.id)
structure FarmAt (w : World) (fm : Fm) (R : List Rec) : Prop where
 v : Var w fm.p [.map (some fm.m1), .map (some fm.m2)] Ty.farm_Farm
 k1 : MapK w fm.m1 encI (R.map Rec.e1)
 k2 : MapK w fm.m2 encD (R.map Rec.e2)
 ne : fm.m1 ≠ fm.m2
 sv : ∀ r ∈ R, Var w r.blk (r.s.c r.k) Ty.api_Service
 bk : ∀ r ∈ R, OwnS 21 Ty.api_Backend w r.k (bksC r.bs)
 rise : ∀ r ∈ R, Rise r.bs
 few : ∀ r ∈ R, r.bs.length ≤ 16
 ids : R.Pairwise fun a b => a.s.id < b.s.id
 len : R.length ≤ 8
 apart : ∀ a ∈ R, ∀ b ∈ R, a.s.id ≠ b.s.id → a.blk ≠ b.blk ∧ ∀ q, ownB a.k q → ¬ ownB b.k q
def foot (fm : Fm) (R : List Rec) (q : Nat) : Prop := q = fm.p ∨ q = fm.m1 ∨ q = fm.m2 ∨ ∃ r ∈ R, q = r.blk ∨ ownB r.k q
variable {w w' : World} {fm : Fm} {R : List Rec} {r : Rec}
theorem Var.inj {b : Nat} {vs us : List Value} {T T' : TypeId} (h : Var w b vs T) (h' : Var w b us T') : T = T' := (Blk.inj h h').2
theorem FarmAt.chg {W : Nat → Prop} (h : FarmAt w fm R) (hc : Chg W w w') (hn : ∀ q, foot fm R q → ¬ W q) : FarmAt w' fm R :=
 ⟨h.v.chg hc (hn _ (.inl rfl)), h.k1.chg hc (hn _ (.inr (.inl rfl))), h.k2.chg hc (hn _ (.inr (.inr (.inl rfl)))), h.ne,
  fun r hr => (h.sv r hr).chg hc (hn _ (.inr (.inr (.inr ⟨r, hr, .inl rfl⟩)))), fun r hr => (h.bk r hr).chg hc fun q hq => hn _ (.inr (.inr (.inr ⟨r, hr, .inr hq⟩))),
  h.rise, h.few, h.ids, h.len, h.apart⟩
theorem FarmAt.ext (h : FarmAt w fm R) (hc : Ext w w') : FarmAt w' fm R := h.chg hc fun _ _ h => h
theorem FarmAt.lt (h : FarmAt w fm R) {q : Nat} (hq : foot fm R q) : q < w.heap.size := by
 rcases hq with rfl | rfl | rfl | ⟨r, hr, rfl | hq⟩
 · exact h.v.lt
 · exact h.k1.lt
 · exact h.k2.lt
 · exact (h.sv r hr).lt
 · exact (h.bk r hr).lt q hq
theorem FarmAt.uniq (h : FarmAt w fm R) {a b : Rec} (ha : a ∈ R) (hb : b ∈ R) (he : a.s.id = b.s.id) : a = b := by
 obtain ⟨i, hi, rfl⟩ := List.getElem_of_mem ha
 obtain ⟨j, hj, rfl⟩ := List.getElem_of_mem hb
 have := List.pairwise_iff_getElem.1 h.ids
 rcases Nat.lt_trichotomy i j with hij | hij | hij
 · have := this i j hi hj hij; omega
 · subst hij; rfl
 · have := this j i hj hi hij; omega
theorem FarmAt.cells (h : FarmAt w fm R) : w.cell? ⟨fm.p, 0, none⟩ = some (.map (some fm.m1)) ∧ w.cell? (Addr.add ⟨fm.p, 0, none⟩ 1) = some (.map (some fm.m2)) := by
 rw [add_mk]
 exact ⟨h.v.cell, h.v.cell⟩
theorem mapT1 : Tryz.prog.underlying Ty.map_int_P_api_Service = some (.map Ty.int Ty.P_api_Service) := by kernel_rfl
theorem mapT2 : Tryz.prog.underlying Ty.map_farm_door_int = some (.map Ty.farm_door Ty.int) := by kernel_rfl
theorem zeroPS : (Tryz.prog.info? Ty.P_api_Service).bind (·.zero) = some (.pointer none) := by kernel_rfl
theorem zeroInt : (Tryz.prog.info? Ty.int).bind (·.zero) = some (.int .i64 0) := by kernel_rfl
def hasId (R : List Rec) (id : Int) : Bool := R.any fun r => r.s.id == id
def hasDoor (R : List Rec) (d : Dr) : Bool := R.any fun r => decide (r.s.door = d)
theorem hasId_true {id : Int} : hasId R id = true ↔ ∃ r ∈ R, r.s.id = id := by simp [hasId]
theorem hasId_false {id : Int} : hasId R id = false ↔ ∀ r ∈ R, r.s.id ≠ id := by simp [hasId]
theorem hasDoor_true {d : Dr} : hasDoor R d = true ↔ ∃ r ∈ R, r.s.door = d := by simp [hasDoor]
theorem hasDoor_false {d : Dr} : hasDoor R d = false ↔ ∀ r ∈ R, r.s.door ≠ d := by simp [hasDoor]
theorem FarmAt.look (h : FarmAt w fm R) (id : Int) : ∃ p : Option Addr, Sem.run Tryz.prog (Instr.lookup Ty.map_int_P_api_Service (.map (some fm.m1)) (.int .i64 id) true) w = .ok (.tuple #[.pointer p, .bool (hasId R id)]) w ∧ (∀ r ∈ R, r.s.id = id → p = some ⟨r.blk, 0, none⟩) := by
 cases hh : hasId R id with
 | true =>
   obtain ⟨r, hr, rfl⟩ := hasId_true.1 hh
   exact ⟨some ⟨r.blk, 0, none⟩, h.k1.lookup_some keyI mapT1 (k := r.s.id) (v := .pointer (some ⟨r.blk, 0, none⟩)) (List.mem_map.2 ⟨r, hr, rfl⟩) true, fun r' hr' he => by rw [h.uniq hr' hr he]⟩
 | false =>
   have hn := hasId_false.1 hh
   obtain ⟨i, hi, hz⟩ := infoZ zeroPS
   exact ⟨none, h.k1.lookup_none keyI mapT1 hi hz (fun v hv => by
     obtain ⟨r, hr, he⟩ := List.mem_map.1 hv
     simp only [Rec.e1, Prod.mk.injEq] at he
     exact hn r hr he.1) true, fun r hr he => absurd he (hn r hr)⟩
theorem FarmAt.lookD (h : FarmAt w fm R) (d : Dr) : ∃ n : Int, Sem.run Tryz.prog (Instr.lookup Ty.map_farm_door_int (.map (some fm.m2)) (.agg d.c.toArray) true) w = .ok (.tuple #[.int .i64 n, .bool (hasDoor R d)]) w := by
 cases hh : hasDoor R d with
 | true =>
   obtain ⟨r, hr, rfl⟩ := hasDoor_true.1 hh
   exact ⟨r.s.id, h.k2.lookup_some keyD mapT2 (k := r.s.door) (v := .int .i64 r.s.id) (List.mem_map.2 ⟨r, hr, rfl⟩) true⟩
 | false =>
   have hn := hasDoor_false.1 hh
   obtain ⟨i, hi, hz⟩ := infoZ zeroInt
   exact ⟨0, h.k2.lookup_none keyD mapT2 hi hz (fun v hv => by
     obtain ⟨r, hr, he⟩ := List.mem_map.1 hv
     simp only [Rec.e2, Prod.mk.injEq] at he
     exact hn r hr he.1) true⟩
theorem farm_New (w : World) : Ret Tryz.prog F.farm_New #[] w (fun v w' => ∃ fm : Fm, v = .pointer (some ⟨fm.p, 0, none⟩) ∧ FarmAt w' fm [] ∧ Ext w w' ∧ ∀ q, foot fm [] q → w.heap.size ≤ q) := by
 refine W.farm_New_ok w _ ?_
 delta W.farm_New nA
 obtain ⟨g1, g2⟩ := MapK.make (P := Tryz.prog) (enc := encI) Ty.map_int_P_api_Service w
 obtain ⟨g3, g4⟩ := MapK.make (P := Tryz.prog) (enc := encD) Ty.map_farm_door_int (w.alloc (.map #[] 0))
 have x1 : Ext w (w.alloc (.map #[] 0)) := Chg.alloc (.refl _ _) _
 have x2 : Ext (w.alloc (.map #[] 0)) ((w.alloc (.map #[] 0)).alloc (.map #[] 0)) := Chg.alloc (.refl _ _) _
 refine ⟨some w.heap.size, _, g1, some (w.alloc (.map #[] 0)).heap.size, _, g3, nxVar (vs := [.map (some w.heap.size), .map (some (w.alloc (.map #[] 0)).heap.size)]) rfl fun w5 hv hx5 hs5 => ?_⟩
 have hs : (w.alloc (.map #[] 0)).heap.size = w.heap.size + 1 := by simp
 have hs2 : ((w.alloc (.map #[] 0)).alloc (.map #[] 0)).heap.size = w.heap.size + 2 := by simp
 refine ⟨⟨_, w.heap.size, (w.alloc (.map #[] 0)).heap.size⟩, rfl, ⟨hv, (g2.ext x2).ext hx5, g4.ext hx5, by show w.heap.size ≠ (w.alloc (.map #[] 0)).heap.size; rw [hs]; omega, by simp, by simp, by simp, by simp, by simp, by simp, by simp⟩, Ext.trans (Ext.trans x1 x2) hx5, ?_⟩
 rintro q (rfl | rfl | rfl | ⟨r, hr, _⟩)
 · show w.heap.size ≤ ((w.alloc (.map #[] 0)).alloc (.map #[] 0)).heap.size; omega
 · exact Nat.le_refl _
 · show w.heap.size ≤ (w.alloc (.map #[] 0)).heap.size; omega
 · cases hr
end Go.Proofs.YtgljoledlhmhnaaGreatDoor
namespace Go.Proofs.YtgljoledlhmhnaaGreatDoor
open Go Gx
section
variable {α β : Type}
def insBy (f : α → Int) (x : α) (l : List α) : List α := l.filter (fun y => decide (f y < f x)) ++ x :: l.filter (fun y => decide (f x < f y))
theorem insBy_map (f : α → Int) (g : β → Int) (h : α → β) (hf : ∀ x, g (h x) = f x) (x : α) (l : List α) : (insBy f x l).map h = insBy g (h x) (l.map h) := by
 unfold insBy
 rw [List.map_append, List.map_cons, List.filter_map, List.filter_map]
 simp only [Function.comp_def, hf]
theorem insBy_perm (f : α → Int) (x : α) : ∀ l : List α, (∀ y ∈ l, f y ≠ f x) → (insBy f x l).Perm (x :: l)
 | l, h => by
   unfold insBy
   refine List.perm_middle.trans (List.Perm.cons _ ?_)
   have e : l.filter (fun y => decide (f x < f y)) = l.filter (fun y => !decide (f y < f x)) := by
     apply List.filter_congr
     intro y hy
     have := h y hy
     rw [Bool.eq_iff_iff]
     simp
     omega
   rw [e]
   exact List.filter_append_perm _ _
theorem insBy_mem {f : α → Int} {x y : α} {l : List α} (h : y ∈ insBy f x l) : y = x ∨ y ∈ l := by
 unfold insBy at h
 rcases List.mem_append.1 h with h | h
 · exact .inr (List.mem_filter.1 h).1
 · rcases List.mem_cons.1 h with h | h
   · exact .inl h
   · exact .inr (List.mem_filter.1 h).1
theorem insBy_ids {f : α → Int} {x : α} {l : List α} (h : l.Pairwise fun a b => f a < f b) : (insBy f x l).Pairwise fun a b => f a < f b := by
 unfold insBy
 rw [List.pairwise_append, List.pairwise_cons]
 refine ⟨h.filter _, ⟨fun y hy => ?_, h.filter _⟩, fun a ha b hb => ?_⟩
 · exact of_decide_eq_true (List.mem_filter.1 hy).2
 · have h1 : f a < f x := of_decide_eq_true (List.mem_filter.1 ha).2
   rcases List.mem_cons.1 hb with rfl | hb
   · exact h1
   · have h2 : f x < f b := of_decide_eq_true (List.mem_filter.1 hb).2
     omega
theorem insBy_len {f : α → Int} {x : α} {l : List α} (h : ∀ y ∈ l, f y ≠ f x) : (insBy f x l).length = l.length + 1 := by
 rw [(insBy_perm f x l h).length_eq]; simp
end
variable {w w' : World} {fm : Fm} {R : List Rec} {r : Rec}
def addSE (R : List Rec) (s : Sv) (k : Sl) : Int := if mayS s k then if hasId R s.id || hasDoor R s.door then 7 else if R.length ≥ 8 then 2 else 0 else 1
theorem Sv.plain (s : Sv) (k : Sl) : ∀ v ∈ s.c k, Plain v := by
 intro v hv
 rcases List.mem_cons.1 hv with rfl | hv
 · trivial
 rcases List.mem_append.1 hv with hv | hv
 · exact s.addr.plain v hv
 · simp only [List.mem_cons, List.not_mem_nil, or_false] at hv
   rcases hv with rfl | rfl | rfl | rfl | rfl <;> trivial
theorem Sv.set22 (s : Sv) (k k' : Sl) : (s.c k).set 22 (.slice k'.a k'.len k'.cap) = s.c k' := by
 unfold Sv.c
 rw [List.set_cons_succ, List.set_append_right _ _ (by rw [Ad.c_length]; decide), Ad.c_length]
 rfl
theorem Var.set {b i : Nat} {vs : List Value} {T : TypeId} (h : Var w b vs T) (v : Value) : Var (w.setCell ⟨b, i, none⟩ v) b (vs.set i v) T := by
 have := Blk.set h i v
 rwa [show vs.toArray.setIfInBounds i v = (vs.set i v).toArray by simp] at this
theorem nxSet {b i : Nat} {vs : List Value} {T : TypeId} {v : Value} (hv : Var w b vs T) {K : World → Prop} (h : ∀ w', Var w' b (vs.set i v) T → Chg (fun q => q = b) w w' → w'.heap.size = w.heap.size → K w') : Nx (w.setCell ⟨b, i, none⟩ v) K :=
 h _ (hv.set v) (Chg.set (W := fun q => q = b) (A := ⟨b, i, none⟩) (.refl _ _) (fun _ => rfl) v) (by simp [World.setCell])
theorem farm_AddService (h : FarmAt w fm R) (s : Sv) (k : Sl) : Ret Tryz.prog F.farm_Farm_AddService #[.pointer (some ⟨fm.p, 0, none⟩), .agg (s.c k).toArray] w
   (fun v w' => v = .int .i64 (addSE R s k) ∧ ((addSE R s k ≠ 0 ∧ FarmAt w' fm R ∧ Ext w w') ∨ (addSE R s k = 0 ∧ ∃ b, w.heap.size ≤ b ∧ FarmAt w' fm (insBy (fun x => x.s.id) ⟨s, [], b, ⟨none, 0, 0⟩⟩ R) ∧ Chg (foot fm R) w w'))) := by
 refine W.farm_Farm_AddService_ok (some ⟨fm.p, 0, none⟩) _ w _ ?_
 (delta W.farm_Farm_AddService Br nA c9 r3 c15 st; dsimp only)
 refine nxVar (vs := s.c k) rfl fun w1 hv hx1 _ => Jn1 (fun b w' => Ext w1 w' ∧ b = !mayS s k) (fun q hq => ⟨fun h => by simp at h, fun _ => ⟨_, hv.rd (Sv.c_length _ _), (farm_may s k w1).use ?_⟩⟩) ?_
 · rintro _ w4 ⟨rfl, hx4⟩
   exact ⟨_, rfl, hq _ _ ⟨hx4, rfl⟩⟩
 rintro _ w8 ⟨hx8, rfl⟩
 have hX8 := Ext.trans hx1 hx8
 refine ⟨fun hm => ?_, fun hm => ?_⟩
 · have hm : mayS s k = false := by simpa using hm
   have e : addSE R s k = 1 := by unfold addSE; rw [hm]; rfl
   rw [e]
   exact ⟨rfl, .inl ⟨by decide, h.ext hX8, hX8⟩⟩
 have hm : mayS s k = true := by simpa using hm
 have hd9 : Ext w8 w8.drew := Chg.drew (.refl _ _)
 have hX9 := Ext.trans hX8 hd9
 have h9 := h.ext hX9
 have hv9 := (hv.ext hx8).ext hd9
 obtain ⟨p14, hl1, hp14⟩ := h9.look s.id
 have hd17 : Ext w8.drew w8.drew.drew := Chg.drew (.refl _ _)
 have hX17 := Ext.trans hX9 hd17
 have h17 := h.ext hX17
 have hv17 := hv9.ext hd17
 refine nx ⟨fun _ => False, _, rfl, id, _, h9.cells.1, id, _, (scell hv9).1, p14, _, _, hl1, nx ⟨fun _ => False, _, rfl, id, _, h17.cells.2, id, _, hv17.rd (Sv.c_length _ _), (farm_of s k _).use ?_⟩⟩
 rintro _ w22 ⟨rfl, hx22⟩
 have hX22 := Ext.trans hX17 hx22
 have h22 := h.ext hX22
 have hv22 := hv17.ext hx22
 obtain ⟨n25, hl2⟩ := h22.lookD s.door
 refine ⟨_, rfl, hx22, n25, _, _, hl2, .refl _ _, fun hb => ?_, fun hb => ?_⟩
 · have e : addSE R s k = 7 := by unfold addSE; rw [hm, hb]; rfl
   rw [e]
   exact ⟨rfl, .inl ⟨by decide, h22, hX22⟩⟩
 refine ⟨_, rfl, _, h22.cells.1, _, _, h22.k1.len mapT1, fun hl => ?_, fun hl => ?_⟩
 · have hl := of_decide_eq_true hl
   rw [List.length_map] at hl
   have e : addSE R s k = 2 := by unfold addSE; rw [hm, hb, if_pos rfl]; simp only [Bool.false_eq_true, if_false]; rw [if_pos (by omega)]
   rw [e]
   exact ⟨rfl, .inl ⟨by decide, h22, hX22⟩⟩
 have hl := of_decide_eq_false hl
 rw [List.length_map] at hl
 have e0 : addSE R s k = 0 := by unfold addSE; rw [hm, hb, if_pos rfl]; simp only [Bool.false_eq_true, if_false]; rw [if_neg (by omega)]
 simp only [Bool.or_eq_false_iff] at hb
 have hnid := hasId_false.1 hb.1
 have hnd := hasDoor_false.1 hb.2
 have hcell : w22.cell? (Addr.add ⟨w.heap.size, 0, none⟩ 22) = some (.slice k.a k.len k.cap) := (scell hv22).2.2.2.2.2.2
 refine ⟨⟨_, hcell⟩, by rw [add_mk]; exact Blk.frozen hv22 _ rfl, ?_⟩
 rw [add_mk]
 refine nxSet hv22 fun w32 hv32 hc32 hs32 => ?_
 have ev : (s.c k).set (0 + 22) (.slice none 0 0) = s.c ⟨none, 0, 0⟩ := s.set22 k ⟨none, 0, 0⟩
 rw [ev] at hv32
 have hX32 : Ext w w32 := Ext.of_chg hX22 hc32 (Nat.le_refl _)
 have hd33 : Ext w32 w32.drew := Chg.drew (.refl _ _)
 have hX33 := Ext.trans hX32 hd33
 have h33 := h.ext hX33
 have hv33 := hv32.ext hd33
 refine nx ⟨fun _ => False, _, rfl, id, _, h33.cells.1, id, _, (scell hv33).1, _, rfl, id, _, h33.cells.2, id, _, hv33.rd (Sv.c_length _ _), id, _, (scell hv33).1, (farm_of s _ _).use ?_⟩
 rintro _ w42 ⟨rfl, hx42⟩
 have hX42 := Ext.trans hX33 hx42
 have h42 := h.ext hX42
 have hv42 := hv33.ext hx42
 obtain ⟨i1, hi1, hz1⟩ := infoZ zeroPS
 obtain ⟨i2, hi2, hz2⟩ := infoZ zeroInt
 obtain ⟨st1, w45, hr45, hc45, hs45, hE45⟩ := h42.k1.entry_new keyI mapT1 (k := s.id) hi1 hz1 (fun v hv => by
   obtain ⟨x, hx, he⟩ := List.mem_map.1 hv
   simp only [Rec.e1, Prod.mk.injEq] at he
   exact hnid x hx he.1)
 obtain ⟨w48, hr48, hc48, hs48, hK48⟩ := hE45.store (P := Tryz.prog) Ty.map_int_P_api_Service (.pointer (some ⟨w.heap.size, 0, none⟩))
 have hc48' : Chg (fun q => q = fm.m1) w42 w48 := hc45.trans hc48
 have hk2 : MapK w48 fm.m2 encD (R.map Rec.e2) := h42.k2.chg hc48' (fun e => h.ne e.symm)
 obtain ⟨st2, w49, hr49, hc49, hs49, hE49⟩ := hk2.entry_new keyD mapT2 (k := s.door) hi2 hz2 (fun v hv => by
   obtain ⟨x, hx, he⟩ := List.mem_map.1 hv
   simp only [Rec.e2, Prod.mk.injEq] at he
   exact hnd x hx he.1)
 obtain ⟨w52, hr52, hc52, hs52, hK52⟩ := hE49.store (P := Tryz.prog) Ty.map_farm_door_int (.int .i64 s.id)
 have hc52' : Chg (fun q => q = fm.m2) w48 w52 := hc49.trans hc52
 refine ⟨_, rfl, hx42, _, st1, w45, hr45, w48, hr48, _, st2, w49, hr49, w52, hr52, by rw [e0], .inr ⟨e0, w.heap.size, Nat.le_refl _, ?_, ?_⟩⟩
 · have hC : Chg (fun q => q = fm.m1 ∨ q = fm.m2) w42 w52 := (Chg.mono hc48' fun _ _ h => .inl h).trans (Chg.mono hc52' fun _ _ h => .inr h)
   have hid : ∀ y ∈ R, y.s.id ≠ s.id := hnid
   obtain ⟨x, hx⟩ : ∃ x : Rec, x = ⟨s, [], w.heap.size, ⟨none, 0, 0⟩⟩ := ⟨_, rfl⟩
   have hp : (insBy (fun x : Rec => x.s.id) x R).Perm (x :: R) := insBy_perm _ _ _ (by rw [hx]; exact hid)
   rw [← hx]
   have hmem : ∀ y ∈ insBy (fun x : Rec => x.s.id) x R, y = x ∨ y ∈ R := fun y hy => insBy_mem hy
   have hk1' : MapK w52 fm.m1 encI ((insBy (fun x : Rec => x.s.id) x R).map Rec.e1) := by
     refine (hK48.chg hc52' h.ne).perm ?_
     have := (hp.map Rec.e1).symm
     rw [List.map_cons] at this
     rw [hx] at this ⊢
     exact this
   have hk2' : MapK w52 fm.m2 encD ((insBy (fun x : Rec => x.s.id) x R).map Rec.e2) := by
     refine hK52.perm ?_
     have := (hp.map Rec.e2).symm
     rw [List.map_cons] at this
     rw [hx] at this ⊢
     exact this
   have hnm : ∀ q c T, Blk w42 q c T → ¬ (q = fm.m1 ∨ q = fm.m2) := by
     rintro q c T hB (rfl | rfl)
     · exact h42.k1.notVar hB
     · exact h42.k2.notVar hB
   have hlt : ∀ y ∈ R, y.blk < w.heap.size := fun y hy => (h.sv y hy).lt
   refine ⟨h42.v.chg hC (hnm _ _ _ h42.v), hk1', hk2', h.ne, fun y hy => ?_, fun y hy => ?_, fun y hy => ?_, fun y hy => ?_, insBy_ids h.ids, ?_, fun a ha b hb hne => ?_⟩
   · rcases hmem y hy with rfl | hy
     · rw [hx]; exact hv42.chg hC (hnm _ _ _ hv42)
     · exact (h42.sv y hy).chg hC (hnm _ _ _ (h42.sv y hy))
   · rcases hmem y hy with rfl | hy
     · rw [hx]; exact OwnS.none _ _ _
     · exact (h42.bk y hy).chg hC fun q hq hm => hm.elim (fun e => by subst e; exact (h42.bk y hy).notMap hq h42.k1) (fun e => by subst e; exact (h42.bk y hy).notMap hq h42.k2)
   · rcases hmem y hy with rfl | hy
     · rw [hx]; exact List.Pairwise.nil
     · exact h.rise y hy
   · rcases hmem y hy with rfl | hy
     · rw [hx]; exact Nat.zero_le _
     · exact h.few y hy
   · rw [insBy_len (by rw [hx]; exact hid)]; omega
   · rcases hmem a ha with rfl | ha2 <;> rcases hmem b hb with rfl | hb2
     · exact absurd rfl hne
     · refine ⟨?_, fun q hq => ?_⟩
       · have := hlt b hb2; rw [hx]; show w.heap.size ≠ _; omega
       · rw [hx] at hq; exact (ownB_none q hq).elim
     · refine ⟨?_, fun q _ hq => ?_⟩
       · have := hlt a ha2; rw [hx]; show _ ≠ w.heap.size; omega
       · rw [hx] at hq; exact (ownB_none q hq).elim
     · exact h.apart a ha2 b hb2 hne
 · exact (Chg.of_ext hX42).trans ((Chg.mono hc48' fun q _ e => .inr (.inl e)).trans (Chg.mono hc52' fun q _ e => .inr (.inr (.inl e))))
end Go.Proofs.YtgljoledlhmhnaaGreatDoor
namespace Go.Proofs.YtgljoledlhmhnaaGreatDoor
open Go Gx
variable {w w' : World} {fm : Fm} {R : List Rec} {r : Rec}
abbrev SB := Sv × List Bk
def absR (R : List Rec) : List SB := R.map fun r => (r.s, r.bs)
def addService (L : List SB) (s : Sv) (k : Sl) : Int × List SB :=
 if mayS s k then if (L.any fun x => x.1.id == s.id) || (L.any fun x => decide (x.1.door = s.door)) then (7, L) else if L.length ≥ 8 then (2, L) else (0, insBy (fun x => x.1.id) (s, []) L) else (1, L)
def dropService (L : List SB) (id : Int) : Int × List SB :=
 if L.any fun x => x.1.id == id then (0, L.filter fun x => !(x.1.id == id)) else (6, L)
def updL (L : List SB) (sid : Int) (g : List Bk → List Bk) : List SB := L.map fun x => if x.1.id = sid then (x.1, g x.2) else x
def canB (s : Sv) (b : Bk) : Bool := idOk b.id && b.addr.good && (b.addr.six == s.addr.six) && !(b.port == 0) && weightOk b.weight && !b.drained
def insB (b : Bk) (l : List Bk) : List Bk := l.take (posB l b.id) ++ [b] ++ l.drop (posB l b.id)
def addBackend (L : List SB) (sid : Int) (b : Bk) : Int × List SB :=
 match L.find? fun x => x.1.id == sid with
 | none => (6, L)
 | some x => if canB x.1 b then if hasB x.2 b.id then (7, L) else if x.2.length ≥ 16 then (2, L) else (0, updL L sid (insB b)) else (1, L)
def hasSB (L : List SB) (sid bid : Int) : Bool := L.any fun x => (x.1.id == sid) && hasB x.2 bid
def delB (bid : Int) (l : List Bk) : List Bk := l.take (posB l bid) ++ l.drop (posB l bid + 1)
def modB (bid : Int) (g : Bk → Bk) (l : List Bk) : List Bk := l.modify (posB l bid) g
def dropBackend (L : List SB) (sid bid : Int) : Int × List SB := if hasSB L sid bid then (0, updL L sid (delB bid)) else (6, L)
def drain (L : List SB) (sid bid : Int) (on : Bool) : Int × List SB := if hasSB L sid bid then (0, updL L sid (modB bid fun b => { b with drained := on })) else (6, L)
def weigh (L : List SB) (sid bid : Int) (n : Int) : Int × List SB := if hasSB L sid bid then if weightOk n then (0, updL L sid (modB bid fun b => { b with weight := n })) else (1, L) else (6, L)
def Step (fm : Fm) (R : List Rec) (w : World) (x : Int × List SB) (v : Value) (w' : World) : Prop :=
 v = .int .i64 x.1 ∧ ∃ R', FarmAt w' fm R' ∧ absR R' = x.2 ∧ Chg (foot fm R) w w' ∧ ∀ q, foot fm R' q → foot fm R q ∨ w.heap.size ≤ q
theorem Step.same (h : FarmAt w fm R) (hx : Ext w w') {e : Int} {v : Value} (hv : v = .int .i64 e) : Step fm R w (e, absR R) v w' :=
 ⟨hv, R, h.ext hx, rfl, Chg.of_ext hx, fun _ h => .inl h⟩
theorem any_abs (R : List Rec) (p : SB → Bool) : (absR R).any p = R.any fun r => p (r.s, r.bs) := by unfold absR; rw [List.any_map]; rfl
theorem farm_AddService' (h : FarmAt w fm R) (s : Sv) (k : Sl) : Ret Tryz.prog F.farm_Farm_AddService #[.pointer (some ⟨fm.p, 0, none⟩), .agg (s.c k).toArray] w (fun v w' => Step fm R w (addService (absR R) s k) v w') := by
 refine (farm_AddService h s k).mono ?_
 have e : (addService (absR R) s k).1 = addSE R s k := by
   unfold addService addSE
   rw [any_abs, any_abs, show (absR R).length = R.length by simp [absR]]
   show _ = if mayS s k then if (hasId R s.id || hasDoor R s.door) = true then (7 : Int) else if R.length ≥ 8 then 2 else 0 else 1
   unfold hasId hasDoor
   split
   · split
     · rfl
     · split <;> rfl
   · rfl
 have e2 : addSE R s k ≠ 0 → (addService (absR R) s k).2 = absR R := by
   intro hne
   rw [← e] at hne
   unfold addService at hne ⊢
   split
   · split
     · rfl
     · split
       · rfl
       · rename_i h1 h2 h3
         rw [if_pos h1, if_neg h2, if_neg h3] at hne
         exact absurd rfl hne
   · rfl
 have e3 : addSE R s k = 0 → (addService (absR R) s k).2 = insBy (fun x => x.1.id) (s, []) (absR R) := by
   intro h0
   rw [← e] at h0
   unfold addService at h0 ⊢
   split
   · split
     · rename_i h1 h2
       rw [if_pos h1, if_pos h2] at h0; exact absurd h0 (show (7 : Int) ≠ 0 by decide)
     · split
       · rename_i h1 h2 h3
         rw [if_pos h1, if_neg h2, if_pos h3] at h0; exact absurd h0 (show (2 : Int) ≠ 0 by decide)
       · rfl
   · rename_i h1
     rw [if_neg h1] at h0; exact absurd h0 (show (1 : Int) ≠ 0 by decide)
 rintro v w' ⟨rfl, ⟨hne, h', hx⟩ | ⟨h0, b, hb, h', hc⟩⟩
 · exact ⟨by rw [e], R, h', (e2 hne).symm, Chg.of_ext hx, fun _ h => .inl h⟩
 · refine ⟨by rw [e], _, h', ?_, hc, fun q hq => ?_⟩
   · rw [e3 h0]
     exact insBy_map (fun x : Rec => x.s.id) (fun x : SB => x.1.id) (fun r : Rec => (r.s, r.bs)) (fun _ => rfl) _ _
   · rcases hq with rfl | rfl | rfl | ⟨x, hx, hq⟩
     · exact .inl (.inl rfl)
     · exact .inl (.inr (.inl rfl))
     · exact .inl (.inr (.inr (.inl rfl)))
     · rcases insBy_mem hx with rfl | hx
       · rcases hq with rfl | hq
         · exact .inr hb
         · exact (ownB_none q hq).elim
       · exact .inl (.inr (.inr (.inr ⟨x, hx, hq⟩)))
theorem ids_split (hi : R.Pairwise fun a b => a.s.id < b.s.id) (hr : r ∈ R) : ∃ A B, R = A ++ r :: B ∧ R.filter (fun x => !(x.s.id == r.s.id)) = A ++ B ∧ (∀ x ∈ A, x.s.id ≠ r.s.id) ∧ ∀ x ∈ B, x.s.id ≠ r.s.id := by
 obtain ⟨A, B, rfl⟩ := List.append_of_mem hr
 rw [List.pairwise_append, List.pairwise_cons] at hi
 have hA : ∀ x ∈ A, x.s.id ≠ r.s.id := fun x hx => by have := hi.2.2 x hx r (by simp); omega
 have hB : ∀ x ∈ B, x.s.id ≠ r.s.id := fun x hx => by have := hi.2.1.1 x hx; omega
 refine ⟨A, B, rfl, ?_, hA, hB⟩
 rw [List.filter_append, List.filter_cons, if_neg (by simp), List.filter_eq_self.2 (fun x hx => by simpa using hA x hx), List.filter_eq_self.2 (fun x hx => by simpa using hB x hx)]
theorem farm_DropService (h : FarmAt w fm R) (id : Int) : Ret Tryz.prog F.farm_Farm_DropService #[.pointer (some ⟨fm.p, 0, none⟩), .int .i64 id] w (fun v w' => Step fm R w (dropService (absR R) id) v w') := by
 refine W.farm_Farm_DropService_ok (some ⟨fm.p, 0, none⟩) id w _ ?_
 (delta W.farm_Farm_DropService Br r8 c15 c18; dsimp only)
 obtain ⟨p3, hl, hp3⟩ := h.look id
 have e : (absR R).any (fun x => x.1.id == id) = hasId R id := by rw [any_abs]; rfl
 refine ⟨fun hn => by simp at hn, fun _ => ⟨_, rfl, _, h.cells.1, p3, _, w, hl, fun hb => ?_, fun hb => ?_⟩⟩
 · have hb : hasId R id = false := by simpa using hb
   have ed : dropService (absR R) id = (6, absR R) := by unfold dropService; rw [e, hb]; rfl
   rw [ed]
   exact Step.same h (.refl _ _) rfl
 · have hb : hasId R id = true := by simpa using hb
   have ed : dropService (absR R) id = (0, (absR R).filter fun x => !(x.1.id == id)) := by unfold dropService; rw [e, hb]; rfl
   rw [ed]
   obtain ⟨r, hr, rfl⟩ := hasId_true.1 hb
   obtain ⟨A, B, hR, hf, hA, hB⟩ := ids_split h.ids hr
   have hp1 : (R.map Rec.e1).Perm (r.e1 :: (R.filter fun x => !(x.s.id == r.s.id)).map Rec.e1) := by rw [hf, hR, List.map_append, List.map_cons, List.map_append]; exact List.perm_middle
   have hp2 : (R.map Rec.e2).Perm (r.e2 :: (R.filter fun x => !(x.s.id == r.s.id)).map Rec.e2) := by rw [hf, hR, List.map_append, List.map_cons, List.map_append]; exact List.perm_middle
   obtain ⟨w9, hr9, hc9, hs9, hK9⟩ := (h.k1.perm hp1).delete_some keyI mapT1 (kT' := Ty.int) (o := Ty.t)
   have hd : Ext w9 w9.drew := Chg.drew (.refl _ _)
   have hv9 : Var w9 fm.p _ Ty.farm_Farm := h.v.chg hc9 (fun e => by have := h.k1; rw [← e] at this; exact this.notVar h.v)
   have hsv := h.sv r hr
   have hsv9 : Var w9 r.blk (r.s.c r.k) Ty.api_Service := hsv.chg hc9 (fun e => by have := h.k1; rw [← e] at this; exact this.notVar hsv)
   have hk2 : MapK w9.drew fm.m2 encD (r.e2 :: (R.filter fun x => !(x.s.id == r.s.id)).map Rec.e2) := ((h.k2.perm hp2).chg hc9 (fun e => h.ne e.symm)).ext hd
   refine ⟨_, rfl, _, h.cells.1, _, w9, hr9, nx ⟨fun _ => False, _, rfl, id, some fm.m2, ?_, ⟨r.blk, 0, none⟩, hp3 r hr rfl, id, _, (hsv9.ext hd).rd (Sv.c_length _ _), (farm_of r.s r.k _).use ?_⟩⟩
   · have := (hv9.ext hd).cell (i := 1)
     rw [add_mk]; exact this
   rintro _ w16 ⟨rfl, hx16⟩
   obtain ⟨w20, hr20, hc20, hs20, hK20⟩ := (hk2.ext hx16).delete_some keyD mapT2 (kT' := Ty.farm_door) (o := Ty.t)
   refine ⟨_, rfl, hx16, _, w20, hr20, rfl, R.filter (fun x => !(x.s.id == r.s.id)), ?_, ?_, ?_, ?_⟩
   · have hx : Ext w9 w16 := Ext.trans hd hx16
     have hC : Chg (fun q => q = fm.m1 ∨ q = fm.m2) w w20 := (Chg.mono hc9 fun _ _ h => .inl h).trans ((Chg.of_ext hx).trans (Chg.mono hc20 fun _ _ h => .inr h))
     have hnm : ∀ q c T, Blk w q c T → ¬ (q = fm.m1 ∨ q = fm.m2) := by
       rintro q c T hB (rfl | rfl)
       · exact h.k1.notVar hB
       · exact h.k2.notVar hB
     have hsub : ∀ y ∈ R.filter (fun x => !(x.s.id == r.s.id)), y ∈ R := fun y hy => (List.mem_filter.1 hy).1
     refine ⟨h.v.chg hC (hnm _ _ _ h.v), ((hK9.ext hx).chg hc20 h.ne), hK20, h.ne, fun y hy => (h.sv y (hsub y hy)).chg hC (hnm _ _ _ (h.sv y (hsub y hy))), fun y hy => (h.bk y (hsub y hy)).chg hC fun q hq hm => ?_,
       fun y hy => h.rise y (hsub y hy), fun y hy => h.few y (hsub y hy), h.ids.filter _, Nat.le_trans (List.length_filter_le _ _) h.len, fun a ha b hb hne => h.apart a (hsub a ha) b (hsub b hb) hne⟩
     rcases hm with rfl | rfl
     · exact (h.bk y (hsub y hy)).notMap hq h.k1
     · exact (h.bk y (hsub y hy)).notMap hq h.k2
   · unfold absR; rw [List.filter_map]; rfl
   · exact (Chg.mono hc9 fun q _ e => .inr (.inl e)).trans ((Chg.of_ext (Ext.trans hd hx16)).trans (Chg.mono hc20 fun q _ e => .inr (.inr (.inl e))))
   · intro q hq
     rcases hq with rfl | rfl | rfl | ⟨x, hx, hq⟩
     · exact .inl (.inl rfl)
     · exact .inl (.inr (.inl rfl))
     · exact .inl (.inr (.inr (.inl rfl)))
     · exact .inl (.inr (.inr (.inr ⟨x, (List.mem_filter.1 hx).1, hq⟩)))
theorem FarmAt.set (h : FarmAt w fm R) (hr : r ∈ R) {bs : List Bk} {k : Sl} (hc : Chg (fun q => q = r.blk ∨ ownB r.k q) w w') (hv : Var w' r.blk (r.s.c k) Ty.api_Service) (ho : OwnS 21 Ty.api_Backend w' k (bksC bs)) (hri : Rise bs) (hfew : bs.length ≤ 16)
   (hfr : ∀ q, ownB k q → ownB r.k q ∨ w.heap.size ≤ q) : ∃ R', FarmAt w' fm R' ∧ absR R' = (absR R).map (fun x => if x.1.id = r.s.id then (x.1, bs) else x) ∧ ∀ q, foot fm R' q → foot fm R q ∨ w.heap.size ≤ q := by
 obtain ⟨g, hg⟩ : ∃ g : Rec → Rec, g = fun x => if x.s.id = r.s.id then ⟨x.s, bs, x.blk, k⟩ else x := ⟨_, rfl⟩
 have hgs : ∀ x, (g x).s = x.s ∧ (g x).blk = x.blk := fun x => by rw [hg]; simp only; split <;> exact ⟨rfl, rfl⟩
 have hg1 : g r = ⟨r.s, bs, r.blk, k⟩ := by rw [hg]; simp
 have hg2 : ∀ x ∈ R, x.s.id ≠ r.s.id → g x = x := fun x _ hx => by rw [hg]; simp [hx]
 have hcase : ∀ x ∈ R, (x = r ∧ g x = ⟨r.s, bs, r.blk, k⟩) ∨ (x.s.id ≠ r.s.id ∧ g x = x) := fun x hx => by
   by_cases he : x.s.id = r.s.id
   · have := h.uniq hx hr he
     subst this
     exact .inl ⟨rfl, hg1⟩
   · exact .inr ⟨he, hg2 x hx he⟩
 have hbr := h.bk r hr
 have hsr := h.sv r hr
 have hW : ∀ q c T, Blk w q c T → T ≠ Ty.api_Backend → q ≠ r.blk → ¬ (q = r.blk ∨ ownB r.k q) := by
   rintro q c T hB hT hq (e | e)
   · exact hq e
   · exact hT (hbr.notVar e hB).symm
 have hm : ∀ {α : Type} {enc : α → Value} {M : List (α × Value)} {q : Nat}, MapK w q enc M → ¬ (q = r.blk ∨ ownB r.k q) := by
   rintro α enc M q hM (rfl | e)
   · exact hM.notVar hsr
   · exact hbr.notMap e hM
 have e1 : (R.map g).map Rec.e1 = R.map Rec.e1 := by
   rw [List.map_map]; exact List.map_congr_left fun x _ => by simp only [Function.comp, Rec.e1, (hgs x).1, (hgs x).2]
 have e2 : (R.map g).map Rec.e2 = R.map Rec.e2 := by
   rw [List.map_map]; exact List.map_congr_left fun x _ => by simp only [Function.comp, Rec.e2, (hgs x).1]
 have hold : ∀ x ∈ R, ∀ q, ownB x.k q → q < w.heap.size := fun x hx => (h.bk x hx).lt
 refine ⟨R.map g, ⟨h.v.chg hc (hW _ _ _ h.v (by decide) (fun e => by have := h.v; rw [e] at this; exact absurd (this.inj hsr) (by decide))), by rw [e1]; exact h.k1.chg hc (hm h.k1), by rw [e2]; exact h.k2.chg hc (hm h.k2), h.ne, fun y hy => ?_, fun y hy => ?_, fun y hy => ?_, fun y hy => ?_, ?_, by rw [List.length_map]; exact h.len, fun a ha b hb hne => ?_⟩, ?_, fun q hq => ?_⟩
 · obtain ⟨x, hx, rfl⟩ := List.mem_map.1 hy
   rcases hcase x hx with ⟨rfl, he⟩ | ⟨hne, he⟩
   · rw [he]; exact hv
   · rw [he]; exact (h.sv x hx).chg hc (hW _ _ _ (h.sv x hx) (by decide) (h.apart x hx r hr hne).1)
 · obtain ⟨x, hx, rfl⟩ := List.mem_map.1 hy
   rcases hcase x hx with ⟨rfl, he⟩ | ⟨hne, he⟩
   · rw [he]; exact ho
   · rw [he]
     refine (h.bk x hx).chg hc fun q hq hm => ?_
     rcases hm with rfl | hm
     · exact absurd ((h.bk x hx).notVar hq hsr) (by decide)
     · exact (h.apart x hx r hr hne).2 q hq hm
 · obtain ⟨x, hx, rfl⟩ := List.mem_map.1 hy
   rcases hcase x hx with ⟨rfl, he⟩ | ⟨hne, he⟩
   · rw [he]; exact hri
   · rw [he]; exact h.rise x hx
 · obtain ⟨x, hx, rfl⟩ := List.mem_map.1 hy
   rcases hcase x hx with ⟨rfl, he⟩ | ⟨hne, he⟩
   · rw [he]; exact hfew
   · rw [he]; exact h.few x hx
 · rw [List.pairwise_map]
   exact h.ids.imp fun {a b} hab => by rw [(hgs a).1, (hgs b).1]; exact hab
 · obtain ⟨x, hx, rfl⟩ := List.mem_map.1 ha
   obtain ⟨y, hy, rfl⟩ := List.mem_map.1 hb
   rw [(hgs x).1, (hgs y).1] at hne
   refine ⟨by rw [(hgs x).2, (hgs y).2]; exact (h.apart x hx y hy hne).1, fun q hq hq2 => ?_⟩
   rcases hcase x hx with ⟨rfl, he⟩ | ⟨hne2, he⟩ <;> rcases hcase y hy with ⟨rfl, he2⟩ | ⟨hne3, he2⟩
   · exact hne rfl
   · rw [he] at hq; rw [he2] at hq2
     rcases hfr q hq with h1 | h1
     · exact (h.apart x hx y hy hne).2 q h1 hq2
     · have := hold y hy q hq2; omega
   · rw [he] at hq; rw [he2] at hq2
     rcases hfr q hq2 with h1 | h1
     · exact (h.apart x hx y hy hne).2 q hq h1
     · have := hold x hx q hq; omega
   · rw [he] at hq; rw [he2] at hq2
     exact (h.apart x hx y hy hne).2 q hq hq2
 · unfold absR
   rw [List.map_map, List.map_map]
   refine List.map_congr_left fun x hx => ?_
   simp only [Function.comp]
   rcases hcase x hx with ⟨rfl, he⟩ | ⟨hne, he⟩
   · rw [he, if_pos rfl]
   · rw [he, if_neg hne]
 · rcases hq with rfl | rfl | rfl | ⟨y, hy, hq⟩
   · exact .inl (.inl rfl)
   · exact .inl (.inr (.inl rfl))
   · exact .inl (.inr (.inr (.inl rfl)))
   · obtain ⟨x, hx, rfl⟩ := List.mem_map.1 hy
     rcases hcase x hx with ⟨rfl, he⟩ | ⟨hne, he⟩
     · rw [he] at hq
       rcases hq with rfl | hq
       · exact .inl (.inr (.inr (.inr ⟨x, hx, .inl rfl⟩)))
       · rcases hfr q hq with h1 | h1
         · exact .inl (.inr (.inr (.inr ⟨x, hx, .inr h1⟩)))
         · exact .inr h1
     · rw [he] at hq
       exact .inl (.inr (.inr (.inr ⟨x, hx, hq⟩)))
end Go.Proofs.YtgljoledlhmhnaaGreatDoor
