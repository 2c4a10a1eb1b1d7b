/- Numerals to base sixteen: FormatUint; FormatUint to base ten. -/
import Derived.Test.YtcjpgabpihkcjaaGreatDoorLibB
namespace Go.Proofs.YtcjpgabpihkcjaaGreatDoor
open Go Gx

theorem bAnd64 {a b : Nat} (ha : a < 2 ^ 64) (hb : b < 2 ^ 64) : bAnd .u64 (a : Int) (b : Int) = ((a &&& b : Nat) : Int) := by
  have e1 : BitVec.ofInt 64 (a : Int) = BitVec.ofNat 64 a := by simp
  have e2 : BitVec.ofInt 64 (b : Int) = BitVec.ofNat 64 b := by simp
  unfold bAnd
  show IntKind.u64.wrap (((BitVec.ofInt 64 (a : Int) &&& BitVec.ofInt 64 (b : Int)).toNat : Nat) : Int) = _
  rw [e1, e2, BitVec.toNat_and, BitVec.toNat_ofNat, BitVec.toNat_ofNat, Nat.mod_eq_of_lt ha, Nat.mod_eq_of_lt hb]
  have : a &&& b ≤ a := Nat.and_le_left
  have ha : a < 18446744073709551616 := ha
  rw [wr64 (by omega) (by omega)]
theorem bOr8 {a b : Nat} (ha : a < 2 ^ 8) (hb : b < 2 ^ 8) : bOr .u8 (a : Int) (b : Int) = ((a ||| b : Nat) : Int) := by
  have e1 : BitVec.ofInt 8 (a : Int) = BitVec.ofNat 8 a := by simp
  have e2 : BitVec.ofInt 8 (b : Int) = BitVec.ofNat 8 b := by simp
  unfold bOr
  show IntKind.u8.wrap (((BitVec.ofInt 8 (a : Int) ||| BitVec.ofInt 8 (b : Int)).toNat : Nat) : Int) = _
  rw [e1, e2, BitVec.toNat_or, BitVec.toNat_ofNat, BitVec.toNat_ofNat, Nat.mod_eq_of_lt ha, Nat.mod_eq_of_lt hb]
  have : a ||| b < 2 ^ 8 := Nat.or_lt_two_pow ha hb
  have : a ||| b < 256 := this
  rw [wr8 (by omega) (by omega)]

/-- The one place of the table of trailing noughts that is read. -/
def TabBru (w : World) : Prop := w.cell? ⟨G.math_bits_deBruijn64tab, 15, none⟩ = some (.int .u8 4)
theorem TabBru.ext {w w' : World} (h : TabBru w) (hx : Ext w w') : TabBru w' := cell_ext hx h

theorem TrailingZeros16 (w : World) (ht : TabBru w) : Ret Tryz.prog F.math_bits_TrailingZeros #[.int .u64 16] w (fun v w' => v = .int .i64 4 ∧ w = w') := by
  refine W.math_bits_TrailingZeros_ok 16 w _ ?_
  unfold W.math_bits_TrailingZeros
  refine ⟨fun h => by simp at h, fun _ => ?_⟩
  refine Calls.mono (W.math_bits_TrailingZeros64_ok 16 w (fun v w' => v = .int .i64 4 ∧ w = w') ?_) ?_
  · unfold W.math_bits_TrailingZeros64
    have e : (Int.fdiv (IntKind.wrap .u64 ((bAnd .u64 16 (IntKind.wrap .u64 (0 - 16))) * 285870213051353865)) (2 ^ (min (Int.toNat 58) 64))) = 15 := by decide +kernel
    refine ⟨fun h => by simp at h, fun _ => ⟨by decide, ?_⟩⟩
    rw [e]
    exact ⟨⟨by decide, by decide⟩, 4, ht, rfl, rfl⟩
  · rintro _ _ ⟨_, rfl, rfl, rfl⟩
    exact ⟨_, rfl, rfl, rfl⟩

/-- What is laid from k on, as text. -/
def tl (f : Nat → Int) (k m : Nat) : List UInt8 := (List.range (m - k)).map fun j => UInt8.ofNat (f (k + j)).toNat

theorem tl_end (f : Nat → Int) (m : Nat) : tl f m m = [] := by simp [tl]
theorem tl_put {f : Nat → Int} {k m : Nat} (h1 : 1 ≤ k) (h2 : k ≤ m) (d : Int) : tl (put f (k - 1) d) (k - 1) m = UInt8.ofNat d.toNat :: tl f k m := by
  unfold tl
  rw [show m - (k - 1) = (m - k) + 1 by omega, List.range_succ_eq_map, List.map_cons, List.map_map]
  congr 1
  · simp [put]
  · apply List.map_congr_left
    intro j _
    simp only [Function.comp, put]
    rw [if_neg (by omega), show k - 1 + j.succ = k + j by omega]

theorem dig_val {d : Nat} (h : d < 36) : (((dig d).toNat : Nat) : Int) = ((if d < 10 then 48 + d else 87 + d : Nat) : Int) := by
  unfold dig; rw [ofNat_val (by split <;> omega)]
theorem dig_back {d : Nat} : UInt8.ofNat (((dig d).toNat : Nat) : Int).toNat = dig d := by simp

theorem formatBits16 (n : Nat) (hn : n < 2 ^ 64) (w : World) (ht : TabBru w) :
    Ret Tryz.prog F.internal_strconv_formatBits #[.slice none 0 0, .int .u64 n, .int .i64 16, .bool false, .bool false] w (fun v w' => v = .tuple #[.slice none 0 0, .string (S (numB 16 n))] ∧ Ext w w') := by
  have hn : n < 18446744073709551616 := hn
  refine W.internal_strconv_formatBits_ok ⟨none, 0, 0⟩ n 16 false false w _ ?_
  unfold W.internal_strconv_formatBits Nx
  refine Jn0 (fun w1 => w = w1) (fun q hq => ⟨fun h => by simp at h, fun _ => hq _ rfl⟩) ?_
  rintro _ rfl
  have hx1 : Ext w (w.alloc (.cells (bufV 65 (fun _ => 0)) Ty.n65_uint8)) := Chg.alloc (.refl _ _) _
  have hB1 : Buf (w.alloc (.cells (bufV 65 (fun _ => 0)) Ty.n65_uint8)) w.heap.size Ty.n65_uint8 65 (fun _ => 0) := ⟨Blk.new _ _ _⟩
  refine Jn1 (fun x w1 => x = (n : Int) ∧ w1 = w.alloc (.cells (bufV 65 (fun _ => 0)) Ty.n65_uint8)) (fun q hq => ⟨fun h => by simp at h, fun _ => hq _ _ ⟨rfl, rfl⟩⟩) ?_
  rintro _ _ ⟨rfl, rfl⟩
  refine Jn1 (fun i w1 => ∃ k : Nat, i = k ∧ k ≤ 65 ∧ Ext w w1 ∧ ∃ f, Buf w1 w.heap.size Ty.n65_uint8 65 f ∧ numB 16 n = tl f k 65) (fun q hq => ?_) ?_
  · refine Calls.mono (W.internal_strconv_isPowerOfTwo_ok 16 _ (fun v w' => v = .bool true ∧ w.alloc (.cells (bufV 65 (fun _ => 0)) Ty.n65_uint8) = w') ⟨congrArg Value.bool (by decide +kernel), rfl⟩) ?_
    rintro _ _ ⟨_, rfl, rfl, rfl⟩
    refine ⟨_, rfl, fun _ => ?_, fun h => by simp at h⟩
    refine (TrailingZeros16 _ (ht.ext hx1)).use ?_
    rintro _ _ ⟨rfl, rfl⟩
    refine ⟨_, rfl, ?_⟩
    rw [show IntKind.u64.wrap 16 = 16 from rfl, show IntKind.u64.wrap (16 - 1) = 15 from rfl, show IntKind.u64.wrap 4 = 4 from rfl]
    refine ⟨fun u i w1 => ∃ uu k : Nat, u = uu ∧ i = k ∧ k ≤ 65 ∧ (k = 65 ∧ uu = n ∨ 1 ≤ uu ∧ uu * 16 ^ (65 - k) ≤ n) ∧ Ext w w1 ∧ ∃ f, Buf w1 w.heap.size Ty.n65_uint8 65 f ∧ numB 16 n = numB 16 uu ++ tl f k 65,
      fun u _ _ => u.toNat, ⟨n, 65, rfl, rfl, by omega, .inl ⟨rfl, rfl⟩, hx1, _, hB1, by rw [tl_end, List.append_nil]⟩, ?_⟩
    rintro _ _ w1 ⟨uu, k, rfl, rfl, hk, hb, hx, f, hB, hN⟩
    have huu : uu ≤ n := by
      rcases hb with ⟨_, rfl⟩ | ⟨_, hb⟩
      · exact Nat.le_refl _
      · exact Nat.le_trans (Nat.le_mul_of_pos_right _ (Nat.pow_pos (by omega))) hb
    have hk49 : 49 ≤ k := by
      rcases hb with ⟨h, _⟩ | ⟨h1, hb⟩
      · omega
      · rcases Nat.lt_or_ge k 49 with hlt | hge
        · exfalso
          have h2 : 16 ^ 17 ≤ 16 ^ (65 - k) := Nat.pow_le_pow_right (by omega) (by omega)
          have h3 : 16 ^ (65 - k) ≤ uu * 16 ^ (65 - k) := Nat.le_mul_of_pos_left _ (by omega)
          have h4 : (16 : Nat) ^ 17 = 295147905179352825856 := by decide
          omega
        · exact hge
    have e1 : Addr.add ⟨w.heap.size, 0, none⟩ (Int.toNat ((k - 1 : Nat) : Int) * 1) = ⟨w.heap.size, k - 1, none⟩ := by rw [add_mk]; simp
    rw [wrapi (n := (k : Int) - 1) (by omega) (by omega), show (k : Int) - 1 = ((k - 1 : Nat) : Int) by omega, e1]
    have hcell := hB.cell (i := k - 1) rfl (by omega)
    have hfr := hB.frozen (i := k - 1) rfl
    have hsz : w.heap.size ≤ (Addr.mk w.heap.size (k - 1) none).block := Nat.le_refl _
    refine ⟨fun h => ?_, fun h => ?_⟩
    · have h16 : 16 ≤ uu := by have := of_decide_eq_true h; omega
      rw [show (15 : Int) = ((15 : Nat) : Int) from rfl, bAnd64 (show uu < 2 ^ 64 from by show uu < 18446744073709551616; omega) (by decide), show uu &&& 15 = uu % 16 from Nat.and_two_pow_sub_one_eq_mod uu 4]
      refine ⟨by omega, _, tabDigits_at (uu % 16) (by omega), ⟨by omega, by omega⟩, ⟨_, hcell⟩, hfr, by decide, ?_⟩
      have e2 : Int.fdiv (uu : Int) (2 ^ (min (Int.toNat 4) 64)) = ((uu / 16 : Nat) : Int) := by
        show Int.fdiv (uu : Int) 16 = _
        rw [Int.fdiv_eq_ediv_of_nonneg _ (by decide)]; rfl
      rw [e2]
      refine ⟨⟨uu / 16, k - 1, rfl, rfl, by omega, .inr ⟨by omega, ?_⟩, hx.set hsz _, _, hB.set rfl _, ?_⟩, ?_⟩
      · rw [show 65 - (k - 1) = (65 - k) + 1 by omega, Nat.pow_succ, Nat.mul_comm (16 ^ (65 - k)), ← Nat.mul_assoc]
        have h1 : uu / 16 * 16 ≤ uu := Nat.div_mul_le_self _ _
        have h2 : uu / 16 * 16 * 16 ^ (65 - k) ≤ uu * 16 ^ (65 - k) := Nat.mul_le_mul_right _ h1
        rcases hb with ⟨rfl, rfl⟩ | ⟨_, hb⟩
        · simpa using h1
        · omega
      · rw [tl_put (by omega) hk, dig_back, hN, numB_ge (by omega) h16]
        simp
      · show ((uu / 16 : Nat) : Int).toNat < (uu : Int).toNat
        omega
    · have h16 : uu < 16 := by have := of_decide_eq_false h; omega
      refine ⟨by omega, _, tabDigits_at uu (by omega), ⟨by omega, by omega⟩, ⟨_, hcell⟩, hfr, hq _ _ ⟨k - 1, rfl, by omega, hx.set hsz _, _, hB.set rfl _, ?_⟩⟩
      rw [tl_put (by omega) hk, dig_back, hN, numB_lt h16]
      rfl
  rintro _ w1 ⟨k, rfl, hk, hx, f, hB, hN⟩
  refine Jn1 (fun i w2 => i = (k : Int) ∧ w1 = w2) (fun q hq => ⟨fun h => by simp at h, fun _ => hq _ _ ⟨rfl, rfl⟩⟩) ?_
  rintro _ _ ⟨rfl, rfl⟩
  refine ⟨fun h => by simp at h, fun _ => ⟨⟨by omega, by omega⟩, _, w1, conv_byteS (ns := (List.range (65 - k)).map fun i => f (k + i)) (s := ⟨cutA (some ⟨w.heap.size, 0, none⟩) 1 (Int.toNat (k : Int)) 65, 65 - Int.toNat (k : Int), 65 - Int.toNat (k : Int)⟩) (by kernel_rfl) (by kernel_rfl) ?_, ?_, hx⟩⟩
  · have hk65 : k ≠ 65 := by
      rintro rfl
      rw [tl_end] at hN
      exact numB_ne _ _ hN
    rw [show Int.toNat (k : Int) = k from rfl, cut_some (by omega), List.map_map]
    have := hB.src (o := 0 + k * 1) (n := 65 - k) (c := 65 - k) (by omega)
    rw [Nat.mul_one, Nat.zero_add] at this
    rw [Nat.mul_one, Nat.zero_add]
    exact this
  · rw [hN, List.map_map]
    rfl

theorem FormatUint16 (n : Nat) (hn : n < 2 ^ 64) (w : World) (ht : TabBru w) : Ret Tryz.prog F.strconv_FormatUint #[.int .u64 n, .int .i64 16] w (fun v w' => v = .string (S (numB 16 n)) ∧ Ext w w') := by
  refine W.strconv_FormatUint_ok n 16 w _ ?_
  unfold W.strconv_FormatUint
  refine Calls.mono (W.internal_strconv_FormatUint_ok n 16 w (fun v w' => v = .string (S (numB 16 n)) ∧ Ext w w') ?_) ?_
  · unfold W.internal_strconv_FormatUint
    refine ⟨fun h => by simp at h, fun _ => (formatBits16 n hn w ht).use ?_⟩
    rintro _ w1 ⟨rfl, hx⟩
    exact ⟨⟨none, 0, 0⟩, _, rfl, rfl, hx⟩
  · rintro _ w1 ⟨_, rfl, rfl, hx⟩
    exact ⟨_, rfl, rfl, hx⟩

end Go.Proofs.YtcjpgabpihkcjaaGreatDoor
