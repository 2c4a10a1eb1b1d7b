/- Decimal numerals: formatBase10, FormatInt, Itoa, FormatUint at base ten. -/
import Derived.Test.YtcjpgabpihkcjaaGreatDoorLibA
namespace Go.Proofs.YtcjpgabpihkcjaaGreatDoor
open Go Gx

/-- The digits from k on are laid. -/
def Tail (f : Nat → Int) (o n k u : Nat) : Prop := ∀ j, k ≤ j → j < n → f (o + j) = ((48 + u / 10 ^ (n - 1 - j) % 10 : Nat) : Int)

theorem Tail.one {f : Nat → Int} {o n k u : Nat} (h : Tail f o n k u) (hk : 1 ≤ k) (hkn : k ≤ n) {d : Int} (hd : d = ((48 + u / 10 ^ (n - k) % 10 : Nat) : Int)) : Tail (put f (o + (k - 1)) d) o n (k - 1) u := by
  intro j h1 h2
  unfold put
  by_cases e : o + j = o + (k - 1)
  · rw [if_pos e, hd]
    have : n - 1 - j = n - k := by omega
    rw [this]
  · rw [if_neg e]
    exact h j (by omega) h2

theorem Tail.pair {f : Nat → Int} {o n k u uu x : Nat} (h : Tail f o n k u) (hk : 2 ≤ k) (hkn : k ≤ n) (huu : uu = u / 10 ^ (n - k)) (hx : x = uu % 100) :
    Tail (put (put f (o + (k - 1)) ((48 + x % 10 : Nat) : Int)) (o + (k - 2)) ((48 + x / 10 : Nat) : Int)) o n (k - 2) u := by
  have h1 := h.one (d := ((48 + x % 10 : Nat) : Int)) (by omega) hkn (by rw [← huu]; subst hx; congr 1; omega)
  have h2 := h1.one (d := ((48 + x / 10 : Nat) : Int)) (by omega) (by omega) (by
    rw [show n - (k - 1) = (n - k) + 1 by omega, Nat.pow_succ, ← Nat.div_div_eq_div_mul, ← huu]; subst hx; congr 1; omega)
  rw [show k - 1 - 1 = k - 2 by omega] at h2
  exact h2

theorem down {u n k uu : Nat} (j : Nat) (h : uu = u / 10 ^ (n - k)) (hj : j ≤ k) (hk : k ≤ n) : uu / 10 ^ j = u / 10 ^ (n - (k - j)) := by
  rw [show n - (k - j) = (n - k) + j by omega, Nat.pow_add, ← Nat.div_div_eq_div_mul, ← h]

theorem pairStep {w : World} {R : World → Prop} {a : Sl} {b o m k : Nat} {T : TypeId} {f : Nat → Int} (ha : a.a = some ⟨b, o, none⟩) {e : Int} {x : Nat} (he : e = x) (hx : x < 100) {i1 i2 : Int} (hi1 : i1 = ((k - 1 : Nat) : Int)) (hi2 : i2 = ((k - 2 : Nat) : Int))
    (hk : 2 ≤ k) (hkn : k ≤ a.len) (hB : Buf w b T m f) (hm : o + a.len ≤ m)
    (hR : ∀ w', Buf w' b T m (put (put f (o + (k - 1)) ((48 + x % 10 : Nat) : Int)) (o + (k - 2)) ((48 + x / 10 : Nat) : Int)) → Chg (fun q => q = b) w w' → R w') :
    (0 : Int) ≤ (IntKind.wrap .u32 ((IntKind.wrap .u32 (e * 2)) + 1)) ∧ ∃ b8 : UInt8, byteAt tabSmalls (Int.toNat (IntKind.wrap .u32 ((IntKind.wrap .u32 (e * 2)) + 1))) = some b8 ∧ (0 : Int) ≤ (IntKind.wrap .u32 (e * 2)) ∧ ∃ b9 : UInt8, byteAt tabSmalls (Int.toNat (IntKind.wrap .u32 (e * 2))) = some b9 ∧
      ∃ a10 : Addr, a.a = some a10 ∧ ((0 : Int) ≤ i1 ∧ i1 < ((a.len : Nat) : Int)) ∧ (∃ u : Value, w.drew.cell? (a10.add (Int.toNat i1 * 1)) = some u) ∧ w.drew.frozen? (a10.add (Int.toNat i1 * 1)) = false ∧
        Nx (w.drew.setCell (a10.add (Int.toNat i1 * 1)) (.int .u8 ((b8.toNat : Nat) : Int))) fun w11 =>
        ∃ a12 : Addr, a.a = some a12 ∧ ((0 : Int) ≤ i2 ∧ i2 < ((a.len : Nat) : Int)) ∧ (∃ u : Value, w11.cell? (a12.add (Int.toNat i2 * 1)) = some u) ∧ w11.frozen? (a12.add (Int.toNat i2 * 1)) = false ∧
        Nx (w11.setCell (a12.add (Int.toNat i2 * 1)) (.int .u8 ((b9.toNat : Nat) : Int))) R := by
  unfold Nx
  subst he hi1 hi2
  obtain ⟨h1, h2⟩ := tabSmalls_at x hx
  rw [wr32 (n := (x : Int) * 2) (by omega) (by omega), wr32 (n := (x : Int) * 2 + 1) (by omega) (by omega)]
  have e1 : (Addr.mk b o none).add (Int.toNat ((k - 1 : Nat) : Int) * 1) = ⟨b, o + (k - 1), none⟩ := by rw [add_mk]; simp
  have e2 : (Addr.mk b o none).add (Int.toNat ((k - 2 : Nat) : Int) * 1) = ⟨b, o + (k - 2), none⟩ := by rw [add_mk]; simp
  have hB' := hB.drew
  have hB1 := hB'.set (i := o + (k - 1)) rfl ((48 + x % 10 : Nat) : Int)
  refine ⟨by omega, _, (show byteAt tabSmalls (Int.toNat ((x : Int) * 2 + 1)) = _ from by rw [← h2]; congr 1; omega), by omega, _, (show byteAt tabSmalls (Int.toNat ((x : Int) * 2)) = _ from by rw [← h1]; congr 1; omega),
    _, ha, ⟨by omega, by omega⟩, ?_⟩
  rw [e1, ofNat_val (by omega), ofNat_val (by omega)]
  refine ⟨⟨_, hB'.cell rfl (by omega)⟩, hB'.frozen rfl, _, ha, ⟨by omega, by omega⟩, ?_⟩
  rw [e2]
  refine ⟨⟨_, hB1.cell rfl (by omega)⟩, hB1.frozen rfl, hR _ (hB1.set rfl _) ?_⟩
  exact ((Chg.drew (.refl _ _)).cellB (i := o + (k - 1)) _).cellB _

theorem formatBase10 {w : World} {a : Sl} {b o m u : Nat} {T : TypeId} {f : Nat → Int} (ha : a.a = some ⟨b, o, none⟩) (hn : a.len ≤ 100) (hu : u < 2 ^ 64) (hud : u < 10 ^ a.len) (hm : o + a.len ≤ m) (hB : Buf w b T m f) :
    Ret Tryz.prog F.internal_strconv_formatBase10 #[.slice a.a a.len a.cap, .int .u64 u] w (fun v w' => v = .tuple #[] ∧ ∃ f', Buf w' b T m f' ∧ Tail f' o a.len 0 u ∧ Chg (fun q => q = b) w w') := by
  refine W.internal_strconv_formatBase10_ok a u w _ ?_
  unfold W.internal_strconv_formatBase10
  have hu : u < 18446744073709551616 := hu
  refine ⟨fun u' k' w' => ∃ k uu : Nat, k' = k ∧ u' = uu ∧ k ≤ a.len ∧ uu = u / 10 ^ (a.len - k) ∧ ∃ f', Buf w' b T m f' ∧ Tail f' o a.len k u ∧ Chg (fun q => q = b) w w', fun _ k _ => k.toNat,
    ⟨a.len, u, rfl, rfl, Nat.le_refl _, by simp, f, hB, fun j h1 h2 => by omega, .refl _ _⟩, ?_⟩
  rintro _ _ w1 ⟨k, uu, rfl, rfl, hk, huu, f1, hB1, hT1, hc1⟩
  have huL : uu < 18446744073709551616 := by rw [huu]; exact Nat.lt_of_le_of_lt (Nat.div_le_self _ _) hu
  refine ⟨fun h8 => ?_, fun h8 => ?_⟩
  · have h8 : 8 ≤ k := by have := of_decide_eq_true h8; omega
    simp only [tmod_nn (Int.natCast_nonneg uu)]
    rw [wr32 (n := (uu : Int) % 100000000) (by omega) (by omega)]
    rw [tmod_nn (a := (uu : Int) % 100000000) (by omega), tdiv_nn (a := (uu : Int) % 100000000) (by omega), tdiv_nn (a := (uu : Int)) (by omega)]
    rw [wr32 (n := (uu : Int) % 100000000 / 10000) (by omega) (by omega)]
    rw [tmod_nn (a := (uu : Int) % 100000000 % 10000) (by omega), tdiv_nn (a := (uu : Int) % 100000000 % 10000) (by omega), tmod_nn (a := (uu : Int) % 100000000 / 10000) (by omega), tdiv_nn (a := (uu : Int) % 100000000 / 10000) (by omega)]
    rw [wr32 (n := (uu : Int) % 100000000 % 10000 / 100) (by omega) (by omega), wr32 (n := (uu : Int) % 100000000 / 10000 / 100) (by omega) (by omega)]
    refine ⟨by decide, by decide, by decide, by decide, by decide, by decide, by decide, by decide, fun _ => False, ?_⟩
    refine pairStep ha (x := uu % 100) (k := k) (by omega) (by omega) (by rw [wrapi (by omega) (by omega)]; omega) (by rw [wrapi (by omega) (by omega)]; omega) (by omega) hk hB1 hm ?_
    intro w2 hB2 hc2
    have hT2 := hT1.pair (by omega) hk huu rfl
    have d2 := down 2 huu (by omega) hk
    refine ⟨fun _ => False, ?_⟩
    refine pairStep ha (x := uu / 10 ^ 2 % 100) (k := k - 2) (by omega) (by omega) (by rw [wrapi (by omega) (by omega)]; omega) (by rw [wrapi (by omega) (by omega)]; omega) (by omega) (by omega) hB2 hm ?_
    intro w3 hB3 hc3
    have hT3 := hT2.pair (by omega) (by omega) d2 rfl
    have d3 := down 4 huu (by omega) hk
    rw [show k - 2 - 2 = k - 4 by omega] at hT3
    refine ⟨fun _ => False, ?_⟩
    refine pairStep ha (x := uu / 10 ^ 4 % 100) (k := k - 4) (by omega) (by omega) (by rw [wrapi (by omega) (by omega)]; omega) (by rw [wrapi (by omega) (by omega)]; omega) (by omega) (by omega) hB3 hm ?_
    intro w4 hB4 hc4
    have hT4 := hT3.pair (by omega) (by omega) d3 rfl
    have d4 := down 6 huu (by omega) hk
    rw [show k - 4 - 2 = k - 6 by omega] at hT4
    refine ⟨fun _ => False, ?_⟩
    refine pairStep ha (x := uu / 10 ^ 6 % 100) (k := k - 6) (by omega) (by omega) (by rw [wrapi (by omega) (by omega)]; omega) (by rw [wrapi (by omega) (by omega)]; omega) (by omega) (by omega) hB4 hm ?_
    intro w5 hB5 hc5
    have hT5 := hT4.pair (by omega) (by omega) d4 rfl
    have d5 := down 8 huu (by omega) hk
    rw [show k - 6 - 2 = k - 8 by omega] at hT5
    rw [wrapi (n := (k : Int) - 8) (by omega) (by omega), wr64 (n := (uu : Int) / 100000000) (by omega) (by omega)]
    refine ⟨⟨k - 8, uu / 10 ^ 8, by omega, by omega, by omega, d5, _, hB5, hT5, (((hc1.trans hc2).trans hc3).trans hc4).trans hc5⟩, ?_⟩
    show ((k : Int) - 8).toNat < (k : Int).toNat
    omega
  · have h8 : k < 8 := by have := of_decide_eq_false h8; omega
    have h32 : uu < 100000000 := by
      rw [huu]
      have := (Nat.div_lt_iff_lt_mul (k := 10 ^ (a.len - k)) (x := u) (y := 10 ^ k) (Nat.pow_pos (by omega))).2 (by rw [← Nat.pow_add, show k + (a.len - k) = a.len by omega]; exact hud)
      have h7 : 10 ^ k ≤ 10 ^ 7 := Nat.pow_le_pow_right (by omega) (by omega)
      have h7 : 10 ^ k ≤ 10000000 := h7
      omega
    rw [wr32 (n := (uu : Int)) (by omega) (by omega)]
    refine Jn2 (fun k' u' w' => ∃ k uu : Nat, k' = k ∧ u' = uu ∧ k ≤ a.len ∧ k < 4 ∧ uu = u / 10 ^ (a.len - k) ∧ ∃ f', Buf w' b T m f' ∧ Tail f' o a.len k u ∧ Chg (fun q => q = b) w w') (fun q hq => ⟨fun h4 => ?_, fun h4 => ?_⟩) ?_
    · have h4 : 4 ≤ k := by have := of_decide_eq_true h4; omega
      rw [tmod_nn (a := (uu : Int)) (by omega), tdiv_nn (a := (uu : Int)) (by omega)]
      rw [tmod_nn (a := (uu : Int) % 10000) (by omega), tdiv_nn (a := (uu : Int) % 10000) (by omega)]
      rw [wr32 (n := (uu : Int) % 10000 / 100) (by omega) (by omega), wr32 (n := (uu : Int) / 10000) (by omega) (by omega)]
      refine ⟨by decide, by decide, by decide, by decide, fun _ => False, ?_⟩
      refine pairStep ha (x := uu % 100) (k := k) (by omega) (by omega) (by rw [wrapi (by omega) (by omega)]; omega) (by rw [wrapi (by omega) (by omega)]; omega) (by omega) hk hB1 hm ?_
      intro w2 hB2 hc2
      have hT2 := hT1.pair (by omega) hk huu rfl
      have d2 := down 2 huu (by omega) hk
      refine ⟨fun _ => False, ?_⟩
      refine pairStep ha (x := uu / 10 ^ 2 % 100) (k := k - 2) (by omega) (by omega) (by rw [wrapi (by omega) (by omega)]; omega) (by rw [wrapi (by omega) (by omega)]; omega) (by omega) (by omega) hB2 hm ?_
      intro w3 hB3 hc3
      have hT3 := hT2.pair (by omega) (by omega) d2 rfl
      have d3 := down 4 huu (by omega) hk
      rw [show k - 2 - 2 = k - 4 by omega] at hT3
      rw [wrapi (n := (k : Int) - 4) (by omega) (by omega)]
      exact hq _ _ _ ⟨k - 4, uu / 10 ^ 4, by omega, by omega, by omega, by omega, d3, _, hB3, hT3, (hc1.trans hc2).trans hc3⟩
    · have h4 : k < 4 := by have := of_decide_eq_false h4; omega
      exact hq _ _ _ ⟨k, uu, rfl, rfl, hk, h4, huu, f1, hB1, hT1, hc1⟩
    rintro _ _ w2 ⟨k, uu, rfl, rfl, hk, h4, huu, f2, hB2, hT2, hc2⟩
    have h32 : uu < 10000 := by
      rw [huu]
      have := (Nat.div_lt_iff_lt_mul (k := 10 ^ (a.len - k)) (x := u) (y := 10 ^ k) (Nat.pow_pos (by omega))).2 (by rw [← Nat.pow_add, show k + (a.len - k) = a.len by omega]; exact hud)
      have h7 : 10 ^ k ≤ 10 ^ 3 := Nat.pow_le_pow_right (by omega) (by omega)
      have h7 : 10 ^ k ≤ 1000 := h7
      omega
    refine Jn2 (fun k' u' w' => ∃ k uu : Nat, k' = k ∧ u' = uu ∧ k ≤ a.len ∧ k < 2 ∧ uu = u / 10 ^ (a.len - k) ∧ ∃ f', Buf w' b T m f' ∧ Tail f' o a.len k u ∧ Chg (fun q => q = b) w w') (fun q hq => ⟨fun h2 => ?_, fun h2 => ?_⟩) ?_
    · have h2 : 2 ≤ k := by have := of_decide_eq_true h2; omega
      rw [tmod_nn (a := (uu : Int)) (by omega), tdiv_nn (a := (uu : Int)) (by omega)]
      rw [wr32 (n := (uu : Int) / 100) (by omega) (by omega)]
      refine ⟨by decide, by decide, fun _ => False, ?_⟩
      refine pairStep ha (x := uu % 100) (k := k) (by omega) (by omega) (by rw [wrapi (by omega) (by omega)]; omega) (by rw [wrapi (by omega) (by omega)]; omega) (by omega) hk hB2 hm ?_
      intro w3 hB3 hc3
      have hT3 := hT2.pair (by omega) hk huu rfl
      have d2 := down 2 huu (by omega) hk
      rw [wrapi (n := (k : Int) - 2) (by omega) (by omega)]
      exact hq _ _ _ ⟨k - 2, uu / 10 ^ 2, by omega, by omega, by omega, by omega, d2, _, hB3, hT3, hc2.trans hc3⟩
    · have h2 : k < 2 := by have := of_decide_eq_false h2; omega
      exact hq _ _ _ ⟨k, uu, rfl, rfl, hk, h2, huu, f2, hB2, hT2, hc2⟩
    rintro _ _ w3 ⟨k, uu, rfl, rfl, hk, h2, huu, f3, hB3, hT3, hc3⟩
    have h10 : uu < 10 := by
      rw [huu]
      have := (Nat.div_lt_iff_lt_mul (k := 10 ^ (a.len - k)) (x := u) (y := 10 ^ k) (Nat.pow_pos (by omega))).2 (by rw [← Nat.pow_add, show k + (a.len - k) = a.len by omega]; exact hud)
      have h7 : 10 ^ k ≤ 10 ^ 1 := Nat.pow_le_pow_right (by omega) (by omega)
      have h7 : 10 ^ k ≤ 10 := h7
      omega
    unfold Nx
    refine ⟨fun h => ?_, fun h => ?_⟩
    · have hk1 : k = 1 := by have := of_decide_eq_true h; omega
      subst hk1
      have e1 : (Addr.mk b o none).add (Int.toNat 0 * 1) = ⟨b, o + 0, none⟩ := by rw [add_mk]; simp
      rw [wr32 (n := 48 + (uu : Int)) (by omega) (by omega), wr8 (by omega) (by omega)]
      refine ⟨_, ha, ⟨by decide, by omega⟩, ?_⟩
      rw [e1]
      refine ⟨⟨_, hB3.cell rfl (by omega)⟩, hB3.frozen rfl, rfl, _, hB3.set rfl _, ?_, hc3.cellB _⟩
      have := hT3.one (d := 48 + (uu : Int)) (by omega) hk (by rw [← huu]; omega)
      simpa using this
    · have hk0 : k = 0 := by have := of_decide_eq_false h; omega
      subst hk0
      exact ⟨rfl, _, hB3, hT3, hc3⟩

theorem IsDigs.numB {x k : Nat} (h : IsDigs x k) : numB 10 x = decN x k := by
  obtain ⟨h1, h2, h3, h4⟩ := h
  obtain ⟨k, rfl⟩ : ∃ j, k = j + 1 := ⟨k - 1, by omega⟩
  exact numB_dec k x h4 (.inl (by simpa using h3))

theorem decN_of_tail {f : Nat → Int} {o n u : Nat} (h : Tail f o n 0 u) : ((List.range n).map fun i => f (o + i)).map (fun z => UInt8.ofNat z.toNat) = decN u n := by
  unfold decN
  rw [List.map_map]
  apply List.map_congr_left
  intro j hj
  have := h j (by omega) (List.mem_range.1 hj)
  simp only [Function.comp, this]
  rfl

theorem small (i : Nat) (hi : i < 100) (w : World) : Ret Tryz.prog F.internal_strconv_small #[.int .i64 i] w (fun v w' => v = .string (S (numB 10 i)) ∧ w = w') := by
  have key : ∀ i : Nat, i < 100 → (i < 10 → ByteArray.extract tabDigits i (i + 1) = S (numB 10 i)) ∧ (¬ i < 10 → ByteArray.extract tabSmalls (i * 2) (i * 2 + 2) = S (numB 10 i)) := by
    intro i hi
    refine ⟨fun h => ?_, fun h => ?_⟩
    · have e : ∀ i : Nat, i < 10 → (tabDigits.extract i (i + 1)).data = (S [dig i]).data := by decide +kernel
      rw [numB_lt h]
      exact ByteArray.ext (e i h)
    · have e : ∀ i : Nat, i < 100 → (tabSmalls.extract (i * 2) (i * 2 + 2)).data = (S [dig (i / 10), dig (i % 10)]).data := by decide +kernel
      rw [numB_ge (by omega) (by omega), numB_lt (by omega)]
      exact ByteArray.ext (e i hi)
  refine W.internal_strconv_small_ok i w _ ?_
  unfold W.internal_strconv_small
  obtain ⟨k1, k2⟩ := key i hi
  rw [wrapi (n := (i : Int) + 1) (by omega) (by omega), wrapi (n := (i : Int) * 2) (by omega) (by omega), wrapi (n := (i : Int) * 2 + 2) (by omega) (by omega)]
  refine ⟨fun h => ?_, fun h => ?_⟩
  · have h : i < 10 := by have := of_decide_eq_true h; omega
    refine ⟨⟨by omega, ?_⟩, ⟨by omega, by omega⟩, ?_, rfl⟩
    · show (i : Int) + 1 ≤ ((36 : Nat) : Int); omega
    · rw [← k1 h]; rfl
  · have h : ¬ i < 10 := by have := of_decide_eq_false h; omega
    refine ⟨⟨by omega, ?_⟩, ⟨by omega, by omega⟩, ?_, rfl⟩
    · show (i : Int) * 2 + 2 ≤ ((200 : Nat) : Int); omega
    · rw [← k2 h]
      congr 2 <;> omega

theorem conv_byteS {src dst : TypeId} {w : World} {s : Sl} {ns : List Int} (hs : Tryz.prog.underlying src = some (.slice Ty.uint8)) (hd : Tryz.prog.underlying dst = some .string) (h : Src 1 w s (ns.map (.int .u8))) :
    Sem.run Tryz.prog (convert src dst (.slice s.a s.len s.cap)) w = .ok (.string (S (ns.map fun n => UInt8.ofNat n.toNat))) w := by
  rw [run_conv_bytes hs (by kernel_rfl) hd h, bstr_eq]

theorem FormatInt10 (n : Nat) (hn : n < 2 ^ 63) (w : World) (ht : TabPow w) : Ret Tryz.prog F.internal_strconv_FormatInt #[.int .i64 n, .int .i64 10] w (fun v w' => v = .string (S (numB 10 n)) ∧ Ext w w') := by
  have hn : n < 9223372036854775808 := hn
  refine W.internal_strconv_FormatInt_ok n 10 w _ ?_
  unfold W.internal_strconv_FormatInt Nx
  refine ⟨fun _ => ⟨fun h => ?_, fun h => ?_⟩, fun h => by simp at h⟩
  · have h : n < 100 := by simp at h; omega
    refine (small n h w).use ?_
    rintro _ w1 ⟨rfl, rfl⟩
    exact ⟨_, rfl, rfl, .refl _ _⟩
  · have h : 100 ≤ n := by simp at h; omega
    have hx1 : Ext w (w.alloc (.cells (bufV 24 (fun _ => 0)) Ty.n24_uint8)) := Chg.alloc (.refl _ _) _
    have hB1 : Buf (w.alloc (.cells (bufV 24 (fun _ => 0)) Ty.n24_uint8)) w.heap.size Ty.n24_uint8 24 (fun _ => 0) := ⟨Blk.new _ _ _⟩
    refine Jn1 (fun x w1 => x = (n : Int) ∧ w1 = w.alloc (.cells (bufV 24 (fun _ => 0)) Ty.n24_uint8)) (fun q hq => ⟨fun h => by have := of_decide_eq_true h; omega, fun _ => hq _ _ ⟨by rw [wr64 (by omega) (by omega)], rfl⟩⟩) ?_
    rintro _ _ ⟨rfl, rfl⟩
    refine (numDigits n (by omega) (by omega) _ (ht.ext hx1)).use ?_
    rintro _ w2 ⟨k, rfl, hk, rfl⟩
    obtain ⟨g1, g2, g3, g4⟩ := hk
    refine ⟨_, rfl, ?_⟩
    rw [wrapi (n := 1 + (k : Int)) (by omega) (by omega)]
    refine ⟨⟨by omega, by omega⟩, ⟨by omega, by omega⟩, ?_⟩
    rw [show (1 + (k : Int)).toNat = k + 1 by omega, show Int.toNat 1 = 1 from rfl, cut_some (by omega), show k + 1 - 1 = k by omega]
    refine (formatBase10 (a := ⟨some ⟨w.heap.size, 0 + 1 * 1, none⟩, k, 23⟩) (o := 0 + 1 * 1) (b := w.heap.size) (m := 24) (u := n) rfl (by show k ≤ 100; omega) (by omega) g4 (by show 0 + 1 * 1 + k ≤ 24; omega) hB1).use ?_
    rintro _ w3 ⟨rfl, f3, hB3, hT3, hc3⟩
    have hx3 : Ext w w3 := Ext.of_new hx1 hc3 (fun q hq => by subst hq; exact Nat.le_refl _)
    refine ⟨rfl, fun h => by have := of_decide_eq_true h; omega, fun _ => ⟨⟨by omega, by omega⟩, ⟨by omega, by omega⟩, _, w3, conv_byteS (ns := (List.range k).map fun i => f3 (0 + 1 * 1 + i)) (s := ⟨some ⟨w.heap.size, 0 + 1 * 1, none⟩, k, 23⟩) (by kernel_rfl) (by kernel_rfl) ?_, ?_, hx3⟩⟩
    · have := hB3.src (o := 0 + 1 * 1) (n := k) (c := 23) (by omega)
      rw [List.map_map]
      exact this
    · rw [decN_of_tail hT3, IsDigs.numB ⟨g1, g2, g3, g4⟩]

theorem Itoa (n : Nat) (hn : n < 2 ^ 63) (w : World) (ht : TabPow w) : Ret Tryz.prog F.strconv_Itoa #[.int .i64 n] w (fun v w' => v = .string (S (numB 10 n)) ∧ Ext w w') := by
  refine W.strconv_Itoa_ok n w _ ?_
  unfold W.strconv_Itoa
  refine Calls.mono (W.internal_strconv_Itoa_ok n w (fun v w' => v = .string (S (numB 10 n)) ∧ Ext w w') ?_) ?_
  · unfold W.internal_strconv_Itoa
    refine (FormatInt10 n hn w ht).use ?_
    rintro _ w1 ⟨rfl, hx⟩
    exact ⟨_, rfl, rfl, hx⟩
  · rintro _ w1 ⟨_, rfl, rfl, hx⟩
    exact ⟨_, rfl, rfl, hx⟩

end Go.Proofs.YtcjpgabpihkcjaaGreatDoor
