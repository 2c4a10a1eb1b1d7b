/- Decimal numerals: formatBase10, FormatInt, Itoa, FormatUint at base ten. -/
import Derived.Test.YtldeegpcldhjaaaLibA
namespace Go.Proofs.Ytldeegpcldhjaaa
open Go Gx

/-- The digits from k on are laid. -/
def Tail (f : Nat → Int) (o n k u : Nat) : Prop := ∀ j, k ≤ j → j < n → f (o + j) = ((48 + u / 10 ^ (n - 1 - j) % 10 : Nat) : Int)

theorem Tail.one {f : Nat → Int} {o n k u : Nat} (h : Tail f o n k u) (hk : 1 ≤ k) (hkn : k ≤ n) {d : Int} (hd : d = ((48 + u / 10 ^ (n - k) % 10 : Nat) : Int)) : Tail (put f (o + (k - 1)) d) o n (k - 1) u := by
  intro j h1 h2
  unfold put
  by_cases e : o + j = o + (k - 1)
  · rw [if_pos e, hd]
    have : n - 1 - j = n - k := by omega
    rw [this]
  · rw [if_neg e]
    exact h j (by omega) h2

theorem Tail.pair {f : Nat → Int} {o n k u uu x : Nat} (h : Tail f o n k u) (hk : 2 ≤ k) (hkn : k ≤ n) (huu : uu = u / 10 ^ (n - k)) (hx : x = uu % 100) :
    Tail (put (put f (o + (k - 1)) ((48 + x % 10 : Nat) : Int)) (o + (k - 2)) ((48 + x / 10 : Nat) : Int)) o n (k - 2) u := by
  have h1 := h.one (d := ((48 + x % 10 : Nat) : Int)) (by omega) hkn (by rw [← huu]; subst hx; congr 1; omega)
  have h2 := h1.one (d := ((48 + x / 10 : Nat) : Int)) (by omega) (by omega) (by
    rw [show n - (k - 1) = (n - k) + 1 by omega, Nat.pow_succ, ← Nat.div_div_eq_div_mul, ← huu]; subst hx; congr 1; omega)
  rw [show k - 1 - 1 = k - 2 by omega] at h2
  exact h2

theorem down {u n k uu : Nat} (j : Nat) (h : uu = u / 10 ^ (n - k)) (hj : j ≤ k) (hk : k ≤ n) : uu / 10 ^ j = u / 10 ^ (n - (k - j)) := by
  rw [show n - (k - j) = (n - k) + j by omega, Nat.pow_add, ← Nat.div_div_eq_div_mul, ← h]

theorem pairStep {w : World} {R : World → Prop} {a : Sl} {b o m k : Nat} {T : TypeId} {f : Nat → Int} (ha : a.a = some ⟨b, o, none⟩) {e : Int} {x : Nat} (he : e = x) (hx : x < 100) {i1 i2 : Int} (hi1 : i1 = ((k - 1 : Nat) : Int)) (hi2 : i2 = ((k - 2 : Nat) : Int))
    (hk : 2 ≤ k) (hkn : k ≤ a.len) (hB : Buf w b T m f) (hm : o + a.len ≤ m)
    (hR : ∀ w', Buf w' b T m (put (put f (o + (k - 1)) ((48 + x % 10 : Nat) : Int)) (o + (k - 2)) ((48 + x / 10 : Nat) : Int)) → Chg (fun q => q = b) w w' → R w') :
    (0 : Int) ≤ (IntKind.wrap .u32 ((IntKind.wrap .u32 (e * 2)) + 1)) ∧ ∃ b8 : UInt8, byteAt tabSmalls (Int.toNat (IntKind.wrap .u32 ((IntKind.wrap .u32 (e * 2)) + 1))) = some b8 ∧ (0 : Int) ≤ (IntKind.wrap .u32 (e * 2)) ∧ ∃ b9 : UInt8, byteAt tabSmalls (Int.toNat (IntKind.wrap .u32 (e * 2))) = some b9 ∧
      ∃ a10 : Addr, a.a = some a10 ∧ ((0 : Int) ≤ i1 ∧ i1 < ((a.len : Nat) : Int)) ∧ (∃ u : Value, w.drew.cell? (a10.add (Int.toNat i1 * 1)) = some u) ∧ w.drew.frozen? (a10.add (Int.toNat i1 * 1)) = false ∧
        Nx (w.drew.setCell (a10.add (Int.toNat i1 * 1)) (.int .u8 ((b8.toNat : Nat) : Int))) fun w11 =>
        ∃ a12 : Addr, a.a = some a12 ∧ ((0 : Int) ≤ i2 ∧ i2 < ((a.len : Nat) : Int)) ∧ (∃ u : Value, w11.cell? (a12.add (Int.toNat i2 * 1)) = some u) ∧ w11.frozen? (a12.add (Int.toNat i2 * 1)) = false ∧
        Nx (w11.setCell (a12.add (Int.toNat i2 * 1)) (.int .u8 ((b9.toNat : Nat) : Int))) R := by
  unfold Nx
  subst he hi1 hi2
  obtain ⟨h1, h2⟩ := tabSmalls_at x hx
  rw [wr32 (n := (x : Int) * 2) (by omega) (by omega), wr32 (n := (x : Int) * 2 + 1) (by omega) (by omega)]
  have e1 : (Addr.mk b o none).add (Int.toNat ((k - 1 : Nat) : Int) * 1) = ⟨b, o + (k - 1), none⟩ := by rw [add_mk]; simp
  have e2 : (Addr.mk b o none).add (Int.toNat ((k - 2 : Nat) : Int) * 1) = ⟨b, o + (k - 2), none⟩ := by rw [add_mk]; simp
  have hB' := hB.drew
  have hB1 := hB'.set (i := o + (k - 1)) rfl ((48 + x % 10 : Nat) : Int)
  refine ⟨by omega, _, (show byteAt tabSmalls (Int.toNat ((x : Int) * 2 + 1)) = _ from by rw [← h2]; congr 1; omega), by omega, _, (show byteAt tabSmalls (Int.toNat ((x : Int) * 2)) = _ from by rw [← h1]; congr 1; omega),
    _, ha, ⟨by omega, by omega⟩, ?_⟩
  rw [e1, ofNat_val (by omega), ofNat_val (by omega)]
  refine ⟨⟨_, hB'.cell rfl (by omega)⟩, hB'.frozen rfl, _, ha, ⟨by omega, by omega⟩, ?_⟩
  rw [e2]
  refine ⟨⟨_, hB1.cell rfl (by omega)⟩, hB1.frozen rfl, hR _ (hB1.set rfl _) ?_⟩
  exact ((Chg.drew (.refl _ _)).cellB (i := o + (k - 1)) _).cellB _

theorem IsDigs.numB {x k : Nat} (h : IsDigs x k) : numB 10 x = decN x k := by
  obtain ⟨h1, h2, h3, h4⟩ := h
  obtain ⟨k, rfl⟩ : ∃ j, k = j + 1 := ⟨k - 1, by omega⟩
  exact numB_dec k x h4 (.inl (by simpa using h3))

theorem decN_of_tail {f : Nat → Int} {o n u : Nat} (h : Tail f o n 0 u) : ((List.range n).map fun i => f (o + i)).map (fun z => UInt8.ofNat z.toNat) = decN u n := by
  unfold decN
  rw [List.map_map]
  apply List.map_congr_left
  intro j hj
  have := h j (by omega) (List.mem_range.1 hj)
  simp only [Function.comp, this]
  rfl

theorem conv_byteS {src dst : TypeId} {w : World} {s : Sl} {ns : List Int} (hs : Try.prog.underlying src = some (.slice Ty.uint8)) (hd : Try.prog.underlying dst = some .string) (h : Src 1 w s (ns.map (.int .u8))) :
    Sem.run Try.prog (convert src dst (.slice s.a s.len s.cap)) w = .ok (.string (S (ns.map fun n => UInt8.ofNat n.toNat))) w := by
  rw [run_conv_bytes hs (by kernel_rfl) hd h, bstr_eq]

end Go.Proofs.Ytldeegpcldhjaaa
