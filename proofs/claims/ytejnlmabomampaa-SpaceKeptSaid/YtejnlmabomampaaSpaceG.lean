/- Layer 6: bytes and loads, and whether both tell alike. -/
import Derived.Test.YtejnlmabomampaaSpaceF
namespace Go.Proofs.Ytejnlmabomampaa
open Go Gx

/-- The bits of bytes. -/
def bitsOf (ns : List Int) (i : Nat) : Bool := ((ns.getD (i / 8) 0).toNat).testBit (i % 8)

theorem bitsOf_beyond (ns : List Int) (i : Nat) (h : 8 * ns.length ≤ i) : bitsOf ns i = false := by
  unfold bitsOf
  have : ns.length ≤ i / 8 := by omega
  simp [List.getD, List.getElem?_eq_none this]

theorem bytes_bits (ns : List Int) (h : ∀ n ∈ ns, 0 ≤ n ∧ n ≤ 255) : ns.map (Value.int .u8) = bytesV (bitsOf ns) ns.length := by
  apply List.ext_getElem
  · simp [bytesV]
  · intro i h1 h2
    have hi : i < ns.length := by simpa using h1
    simp only [bytesV, List.getElem_map, List.getElem_range]
    congr 1
    obtain ⟨g0, g1⟩ := h ns[i] (List.getElem_mem hi)
    have := byteOf_unique (bitsOf ns) i ns[i].toNat (by omega) (fun j hj => by
      unfold bitsOf
      have e1 : (8 * i + j) / 8 = i := by omega
      have e2 : (8 * i + j) % 8 = j := by omega
      rw [e1, e2]
      simp [List.getD, hi])
    rw [← this]
    omega

theorem load_all : ∀ x : Nat, x < 256 → ∀ j : Nat, j < 8 → ((Int.tmod (Int.fdiv (x : Int) (2 ^ (min (Int.toNat (IntKind.wrap .u64 (j : Int))) 8))) 2) == 1) = x.testBit j ∧ (0 : Int) ≤ IntKind.wrap .u64 (j : Int) := by decide +kernel
theorem rest_all : ∀ x : Nat, x < 256 → ∀ j : Nat, j < 8 → decide (Int.fdiv (x : Int) (2 ^ (min (Int.toNat (j : Int)) 8)) > 0) = (List.range 8).any (fun k => decide (j ≤ k) && x.testBit k) := by decide +kernel
theorem add_all : ∀ x : Nat, x < 256 → ∀ j : Nat, j < 8 → x.testBit j = false → IntKind.wrap .u8 ((x : Int) + IntKind.wrap .u8 (1 * 2 ^ (min (Int.toNat (IntKind.wrap .u64 (j : Int))) 8))) = ((x ||| 2 ^ j : Nat) : Int) := by decide +kernel

def below (f : Nat → Bool) (k : Nat) (i : Nat) : Bool := decide (i < k) && f i
theorem below_zero (f : Nat → Bool) : below f 0 = fun _ => false := by funext i; simp [below]
theorem below_true {f : Nat → Bool} {k : Nat} (h : f k = true) : upd (below f k) k true = below f (k + 1) := by
  funext i
  unfold upd below
  by_cases hi : i = k
  · subst hi; simp [h]
  · rw [if_neg hi]
    have : (i < k + 1) ↔ i < k := by omega
    simp [this]
theorem below_false {f : Nat → Bool} {k : Nat} (h : f k = false) : below f k = below f (k + 1) := by
  funext i
  unfold below
  by_cases hi : i = k
  · subst hi; simp [h]
  · have : (i < k + 1) ↔ i < k := by omega
    simp [this]
theorem below_all {f : Nat → Bool} {n : Nat} (h : ∀ i, n ≤ i → f i = false) : below f n = f := by
  funext i
  unfold below
  by_cases hi : i < n
  · simp [hi]
  · simp [hi, h i (by omega)]

theorem bytesV_zero' (m : Nat) : bytesV (fun _ => false) m = List.replicate m (.int .u8 0) := by
  apply List.ext_getElem
  · simp [bytesV]
  · intro i h1 h2
    simp [bytesV, byteOf, byte8]

theorem bytesV_congr {f g : Nat → Bool} {m : Nat} (h : ∀ i, i < 8 * m → f i = g i) : bytesV f m = bytesV g m := by
  apply List.map_congr_left
  intro i hi
  have hi := List.mem_range.1 hi
  unfold byteOf
  rw [h (8 * i) (by omega), h (8 * i + 1) (by omega), h (8 * i + 2) (by omega), h (8 * i + 3) (by omega), h (8 * i + 4) (by omega), h (8 * i + 5) (by omega), h (8 * i + 6) (by omega), h (8 * i + 7) (by omega)]

section
variable {w w' : World} {b n : Nat} {f g : Nat → Bool} {s1 s2 : Sl}

theorem size_row (n : Nat) (h : n ≤ 100000) : IntKind.wrap .i64 (Int.tdiv (IntKind.wrap .i64 ((n : Int) + 7)) 8) = (((n + 7) / 8 : Nat) : Int) := by
  rw [wrapi (n := (n : Int) + 7) (by omega) (by omega), show (n : Int) + 7 = ((n + 7 : Nat) : Int) by omega, wdiv8 (by omega)]

theorem ref_Bytes (h : RefAt w b n f g s1 s2) (hn : n ≤ 100000) (hpf : ∀ i, n ≤ i → f i = false) :
    Ret Try.prog F.ref06_Space_Bytes #[.pointer (some ⟨b, 0, none⟩)] w (fun v w' => ∃ s : Sl, v = .slice s.a s.len s.cap ∧ OwnS 1 Ty.uint8 w' s (bytesV f ((n + 7) / 8)) ∧ Ext w w' ∧ ∀ k, ownB s k → w.heap.size ≤ k) := by
  refine W.ref06_Space_Bytes_ok _ w _ ?_
  unfold W.ref06_Space_Bytes Nx
  refine ⟨_, rfl, s1, h.c0, ?_⟩
  rw [h.len1, size_row n hn]
  obtain ⟨m, hm⟩ : ∃ m, m = (n + 7) / 8 := ⟨_, rfl⟩
  rw [← hm]
  simp only [Int.toNat_natCast]
  rw [zrow_byte, ← bytesV_zero', ← below_zero f]
  refine ⟨by decide, by omega, fun i w' => ∃ k : Nat, i = k ∧ k ≤ n ∧ Ext w w' ∧ OwnS 1 Ty.uint8 w' ⟨some ⟨w.heap.size, 0, none⟩, m, m⟩ (bytesV (below f k) m), fun i _ => ((n : Int) - i).toNat,
    ⟨0, rfl, by omega, Chg.alloc (.refl _ _) _, OwnS.new w _ m (by simp [bytesV]) (by show m ≤ 2 ^ 63 - 1; omega)⟩, ?_⟩
  rintro _ w1 ⟨k, rfl, hk, hx, hown⟩
  have h1 := h.ext hx
  refine ⟨_, rfl, s1, h1.c0, fun hlt => ?_, fun hge => ?_⟩
  · have hkn : k < n := by rw [h.len1] at hlt; simpa using hlt
    obtain ⟨A, hA, hb, hc, _, _, _⟩ := h1.now.at (boolsV_get f hkn)
    obtain ⟨B, hB, hbB, hcB, hfB, hoB, hset⟩ := hown.at (bytesV_get (below f k) (i := k / 8) (by omega))
    obtain rfl : B = ⟨w.heap.size, 0, none⟩ := by simpa using hB.symm
    obtain ⟨_, hj⟩ := load_all 0 (by decide) (k % 8) (Nat.mod_lt _ (by omega))
    refine Jn0 (fun w' => Ext w w' ∧ OwnS 1 Ty.uint8 w' ⟨some ⟨w.heap.size, 0, none⟩, m, m⟩ (bytesV (below f (k + 1)) m)) (fun q hq => ⟨_, rfl, s1, h1.c0, A, hA, hb, f k, hc, fun hf => ⟨by decide, by decide, ?_⟩, fun hf => ?_⟩) ?_
    · rw [wdiv8 (by omega), tmod8]
      refine ⟨_, rfl, hbB, _, hcB, by decide, hj, _, rfl, hbB, ⟨_, hcB⟩, hfB, hq _ ⟨?_, ?_⟩⟩
      · exact Chg.set hx (fun hlt => by rw [add_mk] at hlt; exact absurd hlt (Nat.lt_irrefl _)) _
      · rw [add_all _ (byteOf_lt _ _) _ (Nat.mod_lt _ (by omega)) (by rw [byteOf_bit _ _ _ (Nat.mod_lt _ (by omega)), split8]; simp [below]), byteOf_put]
        have := hset (.int .u8 (byteOf (upd (below f k) k true) (k / 8)))
        rw [bytesV_set, below_true hf] at this
        rw [below_true hf]
        exact this
    · refine hq _ ⟨hx, ?_⟩
      rw [← below_false hf]; exact hown
    · rintro w' ⟨hx', hown'⟩
      rw [wrapi (by omega) (by omega)]
      exact ⟨⟨k + 1, by omega, by omega, hx', hown'⟩, (show ((n : Int) - ((k : Int) + 1)).toNat < ((n : Int) - (k : Int)).toNat by omega)⟩
  · have hkn : k = n := by
      rw [h.len1] at hge
      have : ¬ (k : Int) < n := by simpa using hge
      omega
    subst hkn
    rw [below_all hpf] at hown
    exact ⟨⟨some ⟨w.heap.size, 0, none⟩, m, m⟩, rfl, hown, hx, fun j hj => by rw [ownB_some] at hj; exact Nat.le_of_eq hj⟩

/-- The bytes are a space of n pages. -/
def goodB (ns : List Int) (n : Nat) : Prop := ns.length = (n + 7) / 8 ∧ ∀ i, n ≤ i → bitsOf ns i = false

theorem const_zero (n : Nat) : (fun i : Nat => decide ((i : Int) < 0)) = fun _ => false := by funext i; simp

theorem ref_Load {s : Sl} {ns : List Int} (hs : Src 1 w s (ns.map (.int .u8))) (hr : ∀ x ∈ ns, (0 : Int) ≤ x ∧ x ≤ 255) (n : Nat) (hn : n ≤ 1600) :
    Ret Try.prog F.ref06_Load #[.slice s.a s.len s.cap, .int .i64 n] w (fun v w' => Ext w w' ∧ ((¬ goodB ns n ∧ v = .pointer none) ∨
      (goodB ns n ∧ ∃ b s1 s2, v = .pointer (some ⟨b, 0, none⟩) ∧ RefAt w' b n (bitsOf ns) (bitsOf ns) s1 s2 ∧ ∀ k, fpS b s1 s2 k → w.heap.size ≤ k))) := by
  have hlen : s.len = ns.length := by have := hs.len; simp at this; omega
  refine W.ref06_Load_ok s n w _ ?_
  unfold W.ref06_Load Nx
  rw [size_row n (by omega), hlen]
  refine ⟨by decide, fun hne => ?_, fun heq => ?_⟩
  · have hne : ¬ ns.length = (n + 7) / 8 := by
      intro h; rw [h] at hne; simp at hne
    exact ⟨.refl _ _, .inl ⟨fun h => hne h.1, rfl⟩⟩
  have heq : ns.length = (n + 7) / 8 := by
    have := heq
    simp only [bne_eq_false_iff_eq] at this
    omega
  refine (ref_New w n 0 (by omega)).use ?_
  rintro _ w1 ⟨b, s1, s2, rfl, h, hx, hfr⟩
  rw [Int.toNat_natCast, const_zero n] at h
  have hm : ns.length ≤ 201 := by omega
  rw [wrapi (n := 8 * ((ns.length : Nat) : Int)) (by omega) (by omega)]
  refine ⟨_, rfl, fun i w' => ∃ k : Nat, i = k ∧ k ≤ 8 * ns.length ∧ Ext w w' ∧ RefAt w' b n (below (bitsOf ns) k) (below (bitsOf ns) k) s1 s2 ∧ ∀ i, i < k → n ≤ i → bitsOf ns i = false, fun i _ => (8 * (ns.length : Int) - i).toNat,
    ⟨0, rfl, by omega, hx, by rw [below_zero]; exact h, fun i hi => by omega⟩, ?_⟩
  rintro _ w2 ⟨k, rfl, hk, hx2, h2, hall⟩
  refine ⟨fun hlt => ?_, fun hge => ?_⟩
  · have hkn : k < 8 * ns.length := by
      have : (k : Int) < 8 * (ns.length : Int) := by simpa using hlt
      omega
    have hk8 : k / 8 < ns.length := by omega
    obtain ⟨x, hxe⟩ : ∃ x : Nat, ns[k / 8] = (x : Int) := ⟨ns[k / 8].toNat, by have := hr _ (List.getElem_mem hk8); omega⟩
    have hx255 : x < 256 := by have := hr _ (List.getElem_mem hk8); omega
    have hbit : bitsOf ns k = x.testBit (k % 8) := by
      unfold bitsOf
      simp [List.getD, hk8, hxe]
    obtain ⟨A, hA, hb, hc⟩ := (hs.ext hx2).at (i := k / 8) (v := .int .u8 x) (by simp [hk8, hxe])
    rw [hlen] at hb
    obtain ⟨hj1, hj2⟩ := load_all x hx255 (k % 8) (Nat.mod_lt _ (by omega))
    refine Jn0 (fun w' => Ext w w' ∧ RefAt w' b n (below (bitsOf ns) (k + 1)) (below (bitsOf ns) (k + 1)) s1 s2 ∧ ∀ i, i < k + 1 → n ≤ i → bitsOf ns i = false) (fun q hq => ⟨by decide, ?_⟩) ?_
    · rw [wdiv8 (by omega), tmod8]
      refine ⟨A, hA, hb, x, hc, by decide, hj2, by decide, ?_⟩
      rw [hj1, ← hbit]
      refine ⟨fun ht => ⟨fun hge => ?_, fun hlt => ?_⟩, fun hf => hq _ ⟨hx2, ?_, ?_⟩⟩
      · have hge : n ≤ k := by
          have : (k : Int) ≥ n := by simpa using hge
          omega
        exact ⟨hx2, .inl ⟨(fun hg => by rw [hg.2 k hge] at ht; cases ht), rfl⟩⟩
      · have hlt : k < n := by
          have : ¬ (k : Int) ≥ n := by simpa using hlt
          omega
        have h3 := h2.ext (Chg.drew (.refl _ w2))
        obtain ⟨A1, hA1, hb1, hc1, hf1, ho1, hset1⟩ := h3.now.at (boolsV_get (below (bitsOf ns) k) hlt)
        obtain ⟨h4, c4⟩ := h3.put1 true ho1 (hset1 _)
        obtain ⟨A2, hA2, hb2, hc2, hf2, ho2, hset2⟩ := h4.sure.at (boolsV_get (below (bitsOf ns) k) hlt)
        obtain ⟨h5, c5⟩ := h4.put2 true ho2 (hset2 _)
        refine ⟨fun _ => False, _, rfl, by simp, s1, h3.c0, _, rfl, by simp, s2, h3.c1, A1, hA1, hb1, ⟨_, hc1⟩, hf1, A2, hA2, hb2, ⟨_, hc2⟩, hf2, hq _ ⟨?_, ?_, ?_⟩⟩
        · exact ((Chg.of_ext hx2.drew).trans (c4.trans c5)).mono fun k hk ho => by have := hfr k ho; omega
        · rw [below_true ht] at h5; exact h5
        · intro i hi hni; omega
      · rw [← below_false hf]; exact h2
      · intro i hi hni
        rcases Nat.lt_or_ge i k with h6 | h6
        · exact hall i h6 hni
        · have : i = k := by omega
          rw [this]; exact hf
    · rintro w' ⟨hx', h', hall'⟩
      rw [wrapi (by omega) (by omega)]
      exact ⟨⟨k + 1, by omega, by omega, hx', h', hall'⟩, (show (8 * (ns.length : Int) - ((k : Int) + 1)).toNat < (8 * (ns.length : Int) - (k : Int)).toNat by omega)⟩
  · have hkn : k = 8 * ns.length := by
      have : ¬ (k : Int) < 8 * (ns.length : Int) := by simpa using hge
      omega
    subst hkn
    have hb : below (bitsOf ns) (8 * ns.length) = bitsOf ns := below_all (fun i hi => bitsOf_beyond ns i hi)
    rw [hb] at h2
    refine ⟨hx2, .inr ⟨⟨heq, fun i hi => ?_⟩, b, s1, s2, rfl, h2, hfr⟩⟩
    rcases Nat.lt_or_ge i (8 * ns.length) with h6 | h6
    · exact hall i h6 hi
    · exact bitsOf_beyond ns i h6

/-- The bits behind the last page, as the program asks for them. -/
theorem rest_bits {ns : List Int} {n : Nat} (hl : ns.length = (n + 7) / 8) (hn : 0 < n % 8) {x : Nat} (hx : x < 256) (hlast : ns[ns.length - 1]? = some (x : Int)) :
    decide (Int.fdiv (x : Int) (2 ^ (min (Int.toNat ((n % 8 : Nat) : Int)) 8)) > 0) = false ↔ ∀ i, n ≤ i → bitsOf ns i = false := by
  rw [rest_all x hx _ (Nat.mod_lt _ (by omega))]
  have hlast' : ns.length - 1 = n / 8 := by omega
  rw [hlast'] at hlast
  rw [List.any_eq_false]
  constructor
  · intro h i hi
    rcases Nat.lt_or_ge i (8 * ns.length) with h6 | h6
    · have e : i / 8 = n / 8 := by omega
      unfold bitsOf
      rw [e]
      simp only [List.getD, hlast, Option.getD_some, Int.toNat_natCast]
      have := h (i % 8) (List.mem_range.2 (Nat.mod_lt _ (by omega)))
      have h7 : n % 8 ≤ i % 8 := by omega
      simpa [h7] using this
    · exact bitsOf_beyond ns i h6
  · intro h k hk
    have hk := List.mem_range.1 hk
    by_cases h7 : n % 8 ≤ k
    · have := h (8 * (n / 8) + k) (by omega)
      unfold bitsOf at this
      have e1 : (8 * (n / 8) + k) / 8 = n / 8 := by omega
      have e2 : (8 * (n / 8) + k) % 8 = k := by omega
      rw [e1, e2] at this
      simp only [List.getD, hlast, Option.getD_some, Int.toNat_natCast] at this
      simp [this]
    · simp [h7]

theorem space_Load {s : Sl} {ns : List Int} (hs : Src 1 w s (ns.map (.int .u8))) (hr : ∀ n ∈ ns, (0 : Int) ≤ n ∧ n ≤ 255) (hln : ns.length ≤ 1000000) (n : Int) :
    Ret Try.prog F.space_Load #[.slice s.a s.len s.cap, .int .i64 n] w (fun v w' => Ext w w' ∧ ((¬ (1 ≤ n ∧ n ≤ 1600) ∧ v = .tuple #[.pointer none, .int .i64 1]) ∨
      (1 ≤ n ∧ n ≤ 1600 ∧ ¬ goodB ns n.toNat ∧ v = .tuple #[.pointer none, .int .i64 4]) ∨
      (1 ≤ n ∧ n ≤ 1600 ∧ goodB ns n.toNat ∧ ∃ b s1 s2, v = .tuple #[.pointer (some ⟨b, 0, none⟩), .int .i64 0] ∧ SpaceAt w' b n.toNat (bitsOf ns) (bitsOf ns) s1 s2 ∧ ∀ k, fpS b s1 s2 k → w.heap.size ≤ k))) := by
  have hlen : s.len = ns.length := by have := hs.len; simp at this; omega
  refine W.space_Load_ok s n w _ ?_
  unfold W.space_Load Nx
  refine (space_good' w n).use ?_
  rintro _ _ ⟨rfl, rfl⟩
  refine ⟨_, rfl, fun h => ⟨.refl _ _, .inl ⟨by simp at h; omega, rfl⟩⟩, fun h => ?_⟩
  have h : 1 ≤ n ∧ n ≤ 1600 := by simpa using h
  obtain ⟨n, rfl⟩ := Int.eq_ofNat_of_zero_le (by omega : 0 ≤ n)
  simp only [Int.toNat_natCast]
  refine (space_size' w n (by omega)).use ?_
  rintro _ _ ⟨rfl, rfl⟩
  refine ⟨_, rfl, Jn1 (fun c w' => (c = true ↔ ¬ goodB ns n) ∧ w = w') (fun q hq => ⟨fun hne => hq _ _ ⟨?_, rfl⟩, fun heq => ⟨by decide, ?_⟩⟩) ?_⟩
  · have hne : ¬ ns.length = (n + 7) / 8 := by
      intro h; rw [hlen, h] at hne; simp at hne
    exact ⟨fun _ hg => hne hg.1, fun _ => rfl⟩
  · have heq : ns.length = (n + 7) / 8 := by
      simp only [bne_eq_false_iff_eq] at heq
      omega
    refine Jn1 (fun c w' => (c = true ↔ ¬ goodB ns n) ∧ w = w') (fun q' hq' => ⟨fun h8 => ?_, fun h8 => hq' _ _ ⟨?_, rfl⟩⟩) ?_
    · rw [tmod8] at h8 ⊢
      have hn8 : 0 < n % 8 := by
        have : ((n % 8 : Nat) : Int) > 0 := by simpa using h8
        omega
      have hl1 : ns.length - 1 < ns.length := by omega
      obtain ⟨x, hxe⟩ : ∃ x : Nat, ns[ns.length - 1] = (x : Int) := ⟨ns[ns.length - 1].toNat, by have := hr _ (List.getElem_mem hl1); omega⟩
      have hx255 : x < 256 := by have := hr _ (List.getElem_mem hl1); omega
      have hlast : ns[ns.length - 1]? = some (x : Int) := by rw [List.getElem?_eq_getElem hl1, hxe]
      obtain ⟨A, hA, hb, hc⟩ := hs.at (i := ns.length - 1) (v := .int .u8 x) (by rw [List.getElem?_map, hlast]; rfl)
      rw [hlen, wrapi (by omega) (by omega), show (((ns.length : Nat) : Int) - 1) = ((ns.length - 1 : Nat) : Int) by omega]
      rw [hlen] at hb
      refine ⟨A, hA, hb, x, hc, by decide, by omega, hq' _ _ ⟨?_, rfl⟩⟩
      have hrb := rest_bits heq hn8 hx255 hlast
      constructor
      · intro ht hg
        have := hrb.2 hg.2
        rw [ht] at this; cases this
      · intro hng
        cases hd : decide (Int.fdiv (x : Int) (2 ^ (min (Int.toNat ((n % 8 : Nat) : Int)) 8)) > 0) with
        | true => rfl
        | false => exact (hng ⟨heq, hrb.1 hd⟩).elim
    · rw [tmod8] at h8
      have hn8 : n % 8 = 0 := by
        have : ¬ ((n % 8 : Nat) : Int) > 0 := by simpa using h8
        omega
      constructor
      · intro h; cases h
      · intro hng
        exact (hng ⟨heq, fun i hi => bitsOf_beyond ns i (by omega)⟩).elim
    · rintro c _ ⟨hc, rfl⟩
      exact hq _ _ ⟨hc, rfl⟩
  · rintro c _ ⟨hc, rfl⟩
    refine ⟨fun ht => ⟨.refl _ _, .inr (.inl ⟨h.1, h.2, hc.1 ht, trivial⟩)⟩, fun hf => ?_⟩
    have hg : goodB ns n := by
      rcases Classical.em (goodB ns n) with h | h
      · exact h
      · rw [hc.2 h] at hf; cases hf
    refine (clone_Bytes hs (plain_ints _ _) (by omega)).use ?_
    rintro _ w2 ⟨t, rfl, ho, hx, hfr⟩
    rw [bytes_bits ns hr, hg.1] at ho
    have hblk := Blk.new w2 #[.int .i64 (n : Int), .slice t.a t.len t.cap, .slice none 0 0] Ty.space_Space
    have hx3 : Ext w2 (w2.alloc (.cells #[.int .i64 (n : Int), .slice t.a t.len t.cap, .slice none 0 0] Ty.space_Space)) := Chg.alloc (.refl _ _) _
    have hne : ∀ k, ownB t k → k ≠ w2.heap.size := fun k hk e => by have := ho.lt k hk; omega
    refine ⟨t, rfl, (commit_raw hblk (ho.ext hx3) hne (by omega)).use ?_⟩
    rintro _ w4 ⟨rfl, s2', h1, h2, h3, h4, h5⟩
    have hsz := hx.size
    refine ⟨rfl, ?_, .inr (.inr ⟨h.1, h.2, hg, w2.heap.size, t, s2', rfl, ⟨h1, h2, h3, fun k hk => ⟨hne k hk, fun hk2 => ?_⟩, fun k hk e => ?_, by omega, by omega, hg.2, hg.2⟩, ?_⟩)⟩
    · exact ((Chg.of_ext (hx.trans hx3)).trans h4).mono fun k hk e => by omega
    · have := h5 k hk2
      have := ho.lt k hk
      simp at *
      omega
    · have := h5 k hk
      simp at this
      omega
    · rintro k (rfl | hk | hk)
      · omega
      · exact hfr k hk
      · have := h5 k hk
        simp at this
        omega

theorem ints_same {a c : Sl} {ns : List Int} (ha : Src 1 w a (ns.map (.int .i64))) (hc : Src 1 w c (ns.map (.int .i64))) (hl : ns.length ≤ 1000000) :
    Ret Try.prog F.ref03_Ints #[.slice a.a a.len a.cap, .slice c.a c.len c.cap] w (fun v w' => v = .bool true ∧ Ext w w') := by
  have hla : a.len = ns.length := by have := ha.len; simp at this; omega
  have hlc : c.len = ns.length := by have := hc.len; simp at this; omega
  refine W.ref03_Ints_ok a c w _ ?_
  unfold W.ref03_Ints Nx
  rw [hla, hlc]
  refine ⟨fun h => by simp at h, fun _ => ⟨fun i w' => ∃ k : Nat, i = k ∧ k ≤ ns.length ∧ Ext w w', fun i _ => ((ns.length : Int) - i).toNat, ⟨0, rfl, by omega, .refl _ _⟩, ?_⟩⟩
  rintro _ w1 ⟨k, rfl, hk, hx⟩
  refine ⟨fun hlt => ?_, fun hge => ⟨rfl, hx⟩⟩
  have hkn : k < ns.length := by simpa using hlt
  obtain ⟨A, hA, hbA, hcA⟩ := (ha.ext hx.drew).at (i := k) (v := .int .i64 ns[k]) (by simp [hkn])
  obtain ⟨B, hB, hbB, hcB⟩ := (hc.ext hx.drew).at (i := k) (v := .int .i64 ns[k]) (by simp [hkn])
  rw [hla] at hbA
  rw [hlc] at hbB
  refine ⟨A, hA, hbA, by simp, _, hcA, B, hB, hbB, by simp, _, hcB, fun h => by simp at h, fun _ => ?_⟩
  rw [wrapi (by omega) (by omega)]
  exact ⟨⟨k + 1, by omega, by omega, hx.drew⟩, (show ((ns.length : Int) - ((k : Int) + 1)).toNat < ((ns.length : Int) - (k : Int)).toNat by omega)⟩

end
end Go.Proofs.Ytejnlmabomampaa
