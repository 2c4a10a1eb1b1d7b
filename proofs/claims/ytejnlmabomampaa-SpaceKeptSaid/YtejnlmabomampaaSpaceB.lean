/- Layer 6: what each function of space answers. -/
import Derived.Test.YtejnlmabomampaaWx
import Derived.Test.YtejnlmabomampaaSpaceA
namespace Go.Proofs.Ytejnlmabomampaa
open Go Gx

theorem tdiv8 (k : Nat) : Int.tdiv (k : Int) 8 = ((k / 8 : Nat) : Int) := by
  rw [Int.tdiv_eq_ediv_of_nonneg (by omega)]; omega
theorem tmod8 (k : Nat) : Int.tmod (k : Int) 8 = ((k % 8 : Nat) : Int) := by
  rw [Int.tmod_eq_emod_of_nonneg (by omega)]; omega
theorem wdiv8 {k : Nat} (h : k ≤ 9223372036854775807) : IntKind.wrap .i64 (Int.tdiv (k : Int) 8) = ((k / 8 : Nat) : Int) := by
  rw [tdiv8, wrapi (by omega) (by omega)]

theorem ownB_of {s : Sl} {b : Nat} (h : s.a = some ⟨b, 0, none⟩) : ownB s b := ⟨_, h, rfl⟩
theorem ownB_eq {s : Sl} {b k : Nat} (h : s.a = some ⟨b, 0, none⟩) (hk : ownB s k) : k = b := by
  obtain ⟨A, hA, rfl⟩ := hk
  rw [h] at hA; cases hA; rfl

theorem set_has {w : World} {s : Sl} {f : Nat → Bool} {m k : Nat} (h : OwnS 1 Ty.uint8 w s (bytesV f m)) (hk : k / 8 < m) (hk2 : k ≤ 9223372036854775807) :
    Ret Try.prog F.space_set_has #[.slice s.a s.len s.cap, .int .i64 k] w (fun v w' => v = .bool (f k) ∧ w = w') := by
  refine W.space_set_has_ok s k w _ ?_
  unfold W.space_set_has
  obtain ⟨b, c, hb, hblk, hcs, hi, hic, hc, _⟩ := h.cell (bytesV_get f hk)
  refine ⟨by decide, _, hb, ?_⟩
  rw [wdiv8 hk2, tmod8]
  refine ⟨⟨by omega, by omega⟩, (byteOf f (k / 8) : Int), ?_, by decide, by omega, ?_, rfl⟩
  · rw [Nat.mul_one, Int.toNat_natCast, add_mk, Nat.zero_add]; exact hc
  · rw [has_all _ (byteOf_lt _ _) _ (Nat.mod_lt _ (by omega)), byteOf_bit _ _ _ (Nat.mod_lt _ (by omega)), split8]

theorem set_put {w : World} {s : Sl} {f : Nat → Bool} {m k : Nat} (h : OwnS 1 Ty.uint8 w s (bytesV f m)) (hk : k / 8 < m) (hk2 : k ≤ 9223372036854775807) :
    Ret Try.prog F.space_set_put #[.slice s.a s.len s.cap, .int .i64 k] w (fun v w' => v = .tuple #[] ∧ OwnS 1 Ty.uint8 w' s (bytesV (upd f k true) m) ∧ Chg (ownB s) w w') := by
  refine W.space_set_put_ok s k w _ ?_
  unfold W.space_set_put Nx
  obtain ⟨b, c, hb, hblk, hcs, hi, hic, hc, _⟩ := h.cell (bytesV_get f hk)
  have ha : (Addr.mk b 0 none).add (Int.toNat ((k / 8 : Nat) : Int) * 1) = ⟨b, k / 8, none⟩ := by rw [Nat.mul_one, Int.toNat_natCast, add_mk, Nat.zero_add]
  rw [wdiv8 hk2, tmod8]
  refine ⟨by decide, _, hb, ⟨by omega, by omega⟩, by simp, (byteOf f (k / 8) : Int), by rw [ha]; exact hc, by decide, by omega, _, hb, ⟨by omega, by omega⟩, ⟨_, by rw [ha]; exact hc⟩, by rw [ha]; exact hblk.drew.frozen _ rfl, rfl, ?_, ?_⟩
  · rw [ha, put_all _ (byteOf_lt _ _) _ (Nat.mod_lt _ (by omega)), byteOf_put, ← bytesV_set]
    have h' : OwnS 1 Ty.uint8 w.drew s (bytesV f m) := h.chg (W := fun _ => False) (Chg.drew (.refl _ _)) (fun _ _ h => h)
    exact h'.set hb _
  · rw [ha]
    exact Chg.set (Chg.drew (.refl _ _)) (fun _ => ownB_of hb) _

theorem set_take {w : World} {s : Sl} {f : Nat → Bool} {m k : Nat} (h : OwnS 1 Ty.uint8 w s (bytesV f m)) (hk : k / 8 < m) (hk2 : k ≤ 9223372036854775807) :
    Ret Try.prog F.space_set_take #[.slice s.a s.len s.cap, .int .i64 k] w (fun v w' => v = .tuple #[] ∧ OwnS 1 Ty.uint8 w' s (bytesV (upd f k false) m) ∧ Chg (ownB s) w w') := by
  refine W.space_set_take_ok s k w _ ?_
  unfold W.space_set_take Nx
  obtain ⟨b, c, hb, hblk, hcs, hi, hic, hc, _⟩ := h.cell (bytesV_get f hk)
  have ha : (Addr.mk b 0 none).add (Int.toNat ((k / 8 : Nat) : Int) * 1) = ⟨b, k / 8, none⟩ := by rw [Nat.mul_one, Int.toNat_natCast, add_mk, Nat.zero_add]
  rw [wdiv8 hk2, tmod8]
  refine ⟨by decide, _, hb, ⟨by omega, by omega⟩, by simp, (byteOf f (k / 8) : Int), by rw [ha]; exact hc, by decide, by omega, _, hb, ⟨by omega, by omega⟩, ⟨_, by rw [ha]; exact hc⟩, by rw [ha]; exact hblk.drew.frozen _ rfl, rfl, ?_, ?_⟩
  · rw [ha, take_all _ (byteOf_lt _ _) _ (Nat.mod_lt _ (by omega)), byteOf_take, ← bytesV_set]
    have h' : OwnS 1 Ty.uint8 w.drew s (bytesV f m) := h.chg (W := fun _ => False) (Chg.drew (.refl _ _)) (fun _ _ h => h)
    exact h'.set hb _
  · rw [ha]
    exact Chg.set (Chg.drew (.refl _ _)) (fun _ => ownB_of hb) _

/-! ### The struct -/
structure SpaceAt (w : World) (b n : Nat) (f g : Nat → Bool) (s1 s2 : Sl) : Prop where
  blk : Blk w b #[.int .i64 n, .slice s1.a s1.len s1.cap, .slice s2.a s2.len s2.cap] Ty.space_Space
  now : OwnS 1 Ty.uint8 w s1 (bytesV f ((n + 7) / 8))
  sure : OwnS 1 Ty.uint8 w s2 (bytesV g ((n + 7) / 8))
  d1 : ∀ k, ownB s1 k → k ≠ b ∧ ¬ ownB s2 k
  d2 : ∀ k, ownB s2 k → k ≠ b
  n1 : 1 ≤ n
  n2 : n ≤ 1600
  pf : ∀ i, n ≤ i → f i = false
  pg : ∀ i, n ≤ i → g i = false

/-- The blocks of a space. -/
def fpS (b : Nat) (s1 s2 : Sl) (k : Nat) : Prop := k = b ∨ ownB s1 k ∨ ownB s2 k

section
variable {w w' : World} {b n : Nat} {f g : Nat → Bool} {s1 s2 : Sl}

theorem SpaceAt.chg {W : Nat → Prop} (h : SpaceAt w b n f g s1 s2) (hc : Chg W w w') (hn : ∀ k, fpS b s1 s2 k → ¬ W k) : SpaceAt w' b n f g s1 s2 :=
  ⟨h.blk.chg hc (hn b (.inl rfl)), h.now.chg hc fun k hk => hn k (.inr (.inl hk)), h.sure.chg hc fun k hk => hn k (.inr (.inr hk)), h.d1, h.d2, h.n1, h.n2, h.pf, h.pg⟩
theorem SpaceAt.ext (h : SpaceAt w b n f g s1 s2) (hc : Ext w w') : SpaceAt w' b n f g s1 s2 := h.chg hc fun _ _ h => h
theorem SpaceAt.lt (h : SpaceAt w b n f g s1 s2) : ∀ k, fpS b s1 s2 k → k < w.heap.size := by
  rintro k (rfl | hk | hk)
  · exact h.blk.lt
  · exact h.now.lt k hk
  · exact h.sure.lt k hk
theorem SpaceAt.c0 (h : SpaceAt w b n f g s1 s2) : w.cell? ⟨b, 0, none⟩ = some (.int .i64 n) := by rw [h.blk.cell]; rfl
theorem SpaceAt.c1 (h : SpaceAt w b n f g s1 s2) : w.cell? ((Addr.mk b 0 none).add 1) = some (.slice s1.a s1.len s1.cap) := by rw [add_mk, h.blk.cell]; rfl
theorem SpaceAt.c2 (h : SpaceAt w b n f g s1 s2) : w.cell? ((Addr.mk b 0 none).add 2) = some (.slice s2.a s2.len s2.cap) := by rw [add_mk, h.blk.cell]; rfl

theorem space_taken (h : SpaceAt w b n f g s1 s2) {k : Nat} (hk : k < n) :
    Ret Try.prog F.space_Space_taken #[.pointer (some ⟨b, 0, none⟩), .int .i64 k] w (fun v w' => v = .bool (f k || g k) ∧ w = w') := by
  have hn := h.n2
  refine W.space_Space_taken_ok _ k w _ ?_
  unfold W.space_Space_taken Jn
  refine ⟨_, rfl, s1, h.c1, (set_has h.now (k := k) (by omega) (by omega)).use ?_⟩
  rintro _ _ ⟨rfl, rfl⟩
  refine ⟨_, rfl, fun hf => ⟨by rw [hf]; rfl, rfl⟩, fun hf => ⟨_, rfl, s2, h.c2, (set_has h.sure (k := k) (by omega) (by omega)).use ?_⟩⟩
  rintro _ _ ⟨rfl, rfl⟩
  exact ⟨_, rfl, by rw [hf]; rfl, rfl⟩

theorem space_has (h : SpaceAt w b n f g s1 s2) (k : Int) :
    Ret Try.prog F.space_Space_has #[.pointer (some ⟨b, 0, none⟩), .int .i64 k] w (fun v w' => v = .bool (decide (0 ≤ k) && decide (k < n)) ∧ w = w') := by
  refine W.space_Space_has_ok _ k w _ ?_
  unfold W.space_Space_has Jn
  refine ⟨fun h1 => ⟨_, rfl, n, h.c0, ?_, rfl⟩, fun h1 => ⟨?_, rfl⟩⟩
  · have : 0 ≤ k := by simpa using h1
    simp [this]
  · have : ¬ 0 ≤ k := by simpa using h1
    simp [this]

/-- The first page that is taken neither way. -/
def firstFree (t : Nat → Bool) (n : Nat) : Option Nat := (List.range n).find? fun i => !t i

theorem firstFree_some {t : Nat → Bool} {n k : Nat} (hk : k < n) (ht : t k = false) (hl : ∀ i, i < k → t i = true) : firstFree t n = some k := by
  unfold firstFree
  rw [List.find?_eq_some_iff_append]
  refine ⟨by simp [ht], List.range k, (List.range' (k + 1) (n - (k + 1))), ?_, fun a ha => ?_⟩
  · have e1 := List.range'_append (s := 0) (m := k) (n := n - (k + 1) + 1) (step := 1)
    rw [List.range_eq_range', List.range_eq_range', ← List.range'_succ]
    rw [Nat.one_mul, Nat.zero_add] at e1
    rw [e1]
    congr 1
    omega
  · simp [hl a (List.mem_range.1 ha)]

theorem firstFree_none {t : Nat → Bool} {n : Nat} (hl : ∀ i, i < n → t i = true) : firstFree t n = none := by
  unfold firstFree
  rw [List.find?_eq_none]
  intro a ha
  simp [hl a (List.mem_range.1 ha)]

theorem firstFree_spec {t : Nat → Bool} {n k : Nat} (h : firstFree t n = some k) : k < n ∧ t k = false ∧ ∀ i, i < k → t i = true := by
  unfold firstFree at h
  obtain ⟨h1, la, lb, h2, h3⟩ := List.find?_eq_some_iff_append.1 h
  have hk : k < n := List.mem_range.1 (by rw [h2]; simp)
  refine ⟨hk, by simpa using h1, fun i hi => ?_⟩
  have hlen : la.length = k := by
    have h4 : (List.range n)[la.length]? = some k := by rw [h2]; simp
    rw [List.getElem?_range (by
      have := congrArg List.length h2
      simp at this
      omega)] at h4
    simpa using h4
  have h5 : (List.range n)[i]? = some i := List.getElem?_range (by omega)
  rw [h2, List.getElem?_append_left (by omega)] at h5
  have := h3 i (List.mem_of_getElem? h5)
  simpa using this

theorem firstFree_none_spec {t : Nat → Bool} {n : Nat} (h : firstFree t n = none) : ∀ i, i < n → t i = true := by
  unfold firstFree at h
  rw [List.find?_eq_none] at h
  intro i hi
  have := h i (List.mem_range.2 hi)
  simpa using this

def allocV (o : Option Nat) : Value :=
  match o with
  | some k => .tuple #[.int .i64 (k : Int), .int .i64 0]
  | none => .tuple #[.int .i64 (-1), .int .i64 2]
def allocF (o : Option Nat) (f : Nat → Bool) : Nat → Bool :=
  match o with
  | some k => upd f k true
  | none => f

theorem upd_pf {f : Nat → Bool} {n k : Nat} {x : Bool} (h : ∀ i, n ≤ i → f i = false) (hk : k < n) : ∀ i, n ≤ i → upd f k x i = false := fun i hi => by
  unfold upd
  rw [if_neg (by omega)]
  exact h i hi

theorem space_Alloc (h : SpaceAt w b n f g s1 s2) :
    Ret Try.prog F.space_Space_Alloc #[.pointer (some ⟨b, 0, none⟩)] w (fun v w' => v = allocV (firstFree (fun i => f i || g i) n) ∧ SpaceAt w' b n (allocF (firstFree (fun i => f i || g i) n) f) g s1 s2 ∧ Chg (fpS b s1 s2) w w') := by
  have hn2 := h.n2
  refine W.space_Space_Alloc_ok _ w _ ?_
  unfold W.space_Space_Alloc
  refine ⟨fun h1 => by simp at h1, fun _ => ⟨_, rfl, n, h.c0, fun i w' => ∃ k : Nat, i = k ∧ k ≤ n ∧ w = w' ∧ ∀ j, j < k → (f j || g j) = true, fun i _ => (n - i).toNat, ⟨0, rfl, by omega, rfl, fun j hj => by omega⟩, ?_⟩⟩
  rintro _ _ ⟨k, rfl, hk, rfl, hall⟩
  refine ⟨fun hlt => (space_taken h (k := k) (by simpa using hlt)).use ?_, fun hge => ?_⟩
  · have hkn : k < n := by simpa using hlt
    rintro _ _ ⟨rfl, rfl⟩
    refine ⟨_, rfl, fun ht => ⟨_, rfl, s1, h.c1, (set_put h.now (k := k) (by omega) (by omega)).use ?_⟩, fun ht => ?_⟩
    · rintro _ w' ⟨rfl, hown, hc⟩
      have ht' : (f k || g k) = false := by simpa using ht
      have hff := firstFree_some (t := fun i => f i || g i) hkn ht' hall
      rw [hff]
      refine ⟨rfl, rfl, ⟨h.blk.chg hc fun hb => (h.d1 b hb).1 rfl, hown, h.sure.chg hc fun k hk h1 => (h.d1 k h1).2 hk, h.d1, h.d2, h.n1, h.n2, upd_pf h.pf hkn, h.pg⟩, hc.mono fun k _ hk => .inr (.inl hk)⟩
    · have ht' : (f k || g k) = true := by cases hx : (f k || g k) <;> simp [hx] at ht ⊢
      rw [wrapi (by omega) (by omega)]
      refine ⟨⟨k + 1, by omega, by omega, rfl, fun j hj => ?_⟩, (show ((n : Int) - ((k : Int) + 1)).toNat < ((n : Int) - (k : Int)).toNat by omega)⟩
      rcases Nat.lt_or_ge j k with h1 | h1
      · exact hall j h1
      · have : j = k := by omega
        subst this; exact ht'
  · have hkn : k = n := by
      have : ¬ (k : Int) < n := by simpa using hge
      omega
    subst hkn
    rw [firstFree_none hall]
    exact ⟨rfl, h, .refl _ _⟩

def freeV (f : Nat → Bool) (n : Nat) (k : Int) : Int := if 0 ≤ k ∧ k < n then (if f k.toNat then 0 else 6) else 1
def freeF (f : Nat → Bool) (n : Nat) (k : Int) : Nat → Bool := if 0 ≤ k ∧ k < n then upd f k.toNat false else f

theorem upd_same {f : Nat → Bool} {k : Nat} {x : Bool} (h : f k = x) : upd f k x = f := by
  funext i
  unfold upd
  split
  · rename_i hi; rw [hi, h]
  · rfl

theorem space_Free (h : SpaceAt w b n f g s1 s2) (k : Int) :
    Ret Try.prog F.space_Space_Free #[.pointer (some ⟨b, 0, none⟩), .int .i64 k] w (fun v w' => v = .int .i64 (freeV f n k) ∧ SpaceAt w' b n (freeF f n k) g s1 s2 ∧ Chg (fpS b s1 s2) w w') := by
  have hn2 := h.n2
  refine W.space_Space_Free_ok _ k w _ ?_
  unfold W.space_Space_Free
  refine (space_has h k).use ?_
  rintro _ _ ⟨rfl, rfl⟩
  refine ⟨_, rfl, fun h1 => ?_, fun h1 => ?_⟩
  · have : ¬ (0 ≤ k ∧ k < n) := by
      rintro ⟨h2, h3⟩
      simp [h2, h3] at h1
    exact ⟨by rw [freeV, if_neg this], by rw [freeF, if_neg this]; exact h, .refl _ _⟩
  · have hr : 0 ≤ k ∧ k < n := by simpa using h1
    obtain ⟨m, rfl⟩ := Int.eq_ofNat_of_zero_le hr.1
    have hm : m < n := by omega
    refine ⟨_, rfl, s1, h.c1, (set_has h.now (k := m) (by omega) (by omega)).use ?_⟩
    rintro _ _ ⟨rfl, rfl⟩
    refine ⟨_, rfl, fun h2 => ?_, fun h2 => ⟨_, rfl, s1, h.c1, (set_take h.now (k := m) (by omega) (by omega)).use ?_⟩⟩
    · have hf : f m = false := by simpa using h2
      refine ⟨by rw [freeV, if_pos hr, Int.toNat_natCast, hf]; rfl, ?_, .refl _ _⟩
      rw [freeF, if_pos hr, Int.toNat_natCast, upd_same hf]
      exact h
    · rintro _ w' ⟨rfl, hown, hc⟩
      have hf : f m = true := by simpa using h2
      refine ⟨rfl, by rw [freeV, if_pos hr, Int.toNat_natCast, hf]; rfl, ?_, hc.mono fun k _ hk => .inr (.inl hk)⟩
      rw [freeF, if_pos hr, Int.toNat_natCast]
      exact ⟨h.blk.chg hc fun hb => (h.d1 b hb).1 rfl, hown, h.sure.chg hc fun k hk h1 => (h.d1 k h1).2 hk, h.d1, h.d2, h.n1, h.n2, upd_pf h.pf hm, h.pg⟩

theorem space_Taken (h : SpaceAt w b n f g s1 s2) (k : Int) :
    Ret Try.prog F.space_Space_Taken #[.pointer (some ⟨b, 0, none⟩), .int .i64 k] w (fun v w' => v = .bool (decide (0 ≤ k) && decide (k < n) && f k.toNat) ∧ w = w') := by
  have hn2 := h.n2
  refine W.space_Space_Taken_ok _ k w _ ?_
  unfold W.space_Space_Taken Jn
  refine (space_has h k).use ?_
  rintro _ _ ⟨rfl, rfl⟩
  refine ⟨_, rfl, fun h1 => ?_, fun h1 => ⟨by rw [h1]; rfl, rfl⟩⟩
  have hr : 0 ≤ k ∧ k < n := by simpa using h1
  obtain ⟨m, rfl⟩ := Int.eq_ofNat_of_zero_le hr.1
  refine ⟨_, rfl, s1, h.c1, (set_has h.now (k := m) (by omega) (by omega)).use ?_⟩
  rintro _ _ ⟨rfl, rfl⟩
  exact ⟨_, rfl, by rw [h1, Int.toNat_natCast]; rfl, rfl⟩

theorem space_Fresh (h : SpaceAt w b n f g s1 s2) (k : Int) :
    Ret Try.prog F.space_Space_Fresh #[.pointer (some ⟨b, 0, none⟩), .int .i64 k] w (fun v w' => v = .bool (decide (0 ≤ k) && decide (k < n) && f k.toNat && !(g k.toNat)) ∧ w = w') := by
  have hn2 := h.n2
  refine W.space_Space_Fresh_ok _ k w _ ?_
  unfold W.space_Space_Fresh Jn
  refine (space_has h k).use ?_
  rintro _ _ ⟨rfl, rfl⟩
  refine ⟨_, rfl, fun h1 => ?_, fun h1 => ⟨(fun h => by cases h), fun _ => ⟨by rw [h1]; rfl, rfl⟩⟩⟩
  have hr : 0 ≤ k ∧ k < n := by simpa using h1
  obtain ⟨m, rfl⟩ := Int.eq_ofNat_of_zero_le hr.1
  refine ⟨_, rfl, s1, h.c1, (set_has h.now (k := m) (by omega) (by omega)).use ?_⟩
  rintro _ _ ⟨rfl, rfl⟩
  refine ⟨_, rfl, fun h2 => ⟨_, rfl, s2, h.c2, (set_has h.sure (k := m) (by omega) (by omega)).use ?_⟩, fun h2 => ⟨by rw [h1, Int.toNat_natCast, h2]; rfl, rfl⟩⟩
  rintro _ _ ⟨rfl, rfl⟩
  exact ⟨_, rfl, by rw [h1, Int.toNat_natCast, h2]; rfl, rfl⟩

end

end Go.Proofs.Ytejnlmabomampaa
