/- Layer 6: copies, Commit, Abort, New, Room, Used, Bytes, Load. -/
import Derived.Test.YtejnlmabomampaaSpaceB
import Derived.Test.YtejnlmabomampaaGs
import Derived.Test.YtejnlmabomampaaRows
import Derived.OpenShut
namespace Go.Proofs.Ytejnlmabomampaa
open Go Gx

theorem appSet : AppT Try.prog Ty.space_set Ty.uint8 1 1 := ⟨by kernel_rfl⟩
theorem appByte : AppT Try.prog Ty.Sl_uint8 Ty.uint8 1 1 := ⟨by kernel_rfl⟩
theorem appInt : AppT Try.prog Ty.Sl_int Ty.int 1 8 := ⟨by kernel_rfl⟩
theorem zrow_byte (n : Nat) : zrow Try.prog Ty.uint8 n = (List.replicate n (.int .u8 0)).toArray := zrow_of (by kernel_rfl) (by kernel_rfl) n

theorem bytesV_plain (f : Nat → Bool) (m : Nat) : ∀ v ∈ bytesV f m, Plain v := by
  intro v hv
  obtain ⟨i, _, rfl⟩ := List.mem_map.1 hv
  trivial

theorem clone_Set {w : World} {s : Sl} {xs : List Value} (h : Src 1 w s xs) (hp : ∀ v ∈ xs, Plain v) (hn : s.len ≤ 1000000) :
    Ret Try.prog F.slices_Clone_space_set_byte #[.slice s.a s.len s.cap] w (fun v w' => ∃ s' : Sl, v = .slice s'.a s'.len s'.cap ∧ OwnS 1 Ty.uint8 w' s' xs ∧ Ext w w' ∧ ∀ k, ownB s' k → w.heap.size ≤ k) := by
  refine W.slices_Clone_space_set_byte_ok s w _ ?_
  unfold W.slices_Clone_space_set_byte Nx
  refine ⟨fun ha => ?_, fun _ => ?_⟩
  · have ha : s.a = none := by simpa using ha
    rw [h.nil ha]
    exact ⟨⟨none, 0, 0⟩, rfl, OwnS.none _ _ _, .refl _ _, fun k hk => (ownB_none k hk).elim⟩
  · obtain ⟨s', w', h1, h2, h3, h4, h5, _⟩ := appSet.clone (oT := Ty.space_set) h hp (by omega)
    exact ⟨s', w', h1, s', rfl, h2, h4, h5⟩

theorem clone_Bytes {w : World} {s : Sl} {xs : List Value} (h : Src 1 w s xs) (hp : ∀ v ∈ xs, Plain v) (hn : s.len ≤ 1000000) :
    Ret Try.prog F.slices_Clone_Sl_byte_byte #[.slice s.a s.len s.cap] w (fun v w' => ∃ s' : Sl, v = .slice s'.a s'.len s'.cap ∧ OwnS 1 Ty.uint8 w' s' xs ∧ Ext w w' ∧ ∀ k, ownB s' k → w.heap.size ≤ k) := by
  refine W.slices_Clone_Sl_byte_byte_ok s w _ ?_
  unfold W.slices_Clone_Sl_byte_byte Nx
  refine ⟨fun ha => ?_, fun _ => ?_⟩
  · have ha : s.a = none := by simpa using ha
    rw [h.nil ha]
    exact ⟨⟨none, 0, 0⟩, rfl, OwnS.none _ _ _, .refl _ _, fun k hk => (ownB_none k hk).elim⟩
  · obtain ⟨s', w', h1, h2, h3, h4, h5, _⟩ := appByte.clone (oT := Ty.Sl_uint8) h hp (by omega)
    exact ⟨s', w', h1, s', rfl, h2, h4, h5⟩

section
variable {w w' : World} {b n : Nat} {f g : Nat → Bool} {s1 s2 : Sl}

theorem len_of_own {T : TypeId} {m : Nat} (h : OwnS 1 T w s1 (bytesV f m)) : s1.len = m := by
  have := h.1
  rw [bytesV_length] at this
  omega

theorem commit_raw {m : Nat} {u : Value} (hb : Blk w b #[.int .i64 n, .slice s1.a s1.len s1.cap, u] Ty.space_Space) (h1 : OwnS 1 Ty.uint8 w s1 (bytesV f m)) (hd : ∀ k, ownB s1 k → k ≠ b) (hm : m ≤ 1000000) :
    Ret Try.prog F.space_Space_Commit #[.pointer (some ⟨b, 0, none⟩)] w (fun v w' => v = .tuple #[] ∧ ∃ s2' : Sl, Blk w' b #[.int .i64 n, .slice s1.a s1.len s1.cap, .slice s2'.a s2'.len s2'.cap] Ty.space_Space ∧
      OwnS 1 Ty.uint8 w' s1 (bytesV f m) ∧ OwnS 1 Ty.uint8 w' s2' (bytesV f m) ∧ Chg (fun k => k = b) w w' ∧ ∀ k, ownB s2' k → w.heap.size ≤ k) := by
  refine W.space_Space_Commit_ok _ w _ ?_
  unfold W.space_Space_Commit Nx
  refine ⟨fun _ => ⟨_, rfl, s1, by rw [add_mk, hb.cell]; rfl, (clone_Set h1.src (bytesV_plain f m) (by rw [len_of_own h1]; exact hm)).use ?_⟩, fun h => by simp at h⟩
  rintro _ w2 ⟨s2', rfl, h2, hx, hf⟩
  have hb2 := hb.ext hx
  have hne : ∀ k, ownB s2' k → k ≠ b := fun k hk e => by have := hf k hk; have := hb.lt; omega
  refine ⟨s2', rfl, _, rfl, ⟨_, by rw [add_mk, hb2.cell]; rfl⟩, hb2.frozen _ rfl, rfl, s2', ?_, ?_, ?_, ?_, hf⟩
  · rw [add_mk]; exact hb2.set 2 _
  · exact (h1.ext hx).chg (W := fun k => k = b) (Chg.set (.refl _ _) (fun _ => by rw [add_mk]) _) hd
  · exact h2.chg (W := fun k => k = b) (Chg.set (.refl _ _) (fun _ => by rw [add_mk]) _) hne
  · exact (Chg.of_ext hx).set (fun _ => by rw [add_mk]) _

theorem space_Commit (h : SpaceAt w b n f g s1 s2) :
    Ret Try.prog F.space_Space_Commit #[.pointer (some ⟨b, 0, none⟩)] w (fun v w' => v = .tuple #[] ∧ ∃ s2' : Sl, SpaceAt w' b n f f s1 s2' ∧ Chg (fpS b s1 s2) w w' ∧ ∀ k, fpS b s1 s2' k → fpS b s1 s2 k ∨ w.heap.size ≤ k) := by
  have hn := h.n2
  refine (commit_raw h.blk h.now (fun k hk => (h.d1 k hk).1) (by omega)).mono ?_
  rintro _ w' ⟨rfl, s2', h1, h2, h3, h4, h5⟩
  refine ⟨rfl, s2', ⟨h1, h2, h3, fun k hk => ⟨(h.d1 k hk).1, fun hk2 => ?_⟩, fun k hk e => ?_, h.n1, h.n2, h.pf, h.pf⟩, h4.mono fun k _ hk => .inl hk, fun k hk => ?_⟩
  · have := h5 k hk2; have := h.now.lt k hk; omega
  · have := h5 k hk; have := h.blk.lt; omega
  · rcases hk with rfl | hk | hk
    · exact .inl (.inl rfl)
    · exact .inl (.inr (.inl hk))
    · exact .inr (h5 k hk)

theorem space_Abort (h : SpaceAt w b n f g s1 s2) :
    Ret Try.prog F.space_Space_Abort #[.pointer (some ⟨b, 0, none⟩)] w (fun v w' => v = .tuple #[] ∧ ∃ s1' : Sl, SpaceAt w' b n g g s1' s2 ∧ Chg (fpS b s1 s2) w w' ∧ ∀ k, fpS b s1' s2 k → fpS b s1 s2 k ∨ w.heap.size ≤ k) := by
  have hn := h.n2
  refine W.space_Space_Abort_ok _ w _ ?_
  unfold W.space_Space_Abort Nx
  refine ⟨fun _ => ⟨_, rfl, s2, h.c2, (clone_Set h.sure.src (bytesV_plain g _) (by rw [len_of_own h.sure]; omega)).use ?_⟩, fun h => by simp at h⟩
  rintro _ w2 ⟨s1', rfl, h2, hx, hf⟩
  have hb2 := h.blk.ext hx
  have hne : ∀ k, ownB s1' k → k ≠ b := fun k hk e => by have := hf k hk; have := h.blk.lt; omega
  refine ⟨s1', rfl, _, rfl, ⟨_, by rw [add_mk, hb2.cell]; rfl⟩, hb2.frozen _ rfl, rfl, s1', ⟨?_, ?_, ?_, fun k hk => ⟨hne k hk, fun hk2 => ?_⟩, h.d2, h.n1, h.n2, h.pg, h.pg⟩, ?_, fun k hk => ?_⟩
  · rw [add_mk]; exact hb2.set 1 _
  · exact h2.chg (W := fun k => k = b) (Chg.set (.refl _ _) (fun _ => by rw [add_mk]) _) hne
  · exact (h.sure.ext hx).chg (W := fun k => k = b) (Chg.set (.refl _ _) (fun _ => by rw [add_mk]) _) h.d2
  · have := hf k hk; have := h.sure.lt k hk2; omega
  · exact (Chg.of_ext hx).set (fun _ => by rw [add_mk]; exact .inl rfl) _
  · rcases hk with rfl | hk | hk
    · exact .inl (.inl rfl)
    · exact .inr (hf k hk)
    · exact .inl (.inr (.inr hk))

/-! ### Counting -/
def popc (x : Nat) : Nat := (x.testBit 0).toNat + (x.testBit 1).toNat + (x.testBit 2).toNat + (x.testBit 3).toNat + (x.testBit 4).toNat + (x.testBit 5).toNat + (x.testBit 6).toNat + (x.testBit 7).toNat
def ones (t : Nat → Bool) : Nat → Nat
  | 0 => 0
  | k + 1 => ones t k + (t k).toNat

theorem ones_le (t : Nat → Bool) : ∀ k, ones t k ≤ k
  | 0 => Nat.le_refl _
  | k + 1 => by have := ones_le t k; have := Bool.toNat_le (t k); simp only [ones]; omega

theorem ones_byte (t : Nat → Bool) (i : Nat) : ones t (8 * (i + 1)) = ones t (8 * i) + popc (byteOf t i) := by
  have h : ∀ j, j < 8 → (byteOf t i).testBit j = t (8 * i + j) := fun j hj => byteOf_bit t i j hj
  unfold popc
  rw [h 0 (by omega), h 1 (by omega), h 2 (by omega), h 3 (by omega), h 4 (by omega), h 5 (by omega), h 6 (by omega), h 7 (by omega)]
  show ones t (8 * i + 7 + 1) = _
  simp only [ones, Nat.add_zero]
  omega

theorem ones_beyond (t : Nat → Bool) (n : Nat) (h : ∀ i, n ≤ i → t i = false) : ∀ k, ones t (n + k) = ones t n
  | 0 => rfl
  | k + 1 => by
    have := ones_beyond t n h k
    show ones t (n + k) + (t (n + k)).toNat = _
    rw [this, h (n + k) (by omega)]
    rfl

theorem popTable : ∀ x : Nat, x < 256 → (byteAt (ByteArray.mk #[0, 1, 1, 2, 1, 2, 2, 3, 1, 2, 2, 3, 2, 3, 3, 4, 1, 2, 2, 3, 2, 3, 3, 4, 2, 3, 3, 4, 3, 4, 4, 5, 1, 2, 2, 3, 2, 3, 3, 4, 2, 3, 3, 4, 3, 4, 4, 5, 2, 3, 3, 4, 3, 4, 4, 5, 3, 4, 4, 5, 4, 5, 5, 6, 1, 2, 2, 3, 2, 3, 3, 4, 2, 3, 3, 4, 3, 4, 4, 5, 2, 3, 3, 4, 3, 4, 4, 5, 3, 4, 4, 5, 4, 5, 5, 6, 2, 3, 3, 4, 3, 4, 4, 5, 3, 4, 4, 5, 4, 5, 5, 6, 3, 4, 4, 5, 4, 5, 5, 6, 4, 5, 5, 6, 5, 6, 6, 7, 1, 2, 2, 3, 2, 3, 3, 4, 2, 3, 3, 4, 3, 4, 4, 5, 2, 3, 3, 4, 3, 4, 4, 5, 3, 4, 4, 5, 4, 5, 5, 6, 2, 3, 3, 4, 3, 4, 4, 5, 3, 4, 4, 5, 4, 5, 5, 6, 3, 4, 4, 5, 4, 5, 5, 6, 4, 5, 5, 6, 5, 6, 6, 7, 2, 3, 3, 4, 3, 4, 4, 5, 3, 4, 4, 5, 4, 5, 5, 6, 3, 4, 4, 5, 4, 5, 5, 6, 4, 5, 5, 6, 5, 6, 6, 7, 3, 4, 4, 5, 4, 5, 5, 6, 4, 5, 5, 6, 5, 6, 6, 7, 4, 5, 5, 6, 5, 6, 6, 7, 5, 6, 6, 7, 6, 7, 7, 8]) x).map (·.toNat) = some (popc x) := by decide +kernel

theorem popc_le (x : Nat) : popc x ≤ 8 := by
  unfold popc
  have h : ∀ b : Bool, b.toNat ≤ 1 := Bool.toNat_le
  have := h (x.testBit 0); have := h (x.testBit 1); have := h (x.testBit 2); have := h (x.testBit 3)
  have := h (x.testBit 4); have := h (x.testBit 5); have := h (x.testBit 6); have := h (x.testBit 7)
  omega

theorem OnesCount8 (w : World) (x : Nat) (hx : x < 256) : Ret Try.prog F.math_bits_OnesCount8 #[.int .u8 x] w (fun v w' => v = .int .i64 (popc x) ∧ w = w') := by
  refine W.math_bits_OnesCount8_ok x w _ ?_
  unfold W.math_bits_OnesCount8
  have h := popTable x hx
  refine ⟨by omega, ?_⟩
  cases hb : byteAt _ x with
  | none => rw [hb] at h; cases h
  | some y =>
    rw [hb] at h
    simp only [Option.map_some, Option.some.injEq] at h
    refine ⟨y, hb, ?_, rfl⟩
    rw [h, wrapi (by omega) (by have := popc_le x; omega)]

theorem byteOf_or (f g : Nat → Bool) (i : Nat) : byteOf f i ||| byteOf g i = byteOf (fun k => f k || g k) i :=
  byteOf_unique _ _ _ (or_lt _ (byteOf_lt _ _) _ (byteOf_lt _ _)) fun j hj => by rw [Nat.testBit_or, byteOf_bit _ _ _ hj, byteOf_bit _ _ _ hj]

theorem space_Room (h : SpaceAt w b n f g s1 s2) :
    Ret Try.prog F.space_Space_Room #[.pointer (some ⟨b, 0, none⟩)] w (fun v w' => v = .int .i64 ((n : Int) - ones (fun i => f i || g i) n) ∧ Ext w w') := by
  have hn2 := h.n2
  have hl1 := len_of_own h.now
  have hl2 := len_of_own h.sure
  refine W.space_Space_Room_ok _ w _ ?_
  unfold W.space_Space_Room Nx
  refine ⟨fun h1 => by simp at h1, fun _ => ⟨_, rfl, n, h.c0, _, rfl, s1, h.c1, fun r i w' => ∃ k : Nat, i = k ∧ k ≤ s1.len ∧ Ext w w' ∧ r = (n : Int) - ones (fun i => f i || g i) (8 * k), fun _ i _ => ((s1.len : Int) - i).toNat, ⟨0, rfl, by omega, .refl _ _, by simp [ones]⟩, ?_⟩⟩
  rintro _ _ w1 ⟨k, rfl, hk, hx, rfl⟩
  refine ⟨fun hlt => ?_, fun hge => ?_⟩
  · have hkn : k < s1.len := by simpa using hlt
    have h1 := h.ext hx.drew
    obtain ⟨b1, c1, hb1, hblk1, _, _, _, hc1, _⟩ := h1.now.cell (bytesV_get f (i := k) (by omega))
    obtain ⟨b2, c2, hb2, hblk2, _, _, _, hc2, _⟩ := h1.sure.cell (bytesV_get g (i := k) (by omega))
    have ha : ∀ b : Nat, (Addr.mk b 0 none).add (Int.toNat (k : Int) * 1) = ⟨b, k, none⟩ := fun b => by rw [Nat.mul_one, Int.toNat_natCast, add_mk, Nat.zero_add]
    refine ⟨fun _ => False, _, rfl, by simp, s1, h1.c1, _, hb1, by omega, by simp, _, by rw [ha]; exact hc1, _, rfl, by simp, s2, h1.c2, _, hb2, by omega, by simp, _, by rw [ha]; exact hc2, ?_⟩
    rw [bOr_all _ _ (byteOf_lt _ _) (byteOf_lt _ _), byteOf_or]
    refine (OnesCount8 _ _ (byteOf_lt _ _)).use ?_
    rintro _ _ ⟨rfl, rfl⟩
    have := popc_le (byteOf (fun i => f i || g i) k)
    have := ones_le (fun i => f i || g i) (8 * k)
    refine ⟨_, rfl, .refl _ _, ?_⟩
    rw [wrapi (n := (n : Int) - _ - _) (by omega) (by omega), wrapi (n := (k : Int) + 1) (by omega) (by omega)]
    exact ⟨⟨k + 1, by omega, by omega, hx.drew, by rw [ones_byte]; omega⟩, (show ((s1.len : Int) - ((k : Int) + 1)).toNat < ((s1.len : Int) - (k : Int)).toNat by omega)⟩
  · have hkn : k = s1.len := by
      have : ¬ (k : Int) < s1.len := by simpa using hge
      omega
    refine ⟨?_, hx⟩
    have e : 8 * k = n + (8 * k - n) := by omega
    rw [e, ones_beyond _ _ (fun i hi => by simp [h.pf i hi, h.pg i hi])]

/-! ### What is used -/
def usedI (f : Nat → Bool) : Nat → List Int
  | 0 => []
  | k + 1 => usedI f k ++ (if f k then [(k : Int)] else [])
def usedV (f : Nat → Bool) (k : Nat) : List Value := (usedI f k).map (.int .i64)
theorem usedI_len (f : Nat → Bool) : ∀ k, (usedI f k).length ≤ k
  | 0 => Nat.le_refl _
  | k + 1 => by have := usedI_len f k; simp only [usedI, List.length_append]; split <;> simp <;> omega

theorem space_Used (h : SpaceAt w b n f g s1 s2) :
    Ret Try.prog F.space_Space_Used #[.pointer (some ⟨b, 0, none⟩)] w (fun v w' => ∃ s : Sl, v = .slice s.a s.len s.cap ∧ OwnS 1 Ty.int w' s (usedV f n) ∧ Ext w w' ∧ ∀ k, ownB s k → w.heap.size ≤ k) := by
  have hn2 := h.n2
  refine W.space_Space_Used_ok _ w _ ?_
  unfold W.space_Space_Used Nx
  refine ⟨fun h1 => by simp at h1, fun _ => ⟨_, rfl, n, h.c0, fun s i w' => ∃ k : Nat, i = k ∧ k ≤ n ∧ Ext w w' ∧ OwnS 1 Ty.int w' s (usedV f k) ∧ ∀ k, ownB s k → w.heap.size ≤ k, fun _ i _ => ((n : Int) - i).toNat,
    ⟨0, rfl, by omega, .refl _ _, OwnS.none _ _ _, fun k hk => (ownB_none k hk).elim⟩, ?_⟩⟩
  rintro s _ w1 ⟨k, rfl, hk, hx, hown, hfr⟩
  refine ⟨fun hlt => ?_, fun hge => ?_⟩
  · have hkn : k < n := by simpa using hlt
    have h1 := h.ext hx
    refine Jn1 (fun s' w' => Ext w w' ∧ OwnS 1 Ty.int w' s' (usedV f (k + 1)) ∧ ∀ k, ownB s' k → w.heap.size ≤ k) (fun q hq => ⟨_, rfl, s1, h1.c1, (set_has h1.now (k := k) (by omega) (by omega)).use ?_⟩) ?_
    · rintro _ _ ⟨rfl, rfl⟩
      refine ⟨_, rfl, fun hf => ?_, fun hf => ?_⟩
      · have hlen : s.len ≤ k := by
          have := hown.1
          have := usedI_len f k
          simp [usedV] at *
          omega
        obtain ⟨s', w', h1, h2, h3, h4, h5⟩ := appInt.push (oT := Ty.Sl_int) (xs := [.int .i64 k]) rfl hown (by simp [Plain]) (by omega)
        refine ⟨s', w', h1, hq _ _ ⟨?_, ?_, ?_⟩⟩
        · exact ((Chg.of_ext hx).trans h4).mono fun k hk ho => by have := hfr k ho; omega
        · simpa [usedV, usedI, hf] using h2
        · intro j hj
          rcases h5 j hj with hj | hj
          · exact hfr j hj
          · have := hx.size; omega
      · exact hq _ _ ⟨hx, by simpa [usedV, usedI, hf] using hown, hfr⟩
    · rintro s' w' ⟨hx', hown', hfr'⟩
      rw [wrapi (by omega) (by omega)]
      exact ⟨⟨k + 1, by omega, by omega, hx', hown', hfr'⟩, (show ((n : Int) - ((k : Int) + 1)).toNat < ((n : Int) - (k : Int)).toNat by omega)⟩
  · have hkn : k = n := by
      have : ¬ (k : Int) < n := by simpa using hge
      omega
    subst hkn
    exact ⟨s, rfl, hown, hx, hfr⟩

theorem space_Bytes (h : SpaceAt w b n f g s1 s2) :
    Ret Try.prog F.space_Space_Bytes #[.pointer (some ⟨b, 0, none⟩)] w (fun v w' => ∃ s : Sl, v = .slice s.a s.len s.cap ∧ OwnS 1 Ty.uint8 w' s (bytesV f ((n + 7) / 8)) ∧ Ext w w' ∧ ∀ k, ownB s k → w.heap.size ≤ k) := by
  have hn2 := h.n2
  refine W.space_Space_Bytes_ok _ w _ ?_
  unfold W.space_Space_Bytes
  refine ⟨fun h1 => by simp at h1, fun _ => ⟨_, rfl, s1, h.c1, (clone_Bytes h.now.src (bytesV_plain f _) (by rw [len_of_own h.now]; omega)).use ?_⟩⟩
  rintro _ w2 ⟨s, rfl, h2, hx, hf⟩
  exact ⟨s, rfl, s, rfl, h2, hx, hf⟩

end

/-! ### New and Load -/
theorem space_good' (w : World) (n : Int) : Ret Try.prog F.space_good #[.int .i64 n] w (fun v w' => v = .bool (decide (1 ≤ n ∧ n ≤ 1600)) ∧ w = w') := by
  refine W.space_good_ok n w _ ?_
  unfold W.space_good
  refine ⟨?_, rfl⟩
  simp [Bool.decide_and]

theorem space_size' (w : World) (n : Nat) (hn : n ≤ 1600) : Ret Try.prog F.space_size #[.int .i64 n] w (fun v w' => v = .int .i64 (((n + 7) / 8 : Nat) : Int) ∧ w = w') := by
  refine W.space_size_ok n w _ ?_
  unfold W.space_size
  refine ⟨by decide, ?_, rfl⟩
  rw [wrapi (n := (n : Int) + 8) (by omega) (by omega), wrapi (n := (n : Int) + 8 - 1) (by omega) (by omega), show (n : Int) + 8 - 1 = ((n + 7 : Nat) : Int) by omega, tdiv8, wrapi (by omega) (by omega)]

theorem bytesV_zero (m : Nat) : bytesV (fun i => decide (i < 0)) m = List.replicate m (.int .u8 0) := by
  apply List.ext_getElem
  · simp [bytesV]
  · intro i h1 h2
    simp [bytesV, byteOf, byte8]

theorem upd_below (j : Nat) : upd (fun i => decide (i < j)) j true = fun i => decide (i < j + 1) := by
  funext i
  unfold upd
  split
  · rename_i h; simp [h]
  · rename_i h; simp; omega

theorem space_New (w : World) (n first : Int) :
    Ret Try.prog F.space_New #[.int .i64 n, .int .i64 first] w (fun v w' => (¬ (1 ≤ n ∧ n ≤ 1600 ∧ 0 ≤ first ∧ first ≤ n) ∧ v = .tuple #[.pointer none, .int .i64 1] ∧ w = w') ∨
      (1 ≤ n ∧ n ≤ 1600 ∧ 0 ≤ first ∧ first ≤ n ∧ ∃ b s1 s2, v = .tuple #[.pointer (some ⟨b, 0, none⟩), .int .i64 0] ∧ SpaceAt w' b n.toNat (fun i => decide (i < first.toNat)) (fun i => decide (i < first.toNat)) s1 s2 ∧ Ext w w' ∧ ∀ k, fpS b s1 s2 k → w.heap.size ≤ k)) := by
  refine W.space_New_ok n first w _ ?_
  unfold W.space_New Nx
  refine (space_good' w n).use ?_
  rintro _ _ ⟨rfl, rfl⟩
  refine ⟨_, rfl, fun h => .inl ⟨fun hc => ?_, rfl, rfl⟩, fun h => ?_⟩
  · simp at h; omega
  simp at h
  obtain ⟨⟨⟨hn1, hn2⟩, hf1⟩, hf2⟩ := h
  obtain ⟨n, rfl⟩ := Int.eq_ofNat_of_zero_le (by omega : 0 ≤ n)
  obtain ⟨first, rfl⟩ := Int.eq_ofNat_of_zero_le (by omega : 0 ≤ first)
  refine (space_size' w n (by omega)).use ?_
  rintro _ _ ⟨rfl, rfl⟩
  refine ⟨_, rfl, by omega, ?_⟩
  simp only [Int.toNat_natCast]
  rw [zrow_byte]
  obtain ⟨m, hm⟩ : ∃ m, m = (n + 7) / 8 := ⟨_, rfl⟩
  rw [← hm]
  have hown := OwnS.new (sz := 1) (T := Ty.uint8) w (List.replicate m (.int .u8 0)) m (by simp) (by show m ≤ 2 ^ 63 - 1; omega)
  rw [← bytesV_zero] at hown ⊢
  have hA : Ext w (w.alloc (.cells (bytesV (fun i => decide (i < 0)) m).toArray Ty.uint8)) := Chg.alloc (.refl _ _) _
  generalize hw1 : w.alloc (.cells (bytesV (fun i => decide (i < 0)) m).toArray Ty.uint8) = w1 at *
  have hsz : w1.heap.size = w.heap.size + 1 := by rw [← hw1]; simp
  have hblk := Blk.new w1 #[.int .i64 (n : Int), .slice (some ⟨w.heap.size, 0, none⟩) m m, .slice none 0 0] Ty.space_Space
  have hB := Chg.alloc hA (.cells #[.int .i64 (n : Int), .slice (some ⟨w.heap.size, 0, none⟩) m m, .slice none 0 0] Ty.space_Space)
  have hown2 := hown.ext (Chg.alloc (.refl _ w1) (.cells #[.int .i64 (n : Int), .slice (some ⟨w.heap.size, 0, none⟩) m m, .slice none 0 0] Ty.space_Space))
  refine ⟨fun i w' => ∃ j : Nat, i = j ∧ j ≤ first ∧ Ext w w' ∧ Blk w' w1.heap.size #[.int .i64 (n : Int), .slice (some ⟨w.heap.size, 0, none⟩) m m, .slice none 0 0] Ty.space_Space ∧
    OwnS 1 Ty.uint8 w' ⟨some ⟨w.heap.size, 0, none⟩, m, m⟩ (bytesV (fun i => decide (i < j)) m), fun i _ => ((first : Int) - i).toNat, ⟨0, rfl, by omega, hB, hblk, hown2⟩, ?_⟩
  rintro _ w2 ⟨j, rfl, hj, hx, hb2, ho2⟩
  refine ⟨fun hlt => ?_, fun hge => ?_⟩
  · have hj2 : j < first := by simpa using hlt
    refine ⟨_, rfl, ⟨some ⟨w.heap.size, 0, none⟩, m, m⟩, by rw [add_mk, hb2.cell]; rfl, (set_put ho2 (k := j) (by omega) (by omega)).use ?_⟩
    rintro _ w3 ⟨rfl, ho3, hc⟩
    rw [upd_below] at ho3
    rw [wrapi (by omega) (by omega)]
    refine ⟨rfl, ⟨j + 1, by omega, by omega, ?_, hb2.chg hc ?_, ho3⟩, (show ((first : Int) - ((j : Int) + 1)).toNat < ((first : Int) - (j : Int)).toNat by omega)⟩
    · exact ((Chg.of_ext hx).trans hc).mono fun k hk ho => by rw [ownB_some] at ho; simp at ho; omega
    · intro ho
      rw [ownB_some] at ho
      simp at ho
      omega
  · have hj2 : j = first := by
      have : ¬ (j : Int) < first := by simpa using hge
      omega
    subst hj2
    have hpf : ∀ i, n ≤ i → decide (i < j) = false := fun i hi => by simp; omega
    refine (commit_raw hb2 ho2 (fun k hk e => ?_) (by omega)).use ?_
    · rw [ownB_some] at hk
      simp at hk
      omega
    rintro _ w3 ⟨rfl, s2', h1, h2, h3, h4, h5⟩
    have hlt2 := hb2.lt
    refine ⟨rfl, .inr ⟨by omega, by omega, by omega, by omega, w1.heap.size, ⟨some ⟨w.heap.size, 0, none⟩, m, m⟩, s2', rfl, ⟨h1, ?_, ?_, fun k hk => ⟨fun e => ?_, fun hk2 => ?_⟩, fun k hk e => ?_, by omega, by omega, hpf, hpf⟩, ?_, ?_⟩⟩
    · simp only [← hm]; exact h2
    · simp only [← hm]; exact h3
    · rw [ownB_some] at hk
      simp at hk
      omega
    · rw [ownB_some] at hk
      simp at hk
      have := h5 k hk2
      omega
    · have := h5 k hk
      omega
    · exact ((Chg.of_ext hx).trans h4).mono fun k hk e => by omega
    · rintro k (rfl | hk | hk)
      · omega
      · rw [ownB_some] at hk
        simp at hk
        omega
      · have := h5 k hk
        have := hx.size
        omega

end Go.Proofs.Ytejnlmabomampaa
