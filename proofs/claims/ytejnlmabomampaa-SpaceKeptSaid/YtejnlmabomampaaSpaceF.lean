/- Layer 6: the document's space, its other calls. -/
import Derived.Test.YtejnlmabomampaaSpaceE
namespace Go.Proofs.Ytejnlmabomampaa
open Go Gx

section
variable {w w' : World} {b n : Nat} {f g : Nat → Bool} {s1 s2 : Sl}

theorem RefAt.put1 (h : RefAt w b n f g s1 s2) {A : Addr} {k : Nat} (x : Bool) (hb : ownB s1 A.block) (ho : OwnS 1 Ty.bool (w.setCell A (.bool x)) s1 ((boolsV f n).set k (.bool x))) :
    RefAt (w.setCell A (.bool x)) b n (upd f k x) g s1 s2 ∧ Chg (fpS b s1 s2) w (w.setCell A (.bool x)) := by
  have hc : Chg (ownB s1) w (w.setCell A (.bool x)) := Chg.set (.refl _ _) (fun _ => hb) _
  rw [boolsV_set] at ho
  exact ⟨⟨h.blk.chg hc fun hk => (h.d1 b hk).1 rfl, ho, h.sure.chg hc fun k hk h1 => (h.d1 k h1).2 hk, h.d1, h.d2⟩, hc.mono fun k _ hk => .inr (.inl hk)⟩

theorem RefAt.put2 (h : RefAt w b n f g s1 s2) {A : Addr} {k : Nat} (x : Bool) (hb : ownB s2 A.block) (ho : OwnS 1 Ty.bool (w.setCell A (.bool x)) s2 ((boolsV g n).set k (.bool x))) :
    RefAt (w.setCell A (.bool x)) b n f (upd g k x) s1 s2 ∧ Chg (fpS b s1 s2) w (w.setCell A (.bool x)) := by
  have hc : Chg (ownB s2) w (w.setCell A (.bool x)) := Chg.set (.refl _ _) (fun _ => hb) _
  rw [boolsV_set] at ho
  exact ⟨⟨h.blk.chg hc fun hk => h.d2 b hk rfl, h.now.chg hc fun k hk h1 => (h.d1 k hk).2 h1, ho, h.d1, h.d2⟩, hc.mono fun k _ hk => .inr (.inr hk)⟩

theorem ref_Alloc (h : RefAt w b n f g s1 s2) (hn : n ≤ 100000) :
    Ret Try.prog F.ref06_Space_Alloc #[.pointer (some ⟨b, 0, none⟩)] w (fun v w' => v = allocV (firstFree (fun i => f i || g i) n) ∧ RefAt w' b n (allocF (firstFree (fun i => f i || g i) n) f) g s1 s2 ∧ Chg (fpS b s1 s2) w w') := by
  refine W.ref06_Space_Alloc_ok _ w _ ?_
  unfold W.ref06_Space_Alloc Nx
  refine ⟨fun i w' => ∃ k : Nat, i = k ∧ k ≤ n ∧ w = w' ∧ ∀ j, j < k → (f j || g j) = true, fun i _ => (n - i).toNat, ⟨0, rfl, by omega, rfl, fun j hj => by omega⟩, ?_⟩
  rintro _ _ ⟨k, rfl, hk, rfl, hall⟩
  refine ⟨_, rfl, s1, h.c0, fun hlt => ?_, fun hge => ?_⟩
  · have hkn : k < n := by rw [h.len1] at hlt; simpa using hlt
    obtain ⟨A, hA, hb, hc, hf, hob, hset⟩ := h.now.at (boolsV_get f hkn)
    obtain ⟨B, hB, hbB, hcB, _, _, _⟩ := h.sure.at (boolsV_get g hkn)
    refine ⟨_, rfl, s1, h.c0, A, hA, hb, f k, hc, Jn1 (fun c w' => c = !(f k || g k) ∧ w = w') (fun q hq => ⟨fun h1 => ⟨_, rfl, s2, h.c1, B, hB, hbB, g k, hcB, hq _ _ ⟨?_, rfl⟩⟩, fun h1 => hq _ _ ⟨?_, rfl⟩⟩) ?_⟩
    · have : f k = false := by simpa using h1
      simp [this]
    · have : f k = true := by simpa using h1
      simp [this]
    · rintro c _ ⟨rfl, rfl⟩
      refine ⟨fun ht => ⟨_, rfl, s1, h.c0, A, hA, hb, ⟨_, hc⟩, hf, ?_⟩, fun ht => ?_⟩
      · have ht' : (f k || g k) = false := by simpa using ht
        rw [firstFree_some (t := fun i => f i || g i) hkn ht' hall]
        obtain ⟨h1, h2⟩ := h.put1 true hob (hset _)
        exact ⟨rfl, h1, h2⟩
      · have ht' : (f k || g k) = true := by cases hx : (f k || g k) <;> simp [hx] at ht ⊢
        rw [wrapi (by omega) (by omega)]
        refine ⟨⟨k + 1, by omega, by omega, rfl, fun j hj => ?_⟩, (show ((n : Int) - ((k : Int) + 1)).toNat < ((n : Int) - (k : Int)).toNat by omega)⟩
        rcases Nat.lt_or_ge j k with h1 | h1
        · exact hall j h1
        · have : j = k := by omega
          subst this; exact ht'
  · have hkn : k = n := by
      rw [h.len1] at hge
      have : ¬ (k : Int) < n := by simpa using hge
      omega
    subst hkn
    rw [firstFree_none hall]
    exact ⟨rfl, h, .refl _ _⟩

theorem ref_Free (h : RefAt w b n f g s1 s2) (k : Int) :
    Ret Try.prog F.ref06_Space_Free #[.pointer (some ⟨b, 0, none⟩), .int .i64 k] w (fun v w' => v = .int .i64 (freeV f n k) ∧ RefAt w' b n (freeF f n k) g s1 s2 ∧ Chg (fpS b s1 s2) w w') := by
  refine W.ref06_Space_Free_ok _ k w _ ?_
  unfold W.ref06_Space_Free Nx
  refine Jn1 (fun c w' => c = !decide (0 ≤ k ∧ k < n) ∧ w = w') (fun q hq => ⟨fun h1 => hq _ _ ⟨?_, rfl⟩, fun h1 => ⟨_, rfl, s1, h.c0, hq _ _ ⟨?_, rfl⟩⟩⟩) ?_
  · have : k < 0 := by simpa using h1
    have : ¬ (0 ≤ k ∧ k < n) := by omega
    simp [this]
  · have : ¬ k < 0 := by simpa using h1
    rw [h.len1]
    by_cases h2 : k < n
    · have : 0 ≤ k ∧ k < n := by omega
      have h3 : ¬ k ≥ n := by omega
      simp [this, h3]
    · have : ¬ (0 ≤ k ∧ k < n) := by omega
      have h3 : k ≥ n := by omega
      simp [this, h3]
  · rintro c _ ⟨rfl, rfl⟩
    refine ⟨fun h1 => ?_, fun h1 => ?_⟩
    · have h2 : ¬ (0 ≤ k ∧ k < n) := by simp at h1; omega
      exact ⟨by rw [freeV, if_neg h2], by rw [freeF, if_neg h2]; exact h, .refl _ _⟩
    · have hr : 0 ≤ k ∧ k < n := by simpa using h1
      obtain ⟨m, rfl⟩ := Int.eq_ofNat_of_zero_le hr.1
      have hm : m < n := by omega
      obtain ⟨A, hA, hb, hc, hf, hob, hset⟩ := h.now.at (boolsV_get f hm)
      refine ⟨_, rfl, s1, h.c0, A, hA, hb, f m, hc, fun h2 => ?_, fun h2 => ⟨_, rfl, s1, h.c0, A, hA, hb, ⟨_, hc⟩, hf, ?_⟩⟩
      · have hf : f m = false := by simpa using h2
        refine ⟨by rw [freeV, if_pos hr, Int.toNat_natCast, hf]; rfl, ?_, .refl _ _⟩
        rw [freeF, if_pos hr, Int.toNat_natCast, upd_same hf]
        exact h
      · have hf : f m = true := by simpa using h2
        obtain ⟨h1, h2⟩ := h.put1 false hob (hset _)
        refine ⟨by rw [freeV, if_pos hr, Int.toNat_natCast, hf]; rfl, ?_, h2⟩
        rw [freeF, if_pos hr, Int.toNat_natCast]
        exact h1

theorem ref_Commit (h : RefAt w b n f g s1 s2) (hn : n ≤ 100000) :
    Ret Try.prog F.ref06_Space_Commit #[.pointer (some ⟨b, 0, none⟩)] w (fun v w' => v = .tuple #[] ∧ ∃ s2' : Sl, RefAt w' b n f f s1 s2' ∧ Chg (fpS b s1 s2) w w' ∧ ∀ k, fpS b s1 s2' k → fpS b s1 s2 k ∨ w.heap.size ≤ k) := by
  refine W.ref06_Space_Commit_ok _ w _ ?_
  unfold W.ref06_Space_Commit Nx
  have h1 := h.ext (Chg.alloc (.refl _ w) (.cells #[] Ty.bool))
  obtain ⟨s2', w2, hr, ho, hl, hx, hfr, _⟩ := appBool.clone (oT := Ty.Sl_bool) h.now.src (boolsV_plain f n) (by rw [h.len1]; omega)
  have hb2 := h.blk.ext hx
  have hc : Chg (fun k => k = b) w2 (w2.setCell ((Addr.mk b 0 none).add 1) (.slice s2'.a s2'.len s2'.cap)) := Chg.set (.refl _ _) (fun _ => by rw [add_mk]) _
  have hne : ∀ k, ownB s2' k → k ≠ b := fun k hk e => by have := hfr k hk; have := h.blk.lt; omega
  refine ⟨_, rfl, s1, h1.c0, s2', w2, hr, _, rfl, ⟨_, by rw [add_mk, hb2.cell]; rfl⟩, hb2.frozen _ rfl, rfl, s2', ⟨?_, ?_, ho.chg hc hne, fun k hk => ⟨(h.d1 k hk).1, fun h2 => ?_⟩, hne⟩, ?_, ?_⟩
  · rw [add_mk]; exact hb2.set 1 _
  · exact (h.now.ext hx).chg hc fun k hk => (h.d1 k hk).1
  · have := hfr k h2; have := h.now.lt k hk; omega
  · exact (Chg.of_ext hx).trans (hc.mono fun k _ hk => .inl hk)
  · rintro k (rfl | hk | hk)
    · exact .inl (.inl rfl)
    · exact .inl (.inr (.inl hk))
    · exact .inr (hfr k hk)

theorem ref_Abort (h : RefAt w b n f g s1 s2) (hn : n ≤ 100000) :
    Ret Try.prog F.ref06_Space_Abort #[.pointer (some ⟨b, 0, none⟩)] w (fun v w' => v = .tuple #[] ∧ ∃ s1' : Sl, RefAt w' b n g g s1' s2 ∧ Chg (fpS b s1 s2) w w' ∧ ∀ k, fpS b s1' s2 k → fpS b s1 s2 k ∨ w.heap.size ≤ k) := by
  refine W.ref06_Space_Abort_ok _ w _ ?_
  unfold W.ref06_Space_Abort Nx
  have h1 := h.ext (Chg.alloc (.refl _ w) (.cells #[] Ty.bool))
  obtain ⟨s1', w2, hr, ho, hl, hx, hfr, _⟩ := appBool.clone (oT := Ty.Sl_bool) h.sure.src (boolsV_plain g n) (by rw [h.len2]; omega)
  have hb2 := h.blk.ext hx
  have hc : Chg (fun k => k = b) w2 (w2.setCell ⟨b, 0, none⟩ (.slice s1'.a s1'.len s1'.cap)) := Chg.set (W := fun k => k = b) (.refl _ _) (fun _ => rfl) _
  have hne : ∀ k, ownB s1' k → k ≠ b := fun k hk e => by have := hfr k hk; have := h.blk.lt; omega
  refine ⟨_, rfl, s2, h1.c1, s1', w2, hr, _, rfl, ⟨_, by rw [hb2.cell]; rfl⟩, hb2.frozen _ rfl, rfl, s1', ⟨?_, ho.chg hc hne, ?_, fun k hk => ⟨hne k hk, fun h2 => ?_⟩, h.d2⟩, ?_, ?_⟩
  · exact hb2.set 0 _
  · exact (h.sure.ext hx).chg hc h.d2
  · have := hfr k hk; have := h.sure.lt k h2; omega
  · exact (Chg.of_ext hx).trans (hc.mono fun k _ hk => .inl hk)
  · rintro k (rfl | hk | hk)
    · exact .inl (.inl rfl)
    · exact .inr (hfr k hk)
    · exact .inl (.inr (.inr hk))

theorem ref_Room (h : RefAt w b n f g s1 s2) (hn : n ≤ 100000) :
    Ret Try.prog F.ref06_Space_Room #[.pointer (some ⟨b, 0, none⟩)] w (fun v w' => v = .int .i64 ((n : Int) - ones (fun i => f i || g i) n) ∧ w = w') := by
  refine W.ref06_Space_Room_ok _ w _ ?_
  unfold W.ref06_Space_Room
  refine ⟨fun r i w' => ∃ k : Nat, i = k ∧ k ≤ n ∧ w = w' ∧ r = (k : Int) - ones (fun i => f i || g i) k, fun _ i _ => ((n : Int) - i).toNat, ⟨0, rfl, by omega, rfl, by simp [ones]⟩, ?_⟩
  rintro _ _ _ ⟨k, rfl, hk, rfl, rfl⟩
  refine ⟨_, rfl, s1, h.c0, fun hlt => ?_, fun hge => ?_⟩
  · have hkn : k < n := by rw [h.len1] at hlt; simpa using hlt
    obtain ⟨A, hA, hb, hc, hf, hob, hset⟩ := h.now.at (boolsV_get f hkn)
    obtain ⟨B, hB, hbB, hcB, _, _, _⟩ := h.sure.at (boolsV_get g hkn)
    have h1 := ones_le (fun i => f i || g i) k
    have h2 : ones (fun i => f i || g i) (k + 1) = ones (fun i => f i || g i) k + (f k || g k).toNat := rfl
    refine Jn1 (fun r w' => w = w' ∧ r = ((k : Int) + 1) - ones (fun i => f i || g i) (k + 1)) (fun q hq => ⟨_, rfl, s1, h.c0, A, hA, hb, f k, hc, Jn1 (fun c w' => c = !(f k || g k) ∧ w = w') (fun q' hq' => ⟨fun h1 => ⟨_, rfl, s2, h.c1, B, hB, hbB, g k, hcB, hq' _ _ ⟨?_, rfl⟩⟩, fun h1 => hq' _ _ ⟨?_, rfl⟩⟩) ?_⟩) ?_
    · have : f k = false := by simpa using h1
      simp [this]
    · have : f k = true := by simpa using h1
      simp [this]
    · rintro c _ ⟨rfl, rfl⟩
      refine ⟨fun ht => hq _ _ ⟨rfl, ?_⟩, fun ht => hq _ _ ⟨rfl, ?_⟩⟩
      · have ht' : (f k || g k) = false := by simpa using ht
        rw [h2, ht', wrapi (by omega) (by omega)]
        simp
        omega
      · have ht' : (f k || g k) = true := by cases hx : (f k || g k) <;> simp [hx] at ht ⊢
        rw [h2, ht']
        simp
        omega
    · rintro r _ ⟨rfl, rfl⟩
      rw [wrapi (by omega) (by omega)]
      exact ⟨⟨k + 1, by omega, by omega, rfl, by omega⟩, (show ((n : Int) - ((k : Int) + 1)).toNat < ((n : Int) - (k : Int)).toNat by omega)⟩
  · have hkn : k = n := by
      rw [h.len1] at hge
      have : ¬ (k : Int) < n := by simpa using hge
      omega
    subst hkn
    exact ⟨rfl, rfl⟩

theorem ref_Used (h : RefAt w b n f g s1 s2) (hn : n ≤ 100000) :
    Ret Try.prog F.ref06_Space_Used #[.pointer (some ⟨b, 0, none⟩)] w (fun v w' => ∃ s : Sl, v = .slice s.a s.len s.cap ∧ OwnS 1 Ty.int w' s (usedV f n) ∧ Ext w w' ∧ ∀ k, ownB s k → w.heap.size ≤ k) := by
  refine W.ref06_Space_Used_ok _ w _ ?_
  unfold W.ref06_Space_Used Nx
  refine ⟨fun s i w' => ∃ k : Nat, i = k ∧ k ≤ n ∧ Ext w w' ∧ OwnS 1 Ty.int w' s (usedV f k) ∧ ∀ k, ownB s k → w.heap.size ≤ k, fun _ i _ => ((n : Int) - i).toNat,
    ⟨0, rfl, by omega, Chg.alloc (.refl _ _) _, OwnS.new w [] 0 rfl (by decide), fun k hk => ?_⟩, ?_⟩
  · rw [ownB_some] at hk
    exact Nat.le_of_eq hk
  rintro s _ w1 ⟨k, rfl, hk, hx, hown, hfr⟩
  have h1 := h.ext hx
  refine ⟨_, rfl, s1, h1.c0, fun hlt => ?_, fun hge => ?_⟩
  · have hkn : k < n := by rw [h.len1] at hlt; simpa using hlt
    obtain ⟨A, hA, hb, hc, _, _, _⟩ := h1.now.at (boolsV_get f hkn)
    refine Jn1 (fun s' w' => Ext w w' ∧ OwnS 1 Ty.int w' s' (usedV f (k + 1)) ∧ ∀ k, ownB s' k → w.heap.size ≤ k) (fun q hq => ⟨_, rfl, s1, h1.c0, A, hA, hb, f k, hc, fun hf => ?_, fun hf => ?_⟩) ?_
    · have hlen : s.len ≤ k := by
        have := hown.1
        have := usedI_len f k
        simp [usedV] at *
        omega
      obtain ⟨s', w', h1, h2, h3, h4, h5⟩ := appInt.push (oT := Ty.Sl_int) (xs := [.int .i64 k]) rfl hown (by simp [Plain]) (by omega)
      refine ⟨s', w', h1, hq _ _ ⟨?_, ?_, ?_⟩⟩
      · exact ((Chg.of_ext hx).trans h4).mono fun k hk ho => by have := hfr k ho; omega
      · simpa [usedV, usedI, hf] using h2
      · intro j hj
        rcases h5 j hj with hj | hj
        · exact hfr j hj
        · have := hx.size; omega
    · exact hq _ _ ⟨hx, by simpa [usedV, usedI, hf] using hown, hfr⟩
    · rintro s' w' ⟨hx', hown', hfr'⟩
      rw [wrapi (by omega) (by omega)]
      exact ⟨⟨k + 1, by omega, by omega, hx', hown', hfr'⟩, (show ((n : Int) - ((k : Int) + 1)).toNat < ((n : Int) - (k : Int)).toNat by omega)⟩
  · have hkn : k = n := by
      rw [h.len1] at hge
      have : ¬ (k : Int) < n := by simpa using hge
      omega
    subst hkn
    exact ⟨s, rfl, hown, hx, hfr⟩

end
end Go.Proofs.Ytejnlmabomampaa
