/- Layer 6: lives, and the statement that all pages are given. -/
import Derived.Test.YtejnlmabomampaaSpaceC
namespace Go.Proofs.Ytejnlmabomampaa
open Go Gx

theorem lives06 (w : World) : Ret Try.prog F.law06_lives #[] w (fun v w' => v = .bool true ∧ Ext w w') := by
  refine W.law06_lives_ok w _ ?_
  unfold W.law06_lives
  refine (space_New w 16 2).use ?_
  rintro _ w1 (⟨h, _⟩ | ⟨_, _, _, _, b, s1, s2, rfl, h, hx, hf⟩)
  · exact (h (by omega)).elim
  have e0 : firstFree (fun i => decide (i < (2 : Int).toNat) || decide (i < (2 : Int).toNat)) (16 : Int).toNat = some 2 := by decide
  refine ⟨_, _, rfl, (space_Alloc h).use ?_⟩
  rintro _ w2 ⟨rfl, h2, hc⟩
  rw [e0] at h2 ⊢
  have hx2 : Ext w w2 := ((Chg.of_ext hx).trans hc).mono fun k hk ho => by have := hf k ho; omega
  refine ⟨2, 0, rfl, Jn1 (fun c w' => c = true ∧ Ext w w') (fun k hk => ⟨fun _ => (space_Room h2).use ?_, fun h => by simp at h⟩) ?_⟩
  · rintro _ w3 ⟨rfl, hx3⟩
    refine ⟨_, rfl, hk _ _ ⟨?_, hx2.trans hx3⟩⟩
    have e1 : ones (fun i => allocF (some 2) (fun i => decide (i < (2 : Int).toNat)) i || decide (i < (2 : Int).toNat)) (16 : Int).toNat = 3 := by decide
    rw [e1]
    decide
  · rintro c w3 ⟨rfl, hx3⟩
    exact ⟨rfl, hx3⟩

theorem ones_below (a k : Nat) (h : a ≤ k) : ∀ m, ones (fun i => decide (i < a)) m = min a m
  | 0 => by simp [ones]
  | m + 1 => by
    simp only [ones, ones_below a k h m]
    by_cases hm : m < a
    · simp [hm]; omega
    · simp [hm]; omega

theorem below_or (i first : Nat) (h : first ≤ i) : (fun j => decide (j < i) || decide (j < first)) = fun j => decide (j < i) := by
  funext j
  by_cases h1 : j < i
  · simp [h1]
  · have : ¬ j < first := by omega
    simp [h1, this]

theorem law_SpaceAll (n first : Int) (w : World) (hn0 : 0 ≤ n) (hn1 : n ≤ 255) (hf0 : 0 ≤ first) (hf1 : first ≤ 255) :
    Ret Try.prog F.law06_SpaceAll #[.int .u8 n, .int .u8 first] w (fun v w' => v = .bool true ∧ Ext w w') := by
  obtain ⟨n, rfl⟩ := Int.eq_ofNat_of_zero_le hn0
  obtain ⟨first, rfl⟩ := Int.eq_ofNat_of_zero_le hf0
  refine W.law06_SpaceAll_ok n first w _ ?_
  unfold W.law06_SpaceAll
  rw [wrapi (n := (n : Int)) (by omega) (by omega), wrapi (n := (first : Int)) (by omega) (by omega), wrapi (n := 1 + (n : Int)) (by omega) (by omega), wrapi (n := 1 + (n : Int) + 1) (by omega) (by omega)]
  obtain ⟨k, hk⟩ : ∃ k : Nat, k = 1 + n := ⟨_, rfl⟩
  have hk' : (1 : Int) + (n : Int) = (k : Int) := by omega
  rw [hk']
  obtain ⟨f, hfe⟩ : ∃ f : Nat, f = first % (k + 1) := ⟨_, rfl⟩
  have hf' : Int.tmod (first : Int) ((k : Int) + 1) = (f : Int) := by
    rw [Int.tmod_eq_emod_of_nonneg (by omega), hfe]
    exact (Int.natCast_emod first (k + 1)).symm
  rw [hf']
  have hfk : f ≤ k := by
    have := Nat.mod_lt first (show k + 1 > 0 by omega)
    omega
  refine ⟨by omega, (space_New w k f).use ?_⟩
  rintro _ w1 (⟨h, _⟩ | ⟨_, _, _, _, b, s1, s2, rfl, h, hx, hf⟩)
  · exact (h (by omega)).elim
  simp only [Int.toNat_natCast] at h
  refine ⟨_, _, rfl, Jn1 (fun c w' => c = false ∧ Ext w1 w') (fun q hq => ⟨fun h => by simp at h, fun _ => (space_Room h).use ?_⟩) ?_⟩
  · rintro _ w2 ⟨rfl, hx2⟩
    refine ⟨_, rfl, hq _ _ ⟨?_, hx2⟩⟩
    rw [below_or _ _ (Nat.le_refl _), ones_below f k (by omega), wrapi (by omega) (by omega)]
    simp
    omega
  · rintro c w2 ⟨rfl, hx2⟩
    refine ⟨(fun h => by cases h), fun _ => ⟨fun i w' => ∃ j : Nat, i = j ∧ f ≤ j ∧ j ≤ k ∧ SpaceAt w' b k (fun i => decide (i < j)) (fun i => decide (i < f)) s1 s2 ∧ Ext w w', fun i _ => ((k : Int) - i).toNat, ⟨f, rfl, by omega, by omega, h.ext hx2, hx.trans hx2⟩, ?_⟩⟩
    rintro _ w3 ⟨j, rfl, hj0, hj1, h3, hx3⟩
    refine ⟨fun hlt => (space_Alloc h3).use ?_, fun hge => (space_Alloc h3).use ?_⟩
    · have hjk : j < k := by simpa using hlt
      rintro _ w4 ⟨rfl, h4, hc⟩
      rw [below_or _ _ hj0, firstFree_some (k := j) hjk (by simp) (fun i hi => by simpa using hi)] at h4 ⊢
      refine ⟨_, _, rfl, fun h => by simp at h, fun _ => ?_⟩
      rw [wrapi (by omega) (by omega)]
      refine ⟨⟨j + 1, by omega, by omega, by omega, ?_, ?_⟩, (show ((k : Int) - ((j : Int) + 1)).toNat < ((k : Int) - (j : Int)).toNat by omega)⟩
      · have := h4
        simp only [allocF, upd_below] at this
        exact this
      · exact ((Chg.of_ext hx3).trans hc).mono fun k hk ho => by have := hf k ho; omega
    · have hjk : j = k := by
        have : ¬ (j : Int) < k := by simpa using hge
        omega
      subst hjk
      rintro _ w4 ⟨rfl, h4, hc⟩
      rw [below_or _ _ hj0, firstFree_none (fun i hi => by simpa using hi)] at h4 ⊢
      have hx4 : Ext w w4 := ((Chg.of_ext hx3).trans hc).mono fun k hk ho => by have := hf k ho; omega
      refine ⟨-1, 2, rfl, Jn1 (fun c w' => c = true ∧ Ext w w') (fun q hq => ⟨fun _ => (space_Room h4).use ?_, fun h => by simp at h⟩) ?_⟩
      · rintro _ w5 ⟨rfl, hx5⟩
        refine ⟨_, rfl, hq _ _ ⟨?_, hx4.trans hx5⟩⟩
        simp only [allocF]
        rw [below_or _ _ hj0, ones_below j j (by omega)]
        simp
      · rintro c w5 ⟨rfl, hx5⟩
        refine Jn1 (fun c w' => c = true ∧ Ext w w') (fun q hq => ⟨fun _ => (lives06 w5).use ?_, fun h => by cases h⟩) ?_
        · rintro _ w6 ⟨rfl, hx6⟩
          exact ⟨_, rfl, hq _ _ ⟨rfl, hx5.trans hx6⟩⟩
        · rintro c w6 ⟨rfl, hx6⟩
          exact ⟨rfl, hx6⟩

end Go.Proofs.Ytejnlmabomampaa
