/- Layer 22: the statement on walks. -/
import Derived.Test.YtejnlmabomampaaConnB
namespace Go.Proofs.Ytejnlmabomampaa
open Go Gx

theorem law_ConnWalks (l who : Sl) (w : World) (hl : IntsAt .u8 w l) (hw : BoolsAt w who) : Ret Try.prog F.law22_ConnWalks #[.slice l.a l.len l.cap, .slice who.a who.len who.cap] w (fun v w' => v = .bool true ∧ Ext w w') := by
  refine W.law22_ConnWalks_ok l who w _ ?_
  unfold W.law22_ConnWalks
  have hmax : l.cap ≤ 9223372036854775807 := hl.cap
  have hle := hl.le
  have hle2 := hw.le
  refine ⟨fun a b i w' => a = b ∧ 0 ≤ i ∧ Ext w w', fun a b i w' => (l.len - i).toNat, ⟨rfl, by omega, .refl _ _⟩, ?_⟩
  rintro s s2 i w1 ⟨rfl, hi, hx⟩
  refine ⟨fun h => ?_, fun h => (lives22 w1).use ?_⟩
  case refine_2 =>
    rintro _ w2 ⟨rfl, hx2⟩
    exact ⟨_, rfl, rfl, hx.trans hx2⟩
  have hi2 : i < l.len ∧ i < 60 := by simpa using h
  obtain ⟨n, rfl⟩ := Int.eq_ofNat_of_zero_le hi
  have hnl : n < l.len := by omega
  cases hla : l.a with
  | none => have := hl.nil hla; omega
  | some A =>
    obtain ⟨f, hf, hf0, hf1⟩ := hl.cell A hla n (by omega)
    obtain ⟨hf0, hf1⟩ := u8_range hf0 hf1
    have hf' : ∀ {w2 : World}, Ext w w2 → w2.cell? (A.add (Int.toNat (n : Int) * 1)) = some (.int .u8 f) := fun hx => by
      rw [Nat.mul_one, Int.toNat_natCast]; exact hx.cell (by simp) hf
    obtain ⟨⟨e1, e2, e4, e16⟩, e4', e16'⟩ := bits f hf0 hf1
    refine Jn1 (fun _ w2 => Ext w w2) (fun k hk => ⟨fun h => ?_, fun _ => hk _ _ hx⟩) (fun c w2 hx2 => ?_)
    · have hn2 : n < who.len := by simpa using h
      cases hwa : who.a with
      | none => have := hw.nil hwa; omega
      | some B =>
        obtain ⟨b, hb⟩ := hw.cell B hwa n (by omega)
        exact ⟨B, rfl, by omega, b, by rw [Nat.mul_one, Int.toNat_natCast]; exact hx.cell (by simp) hb, hk _ _ hx⟩
    · unfold Nx
      refine ⟨fun _ => False, A, rfl, by omega, by simp, f, hf' hx2.drew, A, rfl, by omega, by simp, f, hf' hx2.drew, (conn_Next s f c _).use ?_⟩
      rintro _ w3 ⟨rfl, hx3⟩
      refine ⟨_, rfl, hx3, (ref_Next s f c w3 hf0 hf1).use ?_⟩
      rintro _ w4 ⟨rfl, hx4⟩
      have hxx := (hx2.drew.trans hx3).trans hx4
      have rd := hf' hxx
      refine ⟨_, rfl, ?_⟩
      refine Jn1 (fun b w5 => b = (c && hasB f 2) ∧ w4 = w5) (fun k hk => ⟨fun h => ⟨A, rfl, by omega, f, rd, by decide, by decide, hk _ _ ⟨by rw [e2, h]; rfl, rfl⟩⟩, fun h => hk _ _ ⟨by rw [h]; rfl, rfl⟩⟩) ?_
      rintro b1 _ ⟨hb1, rfl⟩
      refine Jn1 (fun b w5 => b = (b1 && !(hasB f 4)) ∧ w4 = w5) (fun k hk => ⟨fun h => ⟨A, rfl, by omega, f, rd, by decide, by decide, hk _ _ ⟨by rw [e4', h]; rfl, rfl⟩⟩, fun h => hk _ _ ⟨by rw [h]; rfl, rfl⟩⟩) ?_
      rintro b2 _ ⟨hb2, rfl⟩
      refine Jn1 (fun b w5 => b = (b2 && !(hasB f 16)) ∧ w4 = w5) (fun k hk => ⟨fun h => ⟨A, rfl, by omega, f, rd, by decide, by decide, hk _ _ ⟨by rw [e16', h]; rfl, rfl⟩⟩, fun h => hk _ _ ⟨by rw [h]; rfl, rfl⟩⟩) ?_
      rintro b3 _ ⟨hb3, rfl⟩
      have hr := nextN_range s f c
      have hcl := nextN_closed f c
      rw [wrapi (by omega) (by omega)]
      refine ⟨fun h => ?_, fun _ => ⟨⟨rfl, by omega, hxx⟩, (show ((l.len : Int) - ((n : Int) + 1)).toNat < ((l.len : Int) - (n : Int)).toNat by omega)⟩⟩
      exfalso
      have e1 : (nextN s f c != nextN s f c) = false := by simp
      have e2 : decide (nextN s f c < 0) = false := by simp; omega
      have e3 : decide (nextN s f c > 5) = false := by simp; omega
      rw [e1, e2, e3] at h
      simp only [Bool.false_or, Bool.and_eq_true, beq_iff_eq, bne_iff_ne, ne_eq, Bool.not_eq_true'] at h
      obtain ⟨⟨hs, hn⟩, hb⟩ := h
      subst hs
      have := hcl hn
      revert this hb
      rw [hb3, hb2, hb1]
      unfold beginsB
      cases c <;> cases hasB f 2 <;> cases hasB f 4 <;> cases hasB f 16 <;> simp

end Go.Proofs.Ytejnlmabomampaa
