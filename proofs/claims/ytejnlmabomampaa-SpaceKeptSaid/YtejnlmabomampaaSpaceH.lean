/- Layer 6: whether both tell alike, and the statement on loads. -/
import Derived.Test.YtejnlmabomampaaSpaceG
namespace Go.Proofs.Ytejnlmabomampaa
open Go Gx

theorem run_str {w : World} {s : Sl} {m : Nat} {f : Nat → Bool} (h : Src 1 w s (bytesV f m)) :
    Sem.run Try.prog (convert Ty.Sl_uint8 Ty.string (.slice s.a s.len s.cap)) w = .ok (.string (bstr ((List.range m).map fun i => (byteOf f i : Int)))) w := by
  refine run_conv_bytes (e := Ty.uint8) (by kernel_rfl) (by kernel_rfl) (by kernel_rfl) ?_
  rw [List.map_map]
  exact h

section
variable {w : World} {b c n : Nat} {f g : Nat → Bool} {s1 s2 t1 t2 : Sl}

theorem alike (hs : SpaceAt w b n f g s1 s2) (hr : RefAt w c n f g t1 t2) (no : Int) :
    Ret Try.prog F.law06_alike #[.pointer (some ⟨b, 0, none⟩), .pointer (some ⟨c, 0, none⟩), .int .i64 no] w (fun v w' => v = .bool true ∧ Ext w w') := by
  have hn := hs.n2
  refine W.law06_alike_ok _ _ no w _ ?_
  unfold W.law06_alike Nx
  refine Jn1 (fun d w' => d = decide (0 ≤ no ∧ no < n) ∧ w = w') (fun q hq => ⟨fun h => ⟨_, rfl, t1, hr.c0, hq _ _ ⟨?_, rfl⟩⟩, fun h => hq _ _ ⟨?_, rfl⟩⟩) ?_
  · have h : no ≥ 0 := by simpa using h
    have h' : 0 ≤ no := h
    rw [hr.len1]
    simp [h']
  · have h : ¬ no ≥ 0 := by simpa using h
    have h' : ¬ 0 ≤ no := h
    simp [h']
  rintro d _ ⟨rfl, rfl⟩
  have x1 : Ext w w.drew := Chg.drew (.refl _ _)
  refine ⟨fun _ => False, (space_Room (hs.ext x1)).use ?_⟩
  rintro _ w2 ⟨rfl, x2⟩
  refine ⟨_, rfl, (ref_Room (hr.ext (x1.trans x2)) (by omega)).use ?_⟩
  rintro _ _ ⟨rfl, rfl⟩
  refine ⟨_, rfl, fun _ => False, fun _ => ?_, fun h => by simp at h⟩
  have x12 := x1.trans x2
  refine (space_Used (hs.ext x12)).use ?_
  rintro _ w3 ⟨u1, rfl, o1, x3, _⟩
  have x13 := x12.trans x3
  refine ⟨u1, rfl, (ref_Used (hr.ext x13) (by omega)).use ?_⟩
  rintro _ w4 ⟨u2, rfl, o2, x4, _⟩
  have x14 := x13.trans x4
  refine ⟨u2, rfl, (ints_same (o1.ext x4).src o2.src (by have := usedI_len f n; omega)).use ?_⟩
  rintro _ w5 ⟨rfl, x5⟩
  have x15 := x14.trans x5
  refine ⟨true, rfl, fun _ => False, fun _ => ?_, fun h => by cases h⟩
  refine (space_Bytes (hs.ext x15)).use ?_
  rintro _ w6 ⟨v1, rfl, p1, x6, _⟩
  have x16 := x15.trans x6
  refine ⟨v1, rfl, fun _ => False, _, fun w' hx => run_str (p1.ext hx).src, (ref_Bytes (hr.ext x16) (by omega) hs.pf).use ?_⟩
  rintro _ w7 ⟨v2, rfl, p2, x7, _⟩
  have x17 := x16.trans x7
  refine ⟨v2, rfl, x7, _, fun w' hx => run_str (p2.ext hx).src, fun _ => ?_, fun h => by simp at h⟩
  refine (space_Taken (hs.ext x17) no).use ?_
  rintro _ _ ⟨rfl, rfl⟩
  refine ⟨_, rfl, .refl _ _, fun hd => ?_, fun hd => ?_⟩
  · have hd : 0 ≤ no ∧ no < n := by simpa using hd
    obtain ⟨m, rfl⟩ := Int.eq_ofNat_of_zero_le hd.1
    have hm : m < n := by omega
    have hr7 := hr.ext x17
    obtain ⟨A, hA, hb, hc, _, _, _⟩ := hr7.now.at (boolsV_get f hm)
    obtain ⟨B, hB, hbB, hcB, _, _, _⟩ := hr7.sure.at (boolsV_get g hm)
    refine ⟨_, rfl, by simp, t1, hr7.c0, A, hA, hb, by simp, f m, hc, fun _ => ?_, fun h => ?_⟩
    · refine (space_Fresh (hs.ext x17) m).use ?_
      rintro _ _ ⟨rfl, rfl⟩
      refine ⟨_, rfl, .refl _ _, fun _ => ⟨_, rfl, by simp, t1, hr7.c0, A, hA, hb, by simp, f m, hc, fun hf => ⟨_, rfl, by simp, t2, hr7.c1, B, hB, hbB, g m, hcB, ?_, x17⟩, fun hf => ⟨?_, x17⟩⟩, fun h => ?_⟩
      · simp [hm, hf]
      · simp [hf]
      · simp [hm] at h
    · simp [hm] at h
  · have hd : ¬ (0 ≤ no ∧ no < n) := by simp at hd; omega
    have e : (decide (0 ≤ no) && decide (no < (n : Int))) = false := by
      by_cases h0 : 0 ≤ no
      · have : ¬ no < n := fun h => hd ⟨h0, h⟩
        simp [this]
      · simp [h0]
    refine ⟨fun _ => ?_, fun h => ?_⟩
    · refine (space_Fresh (hs.ext x17) no).use ?_
      rintro _ _ ⟨rfl, rfl⟩
      refine ⟨_, rfl, .refl _ _, fun h => ?_, fun _ => ⟨?_, x17⟩⟩
      · have : 0 ≤ no ∧ no < n := by simpa using h
        exact (hd this).elim
      · rw [e]; simp
    · rw [e] at h; simp at h

end

theorem Few_bytes (w : World) (s : Sl) (h : IntsAt .u8 w s) (most : Nat) (hm : most ≤ 100000) :
    Ret Try.prog F.law01_Few #[.slice s.a s.len s.cap, .int .i64 most] w (fun v w' => ∃ (s' : Sl) (ns : List Int), v = .slice s'.a s'.len s'.cap ∧ OwnS 1 Ty.uint8 w' s' (ns.map (.int .u8)) ∧ ns.length ≤ most ∧ (∀ x ∈ ns, (0 : Int) ≤ x ∧ x ≤ 255) ∧ Ext w w' ∧ ∀ k, ownB s' k → w.heap.size ≤ k) := by
  refine W.law01_Few_ok s most w _ ?_
  unfold W.law01_Few Nx
  refine Jn1 (fun s' w' => w = w' ∧ IntsAt .u8 w s' ∧ s'.len ≤ most) (fun q hq => ⟨fun hlt => ?_, fun hge => hq _ _ ⟨rfl, h, ?_⟩⟩) ?_
  · have hlt : (s.len : Int) > most := by simpa using hlt
    have hle := h.le
    refine ⟨by omega, hq _ _ ⟨rfl, ?_, ?_⟩⟩
    · exact h.cut (m := Int.toNat (most : Int)) (by omega)
    · simp
  · have hge : ¬ (s.len : Int) > most := by simpa using hge
    omega
  · rintro s' _ ⟨rfl, h', hl⟩
    obtain ⟨ns, h1, h2, h3⟩ := h'.src
    obtain ⟨t, w2, r1, r2, r3, r4, r5, _⟩ := appByte.clone (oT := Ty.Sl_uint8) h3 (plain_ints _ _) (by omega)
    exact ⟨t, w2, r1, t, ns, rfl, r2, by omega, fun x hx => u8_range (h2 x hx).1 (h2 x hx).2, r4, r5⟩

theorem law_SpaceLoads (s : Sl) (n : Int) (w : World) (h : IntsAt .u8 w s) :
    Ret Try.prog F.law06_SpaceLoads #[.slice s.a s.len s.cap, .int .i64 n] w (fun v w' => v = .bool true ∧ Ext w w') := by
  refine W.law06_SpaceLoads_ok s n w _ ?_
  unfold W.law06_SpaceLoads Nx
  refine (Few_bytes w s h 210 (by omega)).use ?_
  rintro _ w1 ⟨s3, ns, rfl, o3, hl, hr, x1, _⟩
  have hl3 : s3.len = ns.length := by have := o3.1; simp at this; omega
  obtain ⟨s5, w6, r1, r2, r3, r4, r5, _⟩ := appByte.clone (oT := Ty.Sl_uint8) o3.src (plain_ints _ _) (by omega)
  have x6 := x1.trans r4
  have live : ∀ {w2 : World} {c : Bool} {q : Bool → World → Prop}, c = true → Ext w w2 → (∀ w3, Ext w w3 → q true w3) → (c = true → Calls Try.prog F.law06_lives #[] w2 fun e w3 => ∃ b : Bool, e = .returned (.bool b) ∧ q b w3) ∧ (c = false → q false w2) := by
    rintro w2 c q rfl hx hq
    refine ⟨fun _ => (lives06 w2).use ?_, fun h => by cases h⟩
    rintro _ w3 ⟨rfl, hx3⟩
    exact ⟨true, rfl, hq _ (hx.trans hx3)⟩
  refine ⟨s3, rfl, s5, w6, r1, (space_Load r2.src hr (by omega) n).use ?_⟩
  rintro _ w7 ⟨x7', h7⟩
  have x7 := x6.trans x7'
  rcases h7 with ⟨hn, rfl⟩ | ⟨hn1, hn2, hg, rfl⟩ | ⟨hn1, hn2, hg, b, s1, s2, rfl, hsp, hfr⟩
  · refine ⟨_, _, rfl, fun _ => Jn1 (fun c w' => c = true ∧ Ext w w') (fun q hq => live (by rfl) x7 (fun w3 hx => hq _ _ ⟨rfl, hx⟩)) ?_, fun h => ?_⟩
    · rintro c w' ⟨rfl, hx⟩; exact ⟨rfl, hx⟩
    · simp at h; omega
  all_goals
    obtain ⟨n, rfl⟩ := Int.eq_ofNat_of_zero_le (by omega : 0 ≤ n)
    simp only [Int.toNat_natCast] at hg
    refine ⟨_, _, rfl, fun h => ?_, fun _ => (ref_Load ((o3.ext r4).ext x7').src hr n (by omega)).use ?_⟩
    · simp at h; omega
    rintro _ w8 ⟨x8', h8⟩
    have x8 := x7.trans x8'
    rcases h8 with ⟨hng, rfl⟩ | ⟨hg', c, t1, t2, rfl, hrf, _⟩
  · refine ⟨_, rfl, fun _ => Jn1 (fun c w' => c = true ∧ Ext w w') (fun q hq => live (by rfl) x8 (fun w3 hx => hq _ _ ⟨rfl, hx⟩)) ?_, fun h => by simp at h⟩
    rintro c w' ⟨rfl, hx⟩; exact ⟨rfl, hx⟩
  · exact (hg hg').elim
  · exact (hng hg).elim
  · refine ⟨_, rfl, fun h => by simp at h, fun _ => ⟨fun _ => False, fun _ => ⟨fun _ => ?_, fun h => by simp at h⟩, fun h => by simp at h⟩⟩
    simp only [Int.toNat_natCast] at hsp
    refine (alike ((hsp.ext x8').ext (Chg.drew (.refl _ _))) (hrf.ext (Chg.drew (.refl _ _))) 0).use ?_
    rintro _ w9 ⟨rfl, x9'⟩
    have x9 : Ext w8 w9 := Chg.trans (Chg.drew (.refl _ w8)) x9'
    have o9 := (((o3.ext r4).ext x7').ext x8').ext x9
    refine ⟨true, rfl, fun _ => False, fun _ => ⟨_, fun w' hx => run_conv_bytes (e := Ty.uint8) (by kernel_rfl) (by kernel_rfl) (by kernel_rfl) (o9.ext hx).src, (space_Bytes ((hsp.ext x8').ext x9)).use ?_⟩, fun h => by cases h⟩
    rintro _ w10 ⟨v, rfl, hv, x10, _⟩
    refine ⟨v, rfl, x10, _, fun w' hx => run_str (hv.ext hx).src, Jn1 (fun c w' => c = true ∧ Ext w w') (fun q hq => live ?_ ((x8.trans x9).trans x10) (fun w3 hx => hq _ _ ⟨rfl, hx⟩)) ?_⟩
    · have e := bytes_bits ns hr
      rw [hg.1] at e
      have inj : ∀ {a b : List Int}, a.map (Value.int .u8) = b.map (Value.int .u8) → a = b := by
        intro a
        induction a with
        | nil => intro b h; cases b <;> simp at h ⊢
        | cons x a ih =>
          intro b h
          cases b with
          | nil => simp at h
          | cons y b =>
            simp only [List.map_cons, List.cons.injEq, Value.int.injEq, true_and] at h
            rw [h.1, ih h.2]
      have e2 : (List.range ((n + 7) / 8)).map (fun i => (byteOf (bitsOf ns) i : Int)) = ns := inj (by
        rw [List.map_map]
        exact e.symm)
      rw [e2]
      simp
    · rintro c w' ⟨rfl, hx⟩; exact ⟨rfl, hx⟩

end Go.Proofs.Ytejnlmabomampaa
