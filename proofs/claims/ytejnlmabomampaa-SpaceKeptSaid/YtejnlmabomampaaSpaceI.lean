/- Layer 6: the statement on any calls. -/
import Derived.Test.YtejnlmabomampaaSpaceH
namespace Go.Proofs.Ytejnlmabomampaa
open Go Gx

/-- What is done, as cells. -/
structure ActsAt (w : World) (l : Sl) : Prop where
  le : l.len ≤ l.cap
  cap : l.cap ≤ maxLen
  nil : l.a = none → l.cap = 0
  cell : ∀ a, l.a = some a → ∀ i, i < l.cap → ∃ k n : Int, w.cell? (a.add (i * 2)) = some (.int .i64 k) ∧ w.cell? ((a.add (i * 2)).add 1) = some (.int .i64 n)

theorem ActsAt.of {w : World} {l : Sl} (h : SliceAt Try.prog w Ty.law06_Act l) (hu : Try.prog.underlying Ty.law06_Act = some (.struct #[
        { name := "Kind", type := Ty.int, offset := 0, embedded := false, tag := "", pkgPath := "", byteOffset := 0 },
        { name := "No", type := Ty.int, offset := 1, embedded := false, tag := "", pkgPath := "", byteOffset := 8 }])) (hi : Try.prog.underlying Ty.int = some (.int .i64)) (hc : Try.prog.cellsOf Ty.law06_Act = 2) (hc1 : Try.prog.cellsOf Ty.int = 1) : ActsAt w l := by
  refine ⟨h.le, h.cap, h.nil, fun a ha i hlt => ?_⟩
  obtain ⟨vs, hr, fuel, hok⟩ := h.cell a ha i hlt
  rw [hc] at hr
  obtain ⟨hl, hf⟩ := okT_struct hok hu
  obtain ⟨f1, h1⟩ := hf _ (Array.mem_iff_getElem.2 ⟨0, by decide, rfl⟩)
  obtain ⟨f2, h2⟩ := hf _ (Array.mem_iff_getElem.2 ⟨1, by decide, rfl⟩)
  rw [hc] at hl
  obtain ⟨x, y, rfl⟩ : ∃ x y, vs = [x, y] := by
    match vs, hl with
    | [x, y], _ => exact ⟨x, y, rfl⟩
  obtain ⟨k, hk, _⟩ := okT_int h1 hi
  obtain ⟨n, hn, _⟩ := okT_int h2 hi
  simp [hc1] at hk hn
  subst hk hn
  refine ⟨k, n, ?_, ?_⟩
  · have := rdCells_get hr (j := 0) rfl
    simpa [add_zero'] using this
  · exact rdCells_get hr (j := 1) rfl

theorem ActsAt.ext {w w' : World} {l : Sl} (h : ActsAt w l) (hx : Ext w w') : ActsAt w' l :=
  ⟨h.le, h.cap, h.nil, fun a ha i hi => by
    obtain ⟨k, n, h1, h2⟩ := h.cell a ha i hi
    exact ⟨k, n, hx.cell (by simp) h1, hx.cell (by simp) h2⟩⟩

theorem cell_lt {w : World} {A : Addr} {v : Value} (h : w.cell? A = some v) : A.block < w.heap.size := by
  rcases Nat.lt_or_ge A.block w.heap.size with h1 | h1
  · exact h1
  · simp [World.cell?, Array.getElem?_eq_none h1] at h

/-- Both, the program's space and the document's, apart and new. -/
structure Both (w0 w : World) (b c n : Nat) (f g : Nat → Bool) (s1 s2 t1 t2 : Sl) : Prop where
  s : SpaceAt w b n f g s1 s2
  r : RefAt w c n f g t1 t2
  d : ∀ k, fpS b s1 s2 k → ¬ fpS c t1 t2 k
  fs : ∀ k, fpS b s1 s2 k → w0.heap.size ≤ k
  fr : ∀ k, fpS c t1 t2 k → w0.heap.size ≤ k
  x : Ext w0 w

theorem Both.stepS {w0 w w' : World} {b c n : Nat} {f g f' g' : Nat → Bool} {s1 s2 t1 t2 s1' s2' : Sl} (h : Both w0 w b c n f g s1 s2 t1 t2) (_hs : SpaceAt w' b n f' g' s1' s2') (hc : Chg (fpS b s1 s2) w w')
    (hf : ∀ k, fpS b s1' s2' k → fpS b s1 s2 k ∨ w.heap.size ≤ k) :
    RefAt w' c n f g t1 t2 ∧ Ext w0 w' ∧ (∀ k, fpS b s1' s2' k → ¬ fpS c t1 t2 k) ∧ (∀ k, fpS b s1' s2' k → w0.heap.size ≤ k) := by
  refine ⟨h.r.chg hc fun k hk hk2 => h.d k hk2 hk, ((Chg.of_ext h.x).trans hc).mono fun k hk ho => by have := h.fs k ho; omega, fun k hk hk2 => ?_, fun k hk => ?_⟩
  · rcases hf k hk with h1 | h1
    · exact h.d k h1 hk2
    · have := h.r.lt k hk2; omega
  · rcases hf k hk with h1 | h1
    · exact h.fs k h1
    · have := h.x.size; omega

theorem both_step {w0 w w1 w2 : World} {b c n : Nat} {f g f' g' : Nat → Bool} {s1 s2 t1 t2 s1' s2' t1' t2' : Sl} (h : Both w0 w b c n f g s1 s2 t1 t2) (hs : SpaceAt w1 b n f' g' s1' s2') (hc : Chg (fpS b s1 s2) w w1)
    (hf : ∀ k, fpS b s1' s2' k → fpS b s1 s2 k ∨ w.heap.size ≤ k) (hr : RefAt w2 c n f' g' t1' t2') (hc2 : Chg (fpS c t1 t2) w1 w2) (hf2 : ∀ k, fpS c t1' t2' k → fpS c t1 t2 k ∨ w1.heap.size ≤ k) :
    Both w0 w2 b c n f' g' s1' s2' t1' t2' := by
  obtain ⟨h1, h2, h3, h4⟩ := h.stepS hs hc hf
  refine ⟨hs.chg hc2 h3, hr, fun k hk hk2 => ?_, h4, fun k hk => ?_, ((Chg.of_ext h2).trans hc2).mono fun k hk ho => by have := h.fr k ho; omega⟩
  · rcases hf2 k hk2 with h5 | h5
    · exact h3 k hk h5
    · have := hs.lt k hk; omega
  · rcases hf2 k hk with h5 | h5
    · exact h.fr k h5
    · have := h2.size; omega

theorem law_SpacePlays (n first : Int) (l : Sl) (w : World) (hl : ActsAt w l) :
    Ret Try.prog F.law06_SpacePlays #[.int .i64 n, .int .i64 first, .slice l.a l.len l.cap] w (fun v w' => v = .bool true ∧ Ext w w') := by
  have hcap : l.cap ≤ 9223372036854775807 := hl.cap
  have hle := hl.le
  refine W.law06_SpacePlays_ok n first l w _ ?_
  unfold W.law06_SpacePlays Nx
  refine Jn1 (fun n' w' => n' ≤ 80 ∧ w = w') (fun q hq => ⟨fun _ => hq _ _ ⟨by omega, rfl⟩, fun h => hq _ _ ⟨by simpa using h, rfl⟩⟩) ?_
  rintro n' _ ⟨hn80, rfl⟩
  refine (space_New w n' first).use ?_
  rintro _ w1 (⟨hbad, rfl, rfl⟩ | ⟨hn1, hn2, hf1, hf2, b, s1, s2, rfl, hsp, hx1, hfs⟩)
  · refine ⟨_, _, rfl, fun _ => Jn1 (fun c w' => c = true ∧ Ext w w') (fun q hq => ⟨fun _ => (lives06 w).use ?_, fun h => by simp at h⟩) ?_, fun h => ?_⟩
    · rintro _ w3 ⟨rfl, hx3⟩
      exact ⟨true, rfl, hq _ _ ⟨rfl, hx3⟩⟩
    · rintro c w' ⟨rfl, hx⟩; exact ⟨rfl, hx⟩
    · simp at h; omega
  obtain ⟨n, rfl⟩ := Int.eq_ofNat_of_zero_le (by omega : 0 ≤ n')
  obtain ⟨first, rfl⟩ := Int.eq_ofNat_of_zero_le hf1
  simp only [Int.toNat_natCast] at hsp
  refine ⟨_, _, rfl, fun h => by simp at h; omega, fun _ => ⟨fun h => by simp at h, fun _ => (ref_New w1 n first (by omega)).use ?_⟩⟩
  rintro _ w2 ⟨c, t1, t2, rfl, hrf, hx2, hfr⟩
  have hB : Both w w2 b c n (fun i => decide (i < first)) (fun i => decide (i < first)) s1 s2 t1 t2 := by
    refine ⟨hsp.ext hx2, ?_, fun k hk hk2 => ?_, hfs, fun k hk => ?_, hx1.trans hx2⟩
    · have e : (fun i : Nat => decide ((i : Int) < (first : Int))) = fun i => decide (i < first) := by
        funext i
        congr 1
        exact propext ⟨fun h => by omega, fun h => by omega⟩
      rw [e, Int.toNat_natCast] at hrf
      exact hrf
    · have := hsp.lt k hk; have := hfr k hk2; omega
    · have := hfr k hk; have := hx1.size; omega
  refine ⟨_, rfl, fun i w' => ∃ j : Nat, i = j ∧ ∃ f g s1 s2 t1 t2, Both w w' b c n f g s1 s2 t1 t2, fun i _ => ((l.len : Int) - i).toNat, ⟨0, rfl, _, _, _, _, _, _, hB⟩, ?_⟩
  rintro _ w3 ⟨j, rfl, f, g, s1, s2, t1, t2, h3⟩
  refine ⟨fun hlt => ?_, fun _ => (lives06 w3).use ?_⟩
  case refine_2 =>
    rintro _ w4 ⟨rfl, hx4⟩
    exact ⟨true, rfl, rfl, h3.x.trans hx4⟩
  have hjl : j < l.len := by
    have : (j : Int) < l.len ∧ (j : Int) < 60 := by simpa using hlt
    omega
  cases hla : l.a with
  | none => have := hl.nil hla; omega
  | some A =>
    obtain ⟨kind, no, hk, hno⟩ := hl.cell A hla j (by omega)
    have hbnd : (0 : Int) ≤ (j : Int) ∧ (j : Int) < ((l.len : Nat) : Int) := by omega
    have hko : ∀ {w' : World}, Ext w w' → w'.cell? (A.add (Int.toNat (j : Int) * 2)) = some (.int .i64 kind) := fun hx => by rw [Int.toNat_natCast]; exact hx.cell (by simp) hk
    have hnoo : ∀ {w' : World}, Ext w w' → w'.cell? ((A.add (Int.toNat (j : Int) * 2)).add 1) = some (.int .i64 no) := fun hx => by rw [Int.toNat_natCast]; exact hx.cell (by simp) hno
    refine Jn0 (fun w' => ∃ f g s1 s2 t1 t2, Both w w' b c n f g s1 s2 t1 t2) (fun q hq => ⟨A, rfl, hbnd, kind, hko h3.x, fun _ => ?_, fun _ => ⟨fun _ => ?_, fun _ => ⟨fun _ => ?_, fun _ => ?_⟩⟩⟩) ?_
    · have hd : Both w w3.drew b c n f g s1 s2 t1 t2 := ⟨h3.s.ext (Chg.drew (.refl _ _)), h3.r.ext (Chg.drew (.refl _ _)), h3.d, h3.fs, h3.fr, h3.x.drew⟩
      have hnb : ¬ fpS b s1 s2 ((A.add (Int.toNat (j : Int) * 2)).add 1).block := fun h => by
        have := h3.fs _ h
        have := cell_lt (hnoo (.refl _ w))
        omega
      refine ⟨fpS b s1 s2, A, rfl, hbnd, hnb, no, hnoo hd.x, A, rfl, hbnd, hnb, no, hnoo hd.x, (space_Free hd.s no).use ?_⟩
      rintro _ w4 ⟨rfl, hs4, hc4⟩
      obtain ⟨hr4, _⟩ := hd.stepS hs4 hc4 (fun k hk => .inl hk)
      refine ⟨_, rfl, hc4, (ref_Free hr4 no).use ?_⟩
      rintro _ w5 ⟨rfl, hr5, hc5⟩
      exact ⟨_, rfl, fun h => by simp at h, fun _ => hq _ ⟨_, _, _, _, _, _, both_step hd hs4 hc4 (fun k hk => .inl hk) hr5 hc5 (fun k hk => .inl hk)⟩⟩
    · refine (space_Commit h3.s).use ?_
      rintro _ w4 ⟨rfl, s2', hs4, hc4, hf4⟩
      obtain ⟨hr4, _⟩ := h3.stepS hs4 hc4 hf4
      refine ⟨rfl, (ref_Commit hr4 (by omega)).use ?_⟩
      rintro _ w5 ⟨rfl, t2', hr5, hc5, hf5⟩
      exact ⟨rfl, hq _ ⟨_, _, _, _, _, _, both_step h3 hs4 hc4 hf4 hr5 hc5 hf5⟩⟩
    · refine (space_Abort h3.s).use ?_
      rintro _ w4 ⟨rfl, s1', hs4, hc4, hf4⟩
      obtain ⟨hr4, _⟩ := h3.stepS hs4 hc4 hf4
      refine ⟨rfl, (ref_Abort hr4 (by omega)).use ?_⟩
      rintro _ w5 ⟨rfl, t1', hr5, hc5, hf5⟩
      exact ⟨rfl, hq _ ⟨_, _, _, _, _, _, both_step h3 hs4 hc4 hf4 hr5 hc5 hf5⟩⟩
    · refine (space_Alloc h3.s).use ?_
      rintro _ w4 ⟨rfl, hs4, hc4⟩
      obtain ⟨hr4, _⟩ := h3.stepS hs4 hc4 (fun k hk => .inl hk)
      have hv : ∀ o : Option Nat, ∃ x y : Int, allocV o = .tuple #[.int .i64 x, .int .i64 y] := fun o => by cases o <;> exact ⟨_, _, rfl⟩
      obtain ⟨x, y, hxy⟩ := hv (firstFree (fun i => f i || g i) n)
      refine ⟨x, y, by rw [hxy], (ref_Alloc hr4 (by omega)).use ?_⟩
      rintro _ w5 ⟨rfl, hr5, hc5⟩
      refine ⟨x, y, by rw [hxy], fun h => by simp at h, fun _ => hq _ ⟨_, _, _, _, _, _, both_step h3 hs4 hc4 (fun k hk => .inl hk) hr5 hc5 (fun k hk => .inl hk)⟩⟩
    · rintro w4 ⟨f, g, s1, s2, t1, t2, h4⟩
      refine ⟨A, rfl, hbnd, no, hnoo h4.x, (alike h4.s h4.r no).use ?_⟩
      rintro _ w5 ⟨rfl, hx5⟩
      refine ⟨true, rfl, (fun h => by cases h), fun _ => ?_⟩
      rw [wrapi (by omega) (by omega)]
      exact ⟨⟨j + 1, by omega, f, g, s1, s2, t1, t2, h4.s.ext hx5, h4.r.ext hx5, h4.d, h4.fs, h4.fr, h4.x.trans hx5⟩, (show ((l.len : Int) - ((j : Int) + 1)).toNat < ((l.len : Int) - (j : Int)).toNat by omega)⟩

end Go.Proofs.Ytejnlmabomampaa
