/- Layer 6: the statement on pages that are kept. -/
import Derived.Test.YtejnlmabomampaaSpaceI
namespace Go.Proofs.Ytejnlmabomampaa
open Go Gx

theorem spl_all {c : Array Value} {vs : List Value} (h : c.size = vs.length) : spl c 0 vs = vs.toArray := by
  apply Array.ext'
  have h1 := take_spl vs c 0 (by omega)
  have h2 : (spl c 0 vs).toList.length = vs.length := by
    rw [Array.length_toList, spl_size]; exact h
  rw [Nat.zero_add, List.take_of_length_le (by omega)] at h1
  simpa using h1

/-- A local array of truths. -/
def ArrB (w : World) (b : Nat) (f : Nat → Bool) : Prop := Blk w b (boolsV f 60).toArray Ty.n60_bool

section
variable {w w' : World} {b c : Nat} {f g : Nat → Bool}

theorem ArrB.get (h : ArrB w b f) {k : Nat} (hk : k < 60) : w.cell? (Addr.add ⟨b, 0, none⟩ (Int.toNat (k : Int) * 1)) = some (.bool (f k)) := by
  rw [Nat.mul_one, Int.toNat_natCast, add_mk, Blk.cell h]
  simp [boolsV_get f hk]
theorem ArrB.put (h : ArrB w b f) (k : Nat) (x : Bool) : ArrB (w.setCell (Addr.add ⟨b, 0, none⟩ (Int.toNat (k : Int) * 1)) (.bool x)) b (upd f k x) ∧
    w.frozen? (Addr.add ⟨b, 0, none⟩ (Int.toNat (k : Int) * 1)) = false ∧ Chg (fun j => j = b) w (w.setCell (Addr.add ⟨b, 0, none⟩ (Int.toNat (k : Int) * 1)) (.bool x)) := by
  rw [Nat.mul_one, Int.toNat_natCast, add_mk]
  refine ⟨?_, Blk.frozen h _ rfl, Chg.set (W := fun j => j = b) (.refl _ _) (fun _ => rfl) _⟩
  have := Blk.set h (0 + k) (.bool x)
  unfold ArrB
  rw [← boolsV_set]
  simpa using this
theorem ArrB.copy (h : ArrB w b f) (h' : ArrB w c g) : rdCells w ⟨b, 0, none⟩ 0 60 = some (boolsV f 60) ∧ StoreOk w ⟨c, 0, none⟩ (boolsV f 60) ∧ (boolsV f 60).toArray.size = 60 ∧
    ArrB (setCells w ⟨c, 0, none⟩ 0 (boolsV f 60)) c f ∧ Chg (fun j => j = c) w (setCells w ⟨c, 0, none⟩ 0 (boolsV f 60)) := by
  refine ⟨?_, ?_, by simp [boolsV], ?_, Chg.setCells (W := fun j => j = c) (fun _ => rfl) _ _ (.refl _ _)⟩
  · rw [rdCells_blk h 60 0 0 (by simp [boolsV])]
    simp only [Nat.zero_add, List.drop_zero, Option.some.injEq]
    rw [List.take_of_length_le (by simp [boolsV])]
  · exact Blk.storeOk h' 0 _ (by simp [boolsV]) (boolsV_plain f 60)
  · have := Blk.sets (boolsV f 60) 0 0 h'
    rw [Nat.zero_add, spl_all (by simp [boolsV])] at this
    exact this
end

/-- The space and the two local arrays. -/
structure Kept (w0 w : World) (b sb nb : Nat) (f g : Nat → Bool) (s1 s2 : Sl) : Prop where
  s : SpaceAt w b 60 f g s1 s2
  a : ArrB w nb f
  z : ArrB w sb g
  ns : ¬ fpS b s1 s2 sb
  nn : ¬ fpS b s1 s2 nb
  ne : nb ≠ sb
  fs : ∀ k, fpS b s1 s2 k → w0.heap.size ≤ k
  fa : w0.heap.size ≤ nb
  fz : w0.heap.size ≤ sb
  x : Ext w0 w

theorem Kept.step {w0 w w' : World} {b sb nb : Nat} {f g : Nat → Bool} {s1 s2 s1' s2' : Sl} (h : Kept w0 w b sb nb f g s1 s2) (hc : Chg (fpS b s1 s2) w w') (hf : ∀ k, fpS b s1' s2' k → fpS b s1 s2 k ∨ w.heap.size ≤ k) :
    ArrB w' nb f ∧ ArrB w' sb g ∧ ¬ fpS b s1' s2' sb ∧ ¬ fpS b s1' s2' nb ∧ (∀ k, fpS b s1' s2' k → w0.heap.size ≤ k) ∧ Ext w0 w' := by
  refine ⟨Blk.chg h.a hc h.nn, Blk.chg h.z hc h.ns, fun hk => ?_, fun hk => ?_, fun k hk => ?_, ((Chg.of_ext h.x).trans hc).mono fun k hk ho => by have := h.fs k ho; omega⟩
  · rcases hf _ hk with h1 | h1
    · exact h.ns h1
    · have := Blk.lt h.z; omega
  · rcases hf _ hk with h1 | h1
    · exact h.nn h1
    · have := Blk.lt h.a; omega
  · rcases hf _ hk with h1 | h1
    · exact h.fs k h1
    · have := h.x.size; omega

theorem ArrB.init {w : World} {c : Nat} {g : Nat → Bool} (f : Nat → Bool) (h' : ArrB w c g) : StoreOk w ⟨c, 0, none⟩ (boolsV f 60) ∧ (boolsV f 60).toArray.size = 60 ∧
    ArrB (setCells w ⟨c, 0, none⟩ 0 (boolsV f 60)) c f ∧ Chg (fun j => j = c) w (setCells w ⟨c, 0, none⟩ 0 (boolsV f 60)) := by
  refine ⟨?_, by simp [boolsV], ?_, Chg.setCells (W := fun j => j = c) (fun _ => rfl) _ _ (.refl _ _)⟩
  · exact Blk.storeOk h' 0 _ (by simp [boolsV]) (boolsV_plain f 60)
  · have := Blk.sets (boolsV f 60) 0 0 h'
    rw [Nat.zero_add, spl_all (by simp [boolsV])] at this
    exact this

theorem first3 : (fun i : Nat => decide (i < (3 : Int).toNat)) = fun i => decide (i < 3) := rfl

set_option maxHeartbeats 2000000 in
theorem law_SpaceKept (l : Sl) (w : World) (hl : ActsAt w l) : Ret Try.prog F.law06_SpaceKept #[.slice l.a l.len l.cap] w (fun v w' => v = .bool true ∧ Ext w w') := by
  have hcap : l.cap ≤ 9223372036854775807 := hl.cap
  have hle := hl.le
  refine W.law06_SpaceKept_ok l w _ ?_
  unfold W.law06_SpaceKept Nx
  refine (space_New w 60 3).use ?_
  rintro _ w1 (⟨hbad, _⟩ | ⟨_, _, _, _, b, s1, s2, rfl, hsp, hx1, hfs⟩)
  · omega
  refine ⟨_, _, rfl, fun h => by simp at h, fun _ => ⟨(boolsV (fun i => decide (i < 3)) 60).toArray, by kernel_rfl, (boolsV (fun i => decide (i < 3)) 60).toArray, by kernel_rfl, ?_⟩⟩
  have z0 : ArrB (w1.alloc (.cells (boolsV (fun _ => false) 60).toArray Ty.n60_bool)) w1.heap.size (fun _ => false) := Blk.new _ _ _
  have e60 : (boolsV (fun _ => false) 60).toArray = #[.bool false, .bool false, .bool false, .bool false, .bool false, .bool false, .bool false, .bool false, .bool false, .bool false, .bool false, .bool false, .bool false, .bool false, .bool false, .bool false, .bool false, .bool false, .bool false, .bool false, .bool false, .bool false, .bool false, .bool false, .bool false, .bool false, .bool false, .bool false, .bool false, .bool false, .bool false, .bool false, .bool false, .bool false, .bool false, .bool false, .bool false, .bool false, .bool false, .bool false, .bool false, .bool false, .bool false, .bool false, .bool false, .bool false, .bool false, .bool false, .bool false, .bool false, .bool false, .bool false, .bool false, .bool false, .bool false, .bool false, .bool false, .bool false, .bool false, .bool false] := by rfl
  rw [← e60]
  dsimp only
  have hA := Chg.alloc (W := fun _ => False) (.refl _ w1) (.cells (boolsV (fun _ => false) 60).toArray Ty.n60_bool)
  have hs7 : (w1.alloc (.cells (boolsV (fun _ => false) 60).toArray Ty.n60_bool)).heap.size = w1.heap.size + 1 := by simp
  obtain ⟨w7, hw7⟩ : ∃ x, x = w1.alloc (.cells (boolsV (fun _ => false) 60).toArray Ty.n60_bool) := ⟨_, rfl⟩
  rw [← hw7] at z0 hA hs7 ⊢
  have y0 : ArrB (w7.alloc (.cells (boolsV (fun _ => false) 60).toArray Ty.n60_bool)) w7.heap.size (fun _ => false) := Blk.new _ _ _
  have hB := Chg.alloc (W := fun _ => False) (.refl _ w7) (.cells (boolsV (fun _ => false) 60).toArray Ty.n60_bool)
  have z1 := Blk.ext z0 hB
  obtain ⟨w8, hw8⟩ : ∃ x, x = w7.alloc (.cells (boolsV (fun _ => false) 60).toArray Ty.n60_bool) := ⟨_, rfl⟩
  rw [← hw8] at y0 hB z1 ⊢
  obtain ⟨p1, p2, p3, p4⟩ := ArrB.init (fun i => decide (i < 3)) z1
  refine ⟨p1, p2, ?_⟩
  have y1 := Blk.chg y0 p4 (by omega)
  obtain ⟨q1, q2, q3, q4⟩ := ArrB.init (fun i => decide (i < 3)) y1
  refine ⟨q1, q2, ?_⟩
  have z2 := Blk.chg p3 q4 (by omega)
  have hx8 : Ext w w8 := (hx1.trans hA).trans hB
  have hsz1 := hx1.size
  have hxx := ((Chg.of_ext (hA.trans hB)).trans (p4.mono fun k _ hk => (.inl hk : k = w1.heap.size ∨ k = w7.heap.size))).trans (q4.mono fun k _ hk => .inr hk)
  have hsp' := hsp.chg hxx fun k hk h => by have := hsp.lt k hk; omega
  have hK : Kept w _ b w1.heap.size w7.heap.size (fun i => decide (i < 3)) (fun i => decide (i < 3)) s1 s2 :=
    ⟨hsp', q3, z2, fun h => by have := hsp.lt _ h; omega, fun h => by have := hsp.lt _ h; omega, by omega, hfs, by omega, hsz1, ((Chg.of_ext hx1).trans hxx).mono fun k hk h => by omega⟩
  refine ⟨fun i w' => ∃ j : Nat, i = j ∧ ∃ f g s1 s2, Kept w w' b w1.heap.size w7.heap.size f g s1 s2, fun i _ => ((l.len : Int) - i).toNat, ⟨0, rfl, _, _, _, _, hK⟩, ?_⟩
  clear hK hsp' hxx hx8 z2 q1 q2 q3 q4 y1 p1 p2 p3 p4 z1 hB y0 hA e60 z0 hsp hfs
  rintro _ w3 ⟨j, rfl, f, g, s1, s2, h3⟩
  refine ⟨fun hlt => ?_, fun _ => (lives06 w3).use ?_⟩
  case refine_2 =>
    rintro _ w4 ⟨rfl, hx4⟩
    exact ⟨true, rfl, rfl, h3.x.trans hx4⟩
  have hjl : j < l.len := by
    have : (j : Int) < l.len ∧ (j : Int) < 80 := by simpa using hlt
    omega
  cases hla : l.a with
  | none => have := hl.nil hla; omega
  | some A =>
    obtain ⟨kind, no, hk, hno⟩ := hl.cell A hla j (by omega)
    have hbnd : (0 : Int) ≤ (j : Int) ∧ (j : Int) < ((l.len : Nat) : Int) := by omega
    have hko : ∀ {w' : World}, Ext w w' → w'.cell? (A.add (Int.toNat (j : Int) * 2)) = some (.int .i64 kind) := fun hx => by rw [Int.toNat_natCast]; exact hx.cell (by simp) hk
    have hnoo : ∀ {w' : World}, Ext w w' → w'.cell? ((A.add (Int.toNat (j : Int) * 2)).add 1) = some (.int .i64 no) := fun hx => by rw [Int.toNat_natCast]; exact hx.cell (by simp) hno
    refine Jn0 (fun w' => ∃ f g s1 s2, Kept w w' b w1.heap.size w7.heap.size f g s1 s2) (fun q hq => ⟨A, rfl, hbnd, kind, hko h3.x, fun _ => ⟨A, rfl, hbnd, no, hnoo h3.x, ?_⟩, fun _ => ⟨fun _ => ?_, fun _ => ⟨fun _ => ?_, fun _ => ?_⟩⟩⟩) ?_
    · refine (space_Free h3.s no).use ?_
      rintro _ w4 ⟨rfl, hs4, hc4⟩
      obtain ⟨ha, hz, hn1, hn2, hf, hx⟩ := h3.step hc4 (fun k hk => .inl hk)
      refine ⟨_, rfl, fun h0 => ⟨A, rfl, hbnd, no, hnoo hx, ?_⟩, fun h0 => hq _ ?_⟩
      · have hgood : (0 ≤ no ∧ no < 60) ∧ f no.toNat = true := by
          have h0 : freeV f 60 no = 0 := by simpa using h0
          unfold freeV at h0
          split at h0
          · rename_i hr
            split at h0
            · rename_i hf; exact ⟨hr, hf⟩
            · omega
          · omega
        obtain ⟨hr, hfn⟩ := hgood
        obtain ⟨m, rfl⟩ := Int.eq_ofNat_of_zero_le hr.1
        rw [Int.toNat_natCast] at hfn
        have hm : m < 60 := by omega
        have hbnd2 : (0 : Int) ≤ (m : Int) ∧ (m : Int) < ((60 : Nat) : Int) := by omega
        refine Jn1 (fun c w' => c = false ∧ w4 = w') (fun q hq => ⟨fun h => by simp at h; omega, fun _ => ⟨A, rfl, hbnd, m, hnoo hx, hq _ _ ⟨by simp; omega, rfl⟩⟩⟩) ?_
        rintro c _ ⟨rfl, rfl⟩
        refine Jn1 (fun c w' => c = false ∧ w4 = w') (fun q hq => ⟨(fun h => by cases h), fun _ => ⟨A, rfl, hbnd, m, hnoo hx, hbnd2, f m, ha.get hm, hq _ _ ⟨by simp [hfn], rfl⟩⟩⟩) ?_
        rintro c _ ⟨rfl, rfl⟩
        obtain ⟨g1, g2, g3⟩ := ha.put m false
        refine ⟨(fun h => by cases h), fun _ => ⟨A, rfl, hbnd, m, hnoo hx, hbnd2, ⟨_, ha.get hm⟩, g2, hq _ ⟨upd f m false, g, s1, s2, ?_⟩⟩⟩
        have e : freeF f 60 (m : Int) = upd f m false := by unfold freeF; rw [if_pos ⟨by omega, by omega⟩, Int.toNat_natCast]
        rw [e] at hs4
        exact ⟨hs4.chg g3 fun k hk e => hn2 (e ▸ hk), g1, Blk.chg hz g3 fun e => h3.ne e.symm, hn1, hn2, h3.ne, hf, h3.fa, h3.fz, ((Chg.of_ext hx).trans g3).mono fun k hk e => by have := h3.fa; omega⟩
      · have e : freeF f 60 no = f := by
          have h0 : ¬ freeV f 60 no = 0 := by simpa using h0
          unfold freeV at h0
          unfold freeF
          split
          · rename_i hr
            rw [if_pos hr] at h0
            cases hfn : f no.toNat with
            | true => rw [hfn] at h0; simp at h0
            | false => exact upd_same hfn
          · rfl
        rw [e] at hs4
        exact ⟨f, g, s1, s2, hs4, ha, hz, hn1, hn2, h3.ne, hf, h3.fa, h3.fz, hx⟩
    · refine (space_Commit h3.s).use ?_
      rintro _ w4 ⟨rfl, s2', hs4, hc4, hf4⟩
      obtain ⟨ha, hz, hn1, hn2, hf, hx⟩ := h3.step hc4 hf4
      obtain ⟨g1, g2, g3, g4, g5⟩ := ha.copy hz
      exact ⟨rfl, _, g1, g2, g3, hq _ ⟨f, f, s1, s2', hs4.chg g5 fun k hk e => hn1 (e ▸ hk), Blk.chg ha g5 h3.ne, g4, hn1, hn2, h3.ne, hf, h3.fa, h3.fz, ((Chg.of_ext hx).trans g5).mono fun k hk e => by have := h3.fz; omega⟩⟩
    · refine (space_Abort h3.s).use ?_
      rintro _ w4 ⟨rfl, s1', hs4, hc4, hf4⟩
      obtain ⟨ha, hz, hn1, hn2, hf, hx⟩ := h3.step hc4 hf4
      obtain ⟨g1, g2, g3, g4, g5⟩ := hz.copy ha
      exact ⟨rfl, _, g1, g2, g3, hq _ ⟨g, g, s1', s2, hs4.chg g5 fun k hk e => hn2 (e ▸ hk), g4, Blk.chg hz g5 fun e => h3.ne e.symm, hn1, hn2, h3.ne, hf, h3.fa, h3.fz, ((Chg.of_ext hx).trans g5).mono fun k hk e => by have := h3.fa; omega⟩⟩
    · refine (space_Alloc h3.s).use ?_
      rintro _ w4 ⟨rfl, hs4, hc4⟩
      obtain ⟨ha, hz, hn1, hn2, hf, hx⟩ := h3.step hc4 (fun k hk => .inl hk)
      cases ho : firstFree (fun i => f i || g i) 60 with
      | none =>
        rw [ho] at hs4
        refine ⟨-1, 2, rfl, fun h => by simp at h, fun _ => hq _ ⟨f, g, s1, s2, hs4, ha, hz, hn1, hn2, h3.ne, hf, h3.fa, h3.fz, hx⟩⟩
      | some m =>
        rw [ho] at hs4
        obtain ⟨hm, hfg, _⟩ := firstFree_spec ho
        have hfm : f m = false ∧ g m = false := by simpa using hfg
        have hbnd2 : (0 : Int) ≤ (m : Int) ∧ (m : Int) < ((60 : Nat) : Int) := by omega
        refine ⟨m, 0, rfl, fun _ => Jn1 (fun c w' => c = false ∧ w4 = w') (fun q hq => ⟨fun h => by simp at h; omega, fun _ => ⟨hbnd2, g m, hz.get hm, hq _ _ ⟨hfm.2, rfl⟩⟩⟩) ?_, fun h => by simp at h⟩
        rintro c _ ⟨rfl, rfl⟩
        refine Jn1 (fun c w' => c = false ∧ w4 = w') (fun q hq => ⟨(fun h => by cases h), fun _ => ⟨hbnd2, f m, ha.get hm, hq _ _ ⟨hfm.1, rfl⟩⟩⟩) ?_
        rintro c _ ⟨rfl, rfl⟩
        obtain ⟨g1, g2, g3⟩ := ha.put m true
        refine ⟨(fun h => by cases h), fun _ => ⟨hbnd2, ⟨_, ha.get hm⟩, g2, hq _ ⟨upd f m true, g, s1, s2, ?_⟩⟩⟩
        exact ⟨hs4.chg g3 fun k hk e => hn2 (e ▸ hk), g1, Blk.chg hz g3 fun e => h3.ne e.symm, hn1, hn2, h3.ne, hf, h3.fa, h3.fz, ((Chg.of_ext hx).trans g3).mono fun k hk e => by have := h3.fa; omega⟩
    · rintro w4 ⟨f, g, s1, s2, h4⟩
      rw [wrapi (by omega) (by omega)]
      exact ⟨⟨j + 1, by omega, f, g, s1, s2, h4⟩, (show ((l.len : Int) - ((j : Int) + 1)).toNat < ((l.len : Int) - (j : Int)).toNat by omega)⟩

end Go.Proofs.Ytejnlmabomampaa
