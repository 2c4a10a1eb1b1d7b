/- Layer 22: what each function of conn answers. -/
import Derived.Test.YtejnlmabomampaaWx
import Derived.Test.YtejnlmabomampaaGp
namespace Go.Proofs.Ytejnlmabomampaa
open Go Gx

def hasB (f g : Int) : Bool := bAnd .u8 f g != 0
def beginsB (f : Int) (c : Bool) : Bool := c && (hasB f 2 && (!(hasB f 16) && !(hasB f 4)))
def noneN (f : Int) (c : Bool) : Int := if c = false then 0 else if beginsB f c then 1 else if hasB f 4 then 0 else if hasB f 1 then 3 else 2
def finN (c : Bool) : Int := if c then 3 else 4
def nextN (s f : Int) (c : Bool) : Int :=
  if s = 0 then noneN f c
  else if s < 0 ∨ s > 5 then 0
  else if s = 5 ∧ beginsB f c = true then 1
  else if s = 5 ∨ hasB f 4 = true then 5
  else if s = 3 ∨ s = 4 then (if hasB f 1 = true ∧ c = (s == 4) then 5 else s)
  else if hasB f 1 then finN c
  else if (s = 1 ∧ c = true) ∧ hasB f 16 = true then 2 else s

theorem conn_has (f : Int) (c : Bool) (g : Int) (w : World) : Ret Try.prog F.conn_segment_has #[.agg #[.int .u8 f, .bool c], .int .u8 g] w (fun v w' => v = .bool (hasB f g) ∧ Ext w w') := by
  refine W.conn_segment_has_ok f c g w _ ?_
  unfold W.conn_segment_has Nx
  have hb := Blk.new w #[.int .u8 f, .bool c] Ty.conn_segment
  exact ⟨_, by rw [hb.cell]; rfl, rfl, Chg.alloc (.refl _ _) _⟩

theorem conn_begins (f : Int) (c : Bool) (w : World) : Ret Try.prog F.conn_segment_begins #[.agg #[.int .u8 f, .bool c]] w (fun v w' => v = .bool (beginsB f c) ∧ Ext w w') := by
  refine W.conn_segment_begins_ok f c w _ ?_
  unfold W.conn_segment_begins Nx Jn
  have hb := Blk.new w #[.int .u8 f, .bool c] Ty.conn_segment
  have hx : Ext w (w.alloc (.cells #[.int .u8 f, .bool c] Ty.conn_segment)) := Chg.alloc (.refl _ _) _
  revert hb hx
  generalize w.alloc (.cells #[.int .u8 f, .bool c] Ty.conn_segment) = w1
  intro hb hx
  refine ⟨c, by rw [add_mk, hb.cell]; rfl, fun hc => ?_, fun hc => ?_⟩
  · refine ⟨f, by rw [hb.cell]; rfl, c, by rw [add_mk, hb.cell]; rfl, ?_⟩
    refine (conn_has f c 2 w1).use ?_
    rintro _ w2 ⟨rfl, hx2⟩
    have hb2 := hb.ext hx2
    refine ⟨_, rfl, fun h2 => ?_, fun h2 => ?_⟩
    · refine ⟨f, by rw [hb2.cell]; rfl, c, by rw [add_mk, hb2.cell]; rfl, ?_⟩
      refine (conn_has f c 16 w2).use ?_
      rintro _ w3 ⟨rfl, hx3⟩
      have hb3 := hb2.ext hx3
      refine ⟨_, rfl, fun h3 => ?_, fun h3 => ?_⟩
      · refine ⟨f, by rw [hb3.cell]; rfl, c, by rw [add_mk, hb3.cell]; rfl, ?_⟩
        refine (conn_has f c 4 w3).use ?_
        rintro _ w4 ⟨rfl, hx4⟩
        exact ⟨_, rfl, by simp [beginsB, hc, h2, h3], ((hx.trans hx2).trans hx3).trans hx4⟩
      · exact ⟨by simp [beginsB, hc, h2, h3], (hx.trans hx2).trans hx3⟩
    · refine ⟨fun h => by simp at h, fun _ => ⟨by simp [beginsB, hc, h2], hx.trans hx2⟩⟩
  · refine ⟨fun h => by simp at h, fun _ => ⟨fun h => by simp at h, fun _ => ⟨by simp [beginsB, hc], hx⟩⟩⟩

theorem conn_none (f : Int) (c : Bool) (w : World) : Ret Try.prog F.conn_none #[.agg #[.int .u8 f, .bool c]] w (fun v w' => v = .int .i64 (noneN f c) ∧ Ext w w') := by
  refine W.conn_none_ok f c w _ ?_
  unfold W.conn_none Nx
  have hb := Blk.new w #[.int .u8 f, .bool c] Ty.conn_segment
  have hx : Ext w (w.alloc (.cells #[.int .u8 f, .bool c] Ty.conn_segment)) := Chg.alloc (.refl _ _) _
  revert hb hx
  generalize w.alloc (.cells #[.int .u8 f, .bool c] Ty.conn_segment) = w1
  intro hb hx
  refine ⟨c, by rw [add_mk, hb.cell]; rfl, fun hc => ⟨by simp at hc; simp [noneN, hc], hx⟩, fun hc => ?_⟩
  obtain rfl : c = true := by simpa using hc
  refine ⟨f, by rw [hb.cell]; rfl, true, by rw [add_mk, hb.cell]; rfl, (conn_begins f true w1).use ?_⟩
  rintro _ w2 ⟨rfl, hx2⟩
  have hb2 := hb.ext hx2
  refine ⟨_, rfl, fun h2 => ⟨by simp [noneN, h2], hx.trans hx2⟩, fun h2 => ?_⟩
  refine ⟨f, by rw [hb2.cell]; rfl, true, by rw [add_mk, hb2.cell]; rfl, (conn_has f true 4 w2).use ?_⟩
  rintro _ w3 ⟨rfl, hx3⟩
  have hb3 := hb2.ext hx3
  refine ⟨_, rfl, fun h3 => ⟨by simp [noneN, h2, h3], (hx.trans hx2).trans hx3⟩, fun h3 => ?_⟩
  refine ⟨f, by rw [hb3.cell]; rfl, true, by rw [add_mk, hb3.cell]; rfl, (conn_has f true 1 w3).use ?_⟩
  rintro _ w4 ⟨rfl, hx4⟩
  exact ⟨_, rfl, fun h4 => ⟨by simp [noneN, h2, h3, h4], ((hx.trans hx2).trans hx3).trans hx4⟩,
    fun h4 => ⟨by simp [noneN, h2, h3, h4], ((hx.trans hx2).trans hx3).trans hx4⟩⟩

theorem conn_fin (f : Int) (c : Bool) (w : World) : Ret Try.prog F.conn_fin #[.agg #[.int .u8 f, .bool c]] w (fun v w' => v = .int .i64 (finN c) ∧ Ext w w') := by
  refine W.conn_fin_ok f c w _ ?_
  unfold W.conn_fin Nx
  have hb := Blk.new w #[.int .u8 f, .bool c] Ty.conn_segment
  exact ⟨c, by rw [add_mk, hb.cell]; rfl, fun hc => ⟨by simp [finN, hc], Chg.alloc (.refl _ _) _⟩, fun hc => ⟨by simp [finN, hc], Chg.alloc (.refl _ _) _⟩⟩

theorem conn_Next (s f : Int) (c : Bool) (w : World) : Ret Try.prog F.conn_Next #[.int .i64 s, .int .u8 f, .bool c] w (fun v w' => v = .int .i64 (nextN s f c) ∧ Ext w w') := by
  refine W.conn_Next_ok s f c w _ ?_
  unfold W.conn_Next Nx Jn
  have hb0 := Blk.new w #[.int .u8 0, .bool false] Ty.conn_segment
  have hx0 : Ext w (w.alloc (.cells #[.int .u8 0, .bool false] Ty.conn_segment)) := Chg.alloc (.refl _ _) _
  refine ⟨hb0.storeOk 0 _ (by simp) (by simp [Plain]), rfl, ?_⟩
  have hb := Blk.sets [.int .u8 f, .bool c] 0 0 hb0
  have hx := Chg.setCells (A := ⟨w.heap.size, 0, none⟩) (W := fun _ => False) (fun h => by simp at h) [.int .u8 f, .bool c] 0 hx0
  simp only [spl, Nat.zero_add] at hb
  revert hb hx
  generalize setCells (w.alloc (.cells #[.int .u8 0, .bool false] Ty.conn_segment)) ⟨w.heap.size, 0, none⟩ 0 [.int .u8 f, .bool c] = w1
  intro hx hb
  have rd : ∀ {w2 : World}, Ext w1 w2 → w2.cell? ⟨w.heap.size, 0, none⟩ = some (.int .u8 f) ∧ w2.cell? (Addr.add ⟨w.heap.size, 0, none⟩ 1) = some (.bool c) := by
    intro w2 h
    have hb2 := hb.ext h
    exact ⟨by rw [hb2.cell]; rfl, by rw [add_mk, hb2.cell]; rfl⟩
  have r1 := rd (.refl _ _)
  refine ⟨fun h0 => ?_, fun h0 => ⟨fun h1 => ?_, fun h1 => ?_⟩⟩
  · refine ⟨f, r1.1, c, r1.2, (conn_none f c w1).use ?_⟩
    rintro _ w2 ⟨rfl, hx2⟩
    exact ⟨_, rfl, by simp at h0; simp [nextN, h0], hx.trans hx2⟩
  · simp at h0 h1
    exact ⟨by simp [nextN, h0, h1], hx⟩
  · have hs0 : ¬ s = 0 := by simpa using h0
    have hs1 : ¬ (s < 0 ∨ s > 5) := by simp at h1; omega
    have key2 : ∀ w2, Ext w1 w2 → ¬ (s = 5 ∧ beginsB f c = true) → ¬ (s = 5 ∨ hasB f 4 = true) →
        ((s == 3) = true ∨ (s == 3) = false) → True := fun _ _ _ _ _ => trivial
    have tail : ∀ w2, Ext w1 w2 → ¬ (s = 5 ∧ beginsB f c = true) → ¬ (s = 5 ∨ hasB f 4 = true) → ∀ b25 : Bool, (b25 = true ↔ (s = 3 ∨ s = 4)) →
        (b25 = true → ∃ n27, w2.cell? ⟨w.heap.size, 0, none⟩ = some (.int .u8 n27) ∧ ∃ b28, w2.cell? (Addr.add ⟨w.heap.size, 0, none⟩ 1) = some (.bool b28) ∧
          Calls Try.prog F.conn_segment_has #[.agg #[.int .u8 n27, .bool b28], .int .u8 1] w2 fun e30 w29 =>
            ∃ b31, e30 = .returned (.bool b31) ∧
              (b31 = true → ∃ b33, w29.cell? (Addr.add ⟨w.heap.size, 0, none⟩ 1) = some (.bool b33) ∧
                ((b33 == (s == 4)) = true → (Value.int .i64 5 = .int .i64 (nextN s f c) ∧ Ext w w29)) ∧ ((b33 == (s == 4)) = false → (Value.int .i64 s = .int .i64 (nextN s f c) ∧ Ext w w29))) ∧
              (b31 = false → (false = true → (Value.int .i64 5 = .int .i64 (nextN s f c) ∧ Ext w w29)) ∧ (false = false → (Value.int .i64 s = .int .i64 (nextN s f c) ∧ Ext w w29)))) ∧
        (b25 = false → ∃ n36, w2.cell? ⟨w.heap.size, 0, none⟩ = some (.int .u8 n36) ∧ ∃ b37, w2.cell? (Addr.add ⟨w.heap.size, 0, none⟩ 1) = some (.bool b37) ∧
          Calls Try.prog F.conn_segment_has #[.agg #[.int .u8 n36, .bool b37], .int .u8 1] w2 fun e39 w38 =>
            ∃ b40, e39 = .returned (.bool b40) ∧
              (b40 = true → ∃ n41, w38.cell? ⟨w.heap.size, 0, none⟩ = some (.int .u8 n41) ∧ ∃ b42, w38.cell? (Addr.add ⟨w.heap.size, 0, none⟩ 1) = some (.bool b42) ∧
                Calls Try.prog F.conn_fin #[.agg #[.int .u8 n41, .bool b42]] w38 fun e44 w43 => ∃ n45, e44 = .returned (.int .i64 n45) ∧ (Value.int .i64 n45 = .int .i64 (nextN s f c) ∧ Ext w w43)) ∧
              (b40 = false →
                (((s == 1) && c) = true → ∃ n47, w38.cell? ⟨w.heap.size, 0, none⟩ = some (.int .u8 n47) ∧ ∃ b48, w38.cell? (Addr.add ⟨w.heap.size, 0, none⟩ 1) = some (.bool b48) ∧
                  Calls Try.prog F.conn_segment_has #[.agg #[.int .u8 n47, .bool b48], .int .u8 16] w38 fun e50 w49 => ∃ b51, e50 = .returned (.bool b51) ∧
                    (b51 = true → (Value.int .i64 2 = .int .i64 (nextN s f c) ∧ Ext w w49)) ∧ (b51 = false → (Value.int .i64 s = .int .i64 (nextN s f c) ∧ Ext w w49))) ∧
                (((s == 1) && c) = false → (false = true → (Value.int .i64 2 = .int .i64 (nextN s f c) ∧ Ext w w38)) ∧ (false = false → (Value.int .i64 s = .int .i64 (nextN s f c) ∧ Ext w w38))))) := by
      intro w2 hx2 hA hB b25 hb25
      have r2 := rd hx2
      refine ⟨fun h => ?_, fun h => ?_⟩
      · have h34 := hb25.1 h
        refine ⟨f, r2.1, c, r2.2, (conn_has f c 1 w2).use ?_⟩
        rintro _ w3 ⟨rfl, hx3⟩
        have hxx := hx2.trans hx3
        refine ⟨_, rfl, fun h1 => ⟨c, (rd hxx).2, fun h4 => ⟨?_, hx.trans hxx⟩, fun h4 => ⟨?_, hx.trans hxx⟩⟩, fun h1 => ⟨fun h => (by cases h), fun _ => ⟨?_, hx.trans hxx⟩⟩⟩
        · have h4' : c = (s == 4) := by simpa using h4
          simp only [nextN, if_neg hs0, if_neg hs1, if_neg hA, if_neg hB, if_pos h34, if_pos (And.intro h1 h4')]
        · have h4' : ¬ (hasB f 1 = true ∧ c = (s == 4)) := by
            rintro ⟨_, h5⟩
            rw [h5] at h4
            simp at h4
          simp only [nextN, if_neg hs0, if_neg hs1, if_neg hA, if_neg hB, if_pos h34, if_neg h4']
        · have h4' : ¬ (hasB f 1 = true ∧ c = (s == 4)) := by rintro ⟨h5, _⟩; rw [h5] at h1; cases h1
          simp only [nextN, if_neg hs0, if_neg hs1, if_neg hA, if_neg hB, if_pos h34, if_neg h4']
      · have h34 : ¬ (s = 3 ∨ s = 4) := fun h5 => by rw [hb25.2 h5] at h; cases h
        refine ⟨f, r2.1, c, r2.2, (conn_has f c 1 w2).use ?_⟩
        rintro _ w3 ⟨rfl, hx3⟩
        have hxx := hx2.trans hx3
        have r3 := rd hxx
        refine ⟨_, rfl, fun h1 => ⟨f, r3.1, c, r3.2, (conn_fin f c w3).use ?_⟩, fun h1 => ⟨fun h5 => ⟨f, r3.1, c, r3.2, (conn_has f c 16 w3).use ?_⟩, fun h5 => ⟨fun h => (by cases h), fun _ => ⟨?_, hx.trans hxx⟩⟩⟩⟩
        · rintro _ w4 ⟨rfl, hx4⟩
          exact ⟨_, rfl, by simp only [nextN, if_neg hs0, if_neg hs1, if_neg hA, if_neg hB, if_neg h34, if_pos h1], hx.trans (hxx.trans hx4)⟩
        · rintro _ w4 ⟨rfl, hx4⟩
          have h5' : s = 1 ∧ c = true := by simpa using h5
          have h1' : ¬ hasB f 1 = true := by simp [h1]
          refine ⟨_, rfl, fun h6 => ⟨?_, hx.trans (hxx.trans hx4)⟩, fun h6 => ⟨?_, hx.trans (hxx.trans hx4)⟩⟩
          · simp only [nextN, if_neg hs0, if_neg hs1, if_neg hA, if_neg hB, if_neg h34, if_neg h1', if_pos (And.intro h5' h6)]
          · have h6' : ¬ ((s = 1 ∧ c = true) ∧ hasB f 16 = true) := by simp [h6]
            simp only [nextN, if_neg hs0, if_neg hs1, if_neg hA, if_neg hB, if_neg h34, if_neg h1', if_neg h6']
        · have h5' : ¬ ((s = 1 ∧ c = true) ∧ hasB f 16 = true) := by rintro ⟨⟨h6, h7⟩, _⟩; simp [h6, h7] at h5
          have h1' : ¬ hasB f 1 = true := by simp [h1]
          simp only [nextN, if_neg hs0, if_neg hs1, if_neg hA, if_neg hB, if_neg h34, if_neg h1', if_neg h5']
    have mid : ∀ w2, Ext w1 w2 → ¬ (s = 5 ∧ beginsB f c = true) → ∀ b22 : Bool, (b22 = true ↔ (s = 5 ∨ hasB f 4 = true)) →
        (b22 = true → (Value.int .i64 5 = .int .i64 (nextN s f c) ∧ Ext w w2)) := by
      intro w2 hx2 hA b22 hb h
      have hB := hb.1 h
      exact ⟨by simp only [nextN, if_neg hs0, if_neg hs1, if_neg hA, if_pos hB], hx.trans hx2⟩
    have h3b : ∀ {x : Bool}, ((s == 3) = true → x = (s == 3)) → ((s == 3) = false → x = (s == 4)) → (x = true ↔ (s = 3 ∨ s = 4)) := by
      intro x h1 h2
      by_cases h : s = 3
      · rw [h1 (by simp [h])]; simp [h]
      · rw [h2 (by simp [h])]; simp [h]
    have rest : ∀ w2, Ext w1 w2 → ∀ b14 : Bool, (b14 = true ↔ (s = 5 ∧ beginsB f c = true)) → b14 = false →
        ((s == 5) = true → ((true = true → (Value.int .i64 5 = .int .i64 (nextN s f c) ∧ Ext w w2)))) := by
      intro w2 hx2 b14 hb14 h14 h5 _
      have hA : ¬ (s = 5 ∧ beginsB f c = true) := fun h => by rw [hb14.2 h] at h14; cases h14
      exact mid w2 hx2 hA true (by simp at h5; simp [h5]) rfl
    refine ⟨fun h5 => ?_, fun h5 => ?_⟩
    · have h5' : s = 5 := by simpa using h5
      refine ⟨f, r1.1, c, r1.2, (conn_begins f c w1).use ?_⟩
      rintro _ w2 ⟨rfl, hx2⟩
      refine ⟨_, rfl, fun hbg => ⟨by simp only [nextN, if_neg hs0, if_neg hs1, if_pos (And.intro h5' hbg)], hx.trans hx2⟩, fun hbg => ⟨fun _ => ⟨fun _ => ?_, (fun h => by cases h)⟩, (fun h => by simp [h5'] at h)⟩⟩
      exact rest w2 hx2 _ (by simp [h5']) hbg h5 rfl
    · have h5' : ¬ s = 5 := by simpa using h5
      have hA : ¬ (s = 5 ∧ beginsB f c = true) := fun h => h5' h.1
      refine ⟨(fun h => by cases h), fun _ => ⟨(fun h => by simp [h5'] at h), fun _ => ⟨f, r1.1, c, r1.2, (conn_has f c 4 w1).use ?_⟩⟩⟩
      rintro _ w2 ⟨rfl, hx2⟩
      refine ⟨_, rfl, fun h4 => mid w2 hx2 hA _ (by simp [h5']) h4, fun h4 => ⟨fun h3 => ?_, fun h3 => ?_⟩⟩
      · exact tail w2 hx2 hA (by simp [h5', h4]) _ (h3b (fun _ => rfl) (fun h => by rw [h3] at h; cases h))
      · exact tail w2 hx2 hA (by simp [h5', h4]) _ (h3b (fun h => by rw [h3] at h; cases h) (fun _ => rfl))

end Go.Proofs.Ytejnlmabomampaa
