/- The reference's farm: parts of slices, rows rebuilt by appends in a drawn order, who may be. -/
import Derived.Test.YtldeegpcldhjaaaConfS
namespace Go.Proofs.Ytldeegpcldhjaaa
open Go Gx
variable {w w' : World}

/-- A part of a slice. -/
theorem Src.cut {sz : Nat} {s : Sl} {vs : List Value} {lo hi : Nat} (h : Src sz w s vs) (hc : s.len ≤ s.cap) (h1 : lo ≤ hi) (h2 : hi ≤ s.len) :
    Src sz w ⟨cutA s.a sz lo s.cap, hi - lo, s.cap - lo⟩ ((vs.drop (lo * sz)).take ((hi - lo) * sz)) := by
  have hl := h.len
  have hb : hi * sz ≤ s.len * sz := Nat.mul_le_mul_right _ h2
  have hlo : lo * sz + (hi - lo) * sz = hi * sz := by rw [← Nat.add_mul, Nat.add_sub_cancel' h1]
  refine ⟨by simp; omega, fun hn => ?_, fun a ha => ?_⟩
  · have hsa : s.a = none := by
      unfold cutA at hn
      split at hn
      · exact hn
      · simpa using hn
    simp [h.nil hsa]
  · show rdCells w a 0 ((hi - lo) * sz) = _
    by_cases e : hi = lo
    · rw [show hi - lo = 0 by omega]; simp [rdCells]
    · have hA : ∃ A, s.a = some A ∧ a = A.add (lo * sz) := by
        unfold cutA at ha
        rw [if_neg (by omega)] at ha
        cases hs : s.a with
        | none => rw [hs] at ha; cases ha
        | some A => rw [hs] at ha; exact ⟨A, rfl, by simpa using ha.symm⟩
      obtain ⟨A, hA, rfl⟩ := hA
      exact rdPart (h.rd A hA) (by omega)
theorem OwnS.head {sz : Nat} {T : TypeId} {s : Sl} {vs : List Value} {n : Nat} (h : OwnS sz T w s vs) (hn : n ≤ s.len) : OwnS sz T w ⟨cutA s.a sz 0 s.cap, n - 0, s.cap - 0⟩ (vs.take (n * sz)) := by
  obtain ⟨h1, h2, h3, h4⟩ := h
  have hb : n * sz ≤ s.len * sz := Nat.mul_le_mul_right _ hn
  rw [cut0']
  refine ⟨by simp; omega, by show n - 0 ≤ s.cap - 0; omega, by show s.cap - 0 ≤ _; omega, ?_⟩
  rcases h4 with ⟨ha, hc⟩ | ⟨b, c, ha, hB, hc, hv⟩
  · exact .inl ⟨ha, by show s.cap - 0 = 0; omega⟩
  · refine .inr ⟨b, c, ha, hB, by rw [Nat.sub_zero]; exact hc, ?_⟩
    show c.toList.take ((n - 0) * sz) = _
    rw [Nat.sub_zero, ← hv, List.take_take, Nat.min_eq_left hb]
theorem head_own {s : Sl} {sz n : Nat} {q : Nat} : ownB ⟨cutA s.a sz 0 s.cap, n - 0, s.cap - 0⟩ q ↔ ownB s q := by
  rw [cut0']; exact Iff.rfl

/-! ### A row, built anew -/
section
variable {P : Program} {sT e oT : TypeId} {sz bytes : Nat}
/-- A fresh slice. -/
structure Fr (sz : Nat) (e : TypeId) (w0 w : World) (s : Sl) (l : List Value) : Prop where
  o : OwnS sz e w s l
  x : Ext w0 w
  f : ∀ q, ownB s q → w0.heap.size ≤ q
theorem Ext.new {W0 : Nat → Prop} {w0 w1 w2 : World} (hx : Ext w0 w1) (h : Chg W0 w1 w2) (hW : ∀ q, W0 q → w0.heap.size ≤ q) : Ext w0 w2 ∧ Chg (fun q => w0.heap.size ≤ q) w1 w2 :=
  ⟨Ext.of_new hx h hW, h.mono fun q _ hq => hW q hq⟩
theorem Fr.app (h : AppT P sT e sz bytes) {w0 w1 : World} {s x : Sl} {l xs : List Value} (hs : Fr sz e w0 w1 s l) (hx : Src sz w1 x xs) (hp : ∀ v ∈ xs, Plain v) (hsm : (2 * (s.len + x.len) + 1000) * bytes ≤ 281474976710656) :
    ∃ (s' : Sl) (w2 : World), Sem.run P (Builtin.append_ #[sT, sT] oT #[.slice s.a s.len s.cap, .slice x.a x.len x.cap]) w1 = .ok (.slice s'.a s'.len s'.cap) w2 ∧ Chg (fun q => w0.heap.size ≤ q) w1 w2 ∧ Fr sz e w0 w2 s' (l ++ xs) ∧
      s'.len = s.len + x.len ∧ Chg (ownB s) w1 w2 ∧ ∀ q, ownB s' q → ownB s q ∨ w1.heap.size ≤ q := by
  obtain ⟨s', w2, g1, g2, g3, g4, g5⟩ := h.append (oT := oT) hx hs.o hp hsm
  obtain ⟨k1, k2⟩ := Ext.new hs.x g4 hs.f
  exact ⟨s', w2, g1, k2, ⟨g2, k1, fun q hq => (g5 q hq).elim (hs.f q) fun h => Nat.le_trans hs.x.size h⟩, g3, g4, g5⟩
theorem size_le {a b c : Nat} (h : (2 * b + 1000) * c ≤ 281474976710656) (hab : a ≤ b) : (2 * a + 1000) * c ≤ 281474976710656 := Nat.le_trans (Nat.mul_le_mul_right _ (by omega)) h

/-- What lies in front, one row, and what lies behind it: in the three orders that may be drawn. -/
theorem ins_chain (h : AppT P sT e sz bytes) {x l1 l2 : List Value} {s1 s2 : Sl} {w0 : World}
    (b0 : ∀ w : World, Sem.run P (Instr.buildSlice sT 0 #[]) w = .ok (.slice (some ⟨w.heap.size, 0, none⟩) 0 0) (w.alloc (.cells #[] e)))
    (b1 : ∀ w : World, Sem.run P (Instr.buildSlice sT 1 #[(0, .agg x.toArray)]) w = .ok (.slice (some ⟨w.heap.size, 0, none⟩) 1 1) (w.alloc (.cells x.toArray e)))
    (hx : x.length = sz) (h1 : Src sz w0 s1 l1) (h2 : Src sz w0 s2 l2) (p0 : ∀ v ∈ x, Plain v) (p1 : ∀ v ∈ l1, Plain v) (p2 : ∀ v ∈ l2, Plain v)
    (hsm : (2 * (s1.len + s2.len + 1) + 1000) * bytes ≤ 281474976710656) {K : Sl → World → Prop} (hK : ∀ s' w', Fr sz e w0 w' s' (l1 ++ x ++ l2) → K s' w') :
    (∃ s54 : Sl, ∃ w55 : World, Sem.run P (Instr.buildSlice sT 0 #[]) w0 = .ok (.slice s54.a s54.len s54.cap) w55 ∧ Chg (fun q => w0.heap.size ≤ q) w0 w55 ∧ (
      (∃ s56 : Sl, ∃ w57 : World, Sem.run P (Builtin.append_ #[sT, sT] oT #[.slice s54.a s54.len s54.cap, .slice s1.a s1.len s1.cap]) w55 = .ok (.slice s56.a s56.len s56.cap) w57 ∧ Chg (fun q => w0.heap.size ≤ q) w55 w57 ∧
        ∃ s58 : Sl, ∃ w59 : World, Sem.run P (Instr.buildSlice sT 1 #[(0, .agg x.toArray)]) w57 = .ok (.slice s58.a s58.len s58.cap) w59 ∧ Chg (fun q => w0.heap.size ≤ q) w57 w59 ∧
        ∃ s60 : Sl, ∃ w61 : World, Sem.run P (Builtin.append_ #[sT, sT] oT #[.slice s56.a s56.len s56.cap, .slice s58.a s58.len s58.cap]) w59 = .ok (.slice s60.a s60.len s60.cap) w61 ∧ Chg (fun q => w0.heap.size ≤ q) w59 w61 ∧
        ∃ s62 : Sl, ∃ w63 : World, Sem.run P (Builtin.append_ #[sT, sT] oT #[.slice s60.a s60.len s60.cap, .slice s2.a s2.len s2.cap]) w61 = .ok (.slice s62.a s62.len s62.cap) w63 ∧ Chg (fun q => w0.heap.size ≤ q) w61 w63 ∧ K s62 w63) ∧
      (∃ s66 : Sl, ∃ w67 : World, Sem.run P (Instr.buildSlice sT 1 #[(0, .agg x.toArray)]) w55 = .ok (.slice s66.a s66.len s66.cap) w67 ∧ Chg (fun q => w0.heap.size ≤ q) w55 w67 ∧
        ∃ s68 : Sl, ∃ w69 : World, Sem.run P (Builtin.append_ #[sT, sT] oT #[.slice s54.a s54.len s54.cap, .slice s1.a s1.len s1.cap]) w67 = .ok (.slice s68.a s68.len s68.cap) w69 ∧ Chg (fun q => w0.heap.size ≤ q) w67 w69 ∧
        ∃ s70 : Sl, ∃ w71 : World, Sem.run P (Builtin.append_ #[sT, sT] oT #[.slice s68.a s68.len s68.cap, .slice s66.a s66.len s66.cap]) w69 = .ok (.slice s70.a s70.len s70.cap) w71 ∧ Chg (fun q => w0.heap.size ≤ q) w69 w71 ∧
        ∃ s72 : Sl, ∃ w73 : World, Sem.run P (Builtin.append_ #[sT, sT] oT #[.slice s70.a s70.len s70.cap, .slice s2.a s2.len s2.cap]) w71 = .ok (.slice s72.a s72.len s72.cap) w73 ∧ Chg (fun q => w0.heap.size ≤ q) w71 w73 ∧ K s72 w73))) ∧
    (∃ s76 : Sl, ∃ w77 : World, Sem.run P (Instr.buildSlice sT 1 #[(0, .agg x.toArray)]) w0 = .ok (.slice s76.a s76.len s76.cap) w77 ∧ Chg (fun q => w0.heap.size ≤ q) w0 w77 ∧
      ∃ s78 : Sl, ∃ w79 : World, Sem.run P (Instr.buildSlice sT 0 #[]) w77 = .ok (.slice s78.a s78.len s78.cap) w79 ∧ Chg (fun q => w0.heap.size ≤ q) w77 w79 ∧
      ∃ s80 : Sl, ∃ w81 : World, Sem.run P (Builtin.append_ #[sT, sT] oT #[.slice s78.a s78.len s78.cap, .slice s1.a s1.len s1.cap]) w79 = .ok (.slice s80.a s80.len s80.cap) w81 ∧ Chg (fun q => w0.heap.size ≤ q) w79 w81 ∧
      ∃ s82 : Sl, ∃ w83 : World, Sem.run P (Builtin.append_ #[sT, sT] oT #[.slice s80.a s80.len s80.cap, .slice s76.a s76.len s76.cap]) w81 = .ok (.slice s82.a s82.len s82.cap) w83 ∧ Chg (fun q => w0.heap.size ≤ q) w81 w83 ∧
      ∃ s84 : Sl, ∃ w85 : World, Sem.run P (Builtin.append_ #[sT, sT] oT #[.slice s82.a s82.len s82.cap, .slice s2.a s2.len s2.cap]) w83 = .ok (.slice s84.a s84.len s84.cap) w85 ∧ Chg (fun q => w0.heap.size ≤ q) w83 w85 ∧ K s84 w85) := by
  have al : ∀ (w : World) (o : Obj), Ext w (w.alloc o) := fun w o => Chg.alloc (.refl _ _) o
  have fr0 : ∀ w : World, Ext w0 w → Fr sz e w0 (w.alloc (.cells #[] e)) ⟨some ⟨w.heap.size, 0, none⟩, 0, 0⟩ [] := fun w hw =>
    ⟨OwnS.new (T := e) w [] 0 (by simp) (by decide), Ext.trans hw (al w _), fun q hq => by rw [ownB_some] at hq; have := hw.size; simp at hq; omega⟩
  have src1 : ∀ w : World, Src sz (w.alloc (.cells x.toArray e)) ⟨some ⟨w.heap.size, 0, none⟩, 1, 1⟩ x := fun w => Src.new w x 1 (by simpa using hx)
  have chg0 : ∀ {w w2 : World}, Ext w w2 → Chg (fun q => w0.heap.size ≤ q) w w2 := fun h => Chg.of_ext h
  have mv : ∀ {s : Sl} {a b : World}, Fr sz e w0 a s [] → Ext a b → Fr sz e w0 b s [] := fun h hx => ⟨h.o.ext hx, Ext.trans h.x hx, h.f⟩
  -- the last appends, once the row in front stands
  have tail : ∀ {w1 w2 : World} {s56 s58 : Sl}, Fr sz e w0 w1 s56 l1 → s56.len = s1.len → Ext w1 w2 → Src sz w2 s58 x → s58.len = 1 →
      ∃ s60 : Sl, ∃ w61 : World, Sem.run P (Builtin.append_ #[sT, sT] oT #[.slice s56.a s56.len s56.cap, .slice s58.a s58.len s58.cap]) w2 = .ok (.slice s60.a s60.len s60.cap) w61 ∧ Chg (fun q => w0.heap.size ≤ q) w2 w61 ∧
        ∃ s62 : Sl, ∃ w63 : World, Sem.run P (Builtin.append_ #[sT, sT] oT #[.slice s60.a s60.len s60.cap, .slice s2.a s2.len s2.cap]) w61 = .ok (.slice s62.a s62.len s62.cap) w63 ∧ Chg (fun q => w0.heap.size ≤ q) w61 w63 ∧ K s62 w63 := by
    intro w1 w2 s56 s58 hf hl hx2 hs58 hl58
    have hf2 : Fr sz e w0 w2 s56 l1 := ⟨hf.o.ext hx2, Ext.trans hf.x hx2, hf.f⟩
    obtain ⟨s60, w61, g1, g2, g3, g4, _, _⟩ := Fr.app (oT := oT) h hf2 hs58 p0 (size_le hsm (by omega))
    obtain ⟨s62, w63, k1, k2, k3, _, _, _⟩ := Fr.app (oT := oT) h g3 (h2.ext g3.x) p2 (size_le hsm (by omega))
    exact ⟨s60, w61, g1, g2, s62, w63, k1, k2, hK _ _ k3⟩
  refine ⟨⟨⟨some ⟨w0.heap.size, 0, none⟩, 0, 0⟩, _, b0 w0, chg0 (al _ _), ?_, ?_⟩, ?_⟩
  · have f0 := fr0 w0 (.refl _ _)
    obtain ⟨s56, w57, g1, g2, g3, g4, _, _⟩ := Fr.app (oT := oT) h f0 (h1.ext f0.x) p1 (size_le hsm (by simp; omega))
    rw [List.nil_append] at g3
    obtain ⟨s60, w61, r⟩ := tail g3 (by simpa using g4) (al w57 (.cells x.toArray e)) (src1 w57) rfl
    exact ⟨s56, w57, g1, g2, ⟨some ⟨w57.heap.size, 0, none⟩, 1, 1⟩, _, b1 w57, chg0 (al _ _), s60, w61, r⟩
  · have f0 := mv (fr0 w0 (.refl _ _)) (al _ (.cells x.toArray e))
    obtain ⟨s56, w57, g1, g2, g3, g4, g5, _⟩ := Fr.app (oT := oT) h f0 (h1.ext f0.x) p1 (size_le hsm (by simp; omega))
    rw [List.nil_append] at g3
    have hs := (src1 (w0.alloc (.cells #[] e))).chg g5 fun q hq hq2 => by
      rw [ownB_some] at hq hq2
      simp at hq hq2; omega
    obtain ⟨s60, w61, r⟩ := tail g3 (by simpa using g4) (.refl _ _) hs rfl
    exact ⟨⟨some ⟨(w0.alloc (.cells #[] e)).heap.size, 0, none⟩, 1, 1⟩, _, b1 _, chg0 (al _ _), s56, w57, g1, g2, s60, w61, r⟩
  · have f0 := fr0 (w0.alloc (.cells x.toArray e)) (al _ _)
    obtain ⟨s56, w57, g1, g2, g3, g4, g5, _⟩ := Fr.app (oT := oT) h f0 (h1.ext f0.x) p1 (size_le hsm (by simp; omega))
    rw [List.nil_append] at g3
    have hs := ((src1 w0).alloc (.cells #[] e)).chg g5 fun q hq hq2 => by
      rw [ownB_some] at hq hq2
      simp at hq hq2; omega
    obtain ⟨s60, w61, r⟩ := tail g3 (by simpa using g4) (.refl _ _) hs rfl
    exact ⟨⟨some ⟨w0.heap.size, 0, none⟩, 1, 1⟩, _, b1 _, chg0 (al _ _), ⟨some ⟨(w0.alloc (.cells x.toArray e)).heap.size, 0, none⟩, 0, 0⟩, _, b0 _, chg0 (al _ _), s56, w57, g1, g2, s60, w61, r⟩
end

/-! ### Who may be -/
theorem ref20_May (s : Sv) (k : Sl) (w : World) : Ret Try.prog F.ref20_May #[.agg (s.c k).toArray] w (fun v w' => v = .bool (mayS s k) ∧ Ext w w') := by
  refine W.ref20_May_ok _ w _ ?_
  unfold W.ref20_May
  refine nxVar (vs := s.c k) rfl fun w1 hv hx1 _ => Jn1 (fun n w' => w1 = w' ∧ n = if s.addr.six then 128 else 32) (fun q hq => ⟨_, (scell hv).2.1, fun h => hq _ _ ⟨rfl, by rw [h]; rfl⟩, fun h => hq _ _ ⟨rfl, by rw [h]; rfl⟩⟩) ?_
  rintro _ _ ⟨rfl, rfl⟩
  refine ⟨_, (scell hv).1, jnAnd (decide (s.id ≤ 65535)) (fun _ q hq => ⟨_, (scell hv).1, hq _ (.refl _ _)⟩) fun w10 hx10 => ?_⟩
  have hv10 := hv.ext hx10
  refine jnAnd s.addr.good (fun _ q hq => ⟨_, srd hv10, (ref12_Good s.addr w10).use ?_⟩) fun w17 hx17 => ?_
  · rintro _ w13 ⟨rfl, hx13⟩
    exact ⟨_, rfl, hq _ hx13⟩
  have hv17 := hv10.ext hx17
  refine jnAnd (decide (s.port > 0)) (fun _ q hq => ⟨_, (scell hv17).2.2.1, hq _ (.refl _ _)⟩) fun w21 hx21 => ?_
  have hv21 := hv17.ext hx21
  refine jnAnd ((s.proto == 6) || (s.proto == 17)) (fun _ q hq => ⟨_, (scell hv21).2.2.2.1, jnOr (s.proto == 17) (fun _ q hq => ⟨_, (scell hv21).2.2.2.1, hq _ (.refl _ _)⟩) fun w27 hx27 => hq _ hx27⟩) fun w29 hx29 => ?_
  have hv29 := hv21.ext hx29
  refine jnAnd (decide (s.bits ≥ 0)) (fun _ q hq => ⟨_, (scell hv29).2.2.2.2.1, hq _ (.refl _ _)⟩) fun w33 hx33 => ?_
  have hv33 := hv29.ext hx33
  refine jnAnd (decide (s.bits ≤ if s.addr.six then 128 else 32)) (fun _ q hq => ⟨_, (scell hv33).2.2.2.2.1, hq _ (.refl _ _)⟩) fun w37 hx37 => ?_
  have hv37 := hv33.ext hx37
  refine jnAnd (decide (s.lasts ≥ 1)) (fun _ q hq => ⟨_, (scell hv37).2.2.2.2.2.1, hq _ (.refl _ _)⟩) fun w41 hx41 => ?_
  have hv41 := hv37.ext hx41
  refine jnAnd (decide (s.lasts ≤ 1073741824)) (fun _ q hq => ⟨_, (scell hv41).2.2.2.2.2.1, hq _ (.refl _ _)⟩) fun w45 hx45 => ?_
  have hv45 := hv41.ext hx45
  have hX : Ext w w45 := Ext.trans hx1 (Ext.trans hx10 (Ext.trans hx17 (Ext.trans hx21 (Ext.trans hx29 (Ext.trans hx33 (Ext.trans hx37 (Ext.trans hx41 hx45)))))))
  exact jnAnd (((k.len : Nat) : Int) == 0) (fun _ q hq => ⟨k, (scell hv45).2.2.2.2.2.2, hq _ (.refl _ _)⟩) fun w49 hx49 => ⟨rfl, Ext.trans hX hx49⟩

theorem ref20_Can (s : Sv) (k : Sl) (b : Bk) (hp : 0 ≤ b.port) (w : World) : Ret Try.prog F.ref20_Can #[.agg (s.c k).toArray, .agg b.c.toArray] w (fun v w' => v = .bool (canB s b) ∧ Ext w w') := by
  refine W.ref20_Can_ok _ _ w _ ?_
  unfold W.ref20_Can
  refine nxVar (vs := s.c k) rfl fun w1 hs hx1 _ => nxVar (vs := b.c) rfl fun w2 hv hx2 _ => ?_
  have hs := hs.ext hx2
  refine ⟨_, (bcell hv).1, jnAnd (decide (b.id ≤ 65535)) (fun _ q hq => ⟨_, (bcell hv).1, hq _ (.refl _ _)⟩) fun w7 hx7 => ?_⟩
  have hv7 := hv.ext hx7
  refine jnAnd b.addr.good (fun _ q hq => ⟨_, brd hv7, (ref12_Good b.addr w7).use ?_⟩) fun w14 hx14 => ?_
  · rintro _ w13 ⟨rfl, hx13⟩
    exact ⟨_, rfl, hq _ hx13⟩
  have hv14 := hv7.ext hx14
  have hs14 := hs.ext (Ext.trans hx7 hx14)
  refine jnAnd (b.addr.six == s.addr.six) (fun _ q hq => ⟨_, (bcell hv14).2.1, _, (scell hs14).2.1, hq _ (.refl _ _)⟩) fun w19 hx19 => ?_
  have hv19 := hv14.ext hx19
  refine jnAnd (decide (b.port > 0)) (fun _ q hq => ⟨_, (bcell hv19).2.2.1, hq _ (.refl _ _)⟩) fun w23 hx23 => ?_
  have hv23 := hv19.ext hx23
  refine jnAnd (decide (b.weight ≥ 0)) (fun _ q hq => ⟨_, (bcell hv23).2.2.2.1, hq _ (.refl _ _)⟩) fun w27 hx27 => ?_
  have hv27 := hv23.ext hx27
  refine jnAnd (decide (b.weight ≤ 10)) (fun _ q hq => ⟨_, (bcell hv27).2.2.2.1, hq _ (.refl _ _)⟩) fun w31 hx31 => ?_
  have hv31 := hv27.ext hx31
  have hX : Ext w w31 := Ext.trans hx1 (Ext.trans hx2 (Ext.trans hx7 (Ext.trans hx14 (Ext.trans hx19 (Ext.trans hx23 (Ext.trans hx27 hx31))))))
  refine jnAnd (!b.drained) (fun _ q hq => ⟨_, (bcell hv31).2.2.2.2, hq _ (.refl _ _)⟩) fun w35 hx35 => ⟨?_, Ext.trans hX hx35⟩
  have e1 : decide (b.port > 0) = !(b.port == 0) := by
    rw [Bool.eq_iff_iff]; simp; omega
  rw [e1]
  unfold canB idOk weightOk
  simp only [Bool.and_assoc]

end Go.Proofs.Ytldeegpcldhjaaa
