/- ConfThere: the steps from the one list to the other make the other. -/
import Derived.Test.YtldeegpcldhjaaaConfQ
namespace Go.Proofs.Ytldeegpcldhjaaa
open Go Gx
variable {w w' : World}

theorem fewIs {Z : List SM} {C : List SB} (hZ : Z.map SM.ab = fewL C) : (∀ x ∈ Z, x.bs.length ≤ 18) ∧ Z.length ≤ 10 := by
  refine ⟨fun x hx => ?_, ?_⟩
  · have : x.ab ∈ fewL C := by rw [← hZ]; exact List.mem_map.2 ⟨x, hx, rfl⟩
    obtain ⟨y, _, hy⟩ := List.mem_map.1 this
    have : x.bs = y.2.take 18 := (congrArg Prod.snd hy).symm
    rw [this, List.length_take]; omega
  · have := congrArg List.length hZ
    unfold fewL at this
    rw [List.length_map, List.length_map, List.length_take] at this; omega
theorem OwnSv.few {t : Sl} {Z : List SM} {C : List SB} (h : OwnSv w t Z) (hZ : Z.map SM.ab = fewL C) : SvL w t Z :=
  h.svL (fun x hx => by have := (fewIs hZ).1 x hx; omega) (by have := (fewIs hZ).2; omega)
theorem OwnSv.abs {t : Sl} {Z : List SM} {A : List SB} (h : OwnSv w t Z) (hZ : Z.map SM.ab = A) (hA : GoodSB A) : SvL w t Z := by
  refine h.svL (fun x hx => ?_) ?_
  · have := hA.few x.ab (by rw [← hZ]; exact List.mem_map.2 ⟨x, hx, rfl⟩)
    show x.ab.2.length ≤ 1000
    omega
  · have := hA.len
    rw [← hZ, List.length_map] at this; omega
theorem GoodSB.idOk {R : List Rec} (h : GoodSB (absR R)) : ∀ r ∈ R, idOk r.s.id = true := fun r hr => by
  have := h.may (r.s, r.bs) (List.mem_map.2 ⟨r, hr, rfl⟩)
  unfold mayS at this
  simp only [Bool.and_eq_true] at this
  simp_all
theorem diffE_good {A B : List SB} (h : diffE A B = 0) : GoodSB A ∧ GoodSB B := by
  unfold diffE at h
  split at h
  · rename_i h0
    rw [Bool.and_eq_true] at h0
    have h := h0
    exact ⟨goodL_good h.1, goodL_good h.2⟩
  · cases h
theorem diffE_of {A B : List SB} (hA : goodL A = true) (hB : goodL B = true) : diffE A B = 0 := by
  unfold diffE; rw [hA, hB]; rfl
theorem diffE_goodL {A B : List SB} (h : diffE A B = 0) : goodL A = true ∧ goodL B = true := by
  unfold diffE at h
  split at h
  · rename_i h0
    rwa [Bool.and_eq_true] at h0
  · cases h
theorem opsLen {w : World} {s : Sl} {O : List OpM} (h : OwnS 51 Ty.api_Op w s (opsC O)) : s.len = O.length := by
  have := h.1; rw [opsC_length] at this; omega
theorem diffL_few {A B : List SB} (hA : GoodSB A) (hB : GoodSB B) : (diffL A B).length ≤ 1000000 := by
  unfold diffL
  rw [List.length_append, List.length_map]
  have h1 := List.length_filter_le (fun x : SB => (ofSB B x.1).isNone) A
  have h2 := flatMap_len (fun y : SB => svOps (wasB A y.1) (ofSB A y.1).isSome y) 4001 B fun y hy => svOps_len (by
    unfold wasB
    cases hf : ofSB A y.1 with
    | none => simp
    | some x =>
      have := hA.few x ((ofSB_iff hA.ids _ x).1 hf).1
      show x.2.length ≤ 1000
      omega) (by have := hB.few y hy; omega)
  have := hA.len; have := hB.len
  omega

theorem law_ConfThere {t u : Sl} {X Y : List SM} (hX0 : SvIn w t X) (hY0 : SvIn w u Y) : Ret Try.prog F.law39_ConfThere #[.slice t.a t.len t.cap, .slice u.a u.len u.cap] w (fun v w' => v = .bool true ∧ Ext w w') := by
  refine W.law39_ConfThere_ok t u w _ ?_
  unfold W.law39_ConfThere
  refine (law39_Few hX0).use ?_
  rintro _ w1 ⟨s3, X3, rfl, hX3, o3, hx1, _⟩
  refine ⟨s3, rfl, (law39_Few (hY0.ext hx1)).use ?_⟩
  rintro _ w4 ⟨s6, Y6, rfl, hY6, o6, hx4, _⟩
  obtain ⟨A, hA⟩ : ∃ A, A = fewL (X.map SM.ab) := ⟨_, rfl⟩
  obtain ⟨B, hB⟩ : ∃ B, B = fewL (Y.map SM.ab) := ⟨_, rfl⟩
  have o3 := o3.ext hx4
  have l3 := fun q hq => o3.lt (q := q) hq
  have l6 := fun q hq => o6.lt (q := q) hq
  refine ⟨s6, rfl, (farm_New w4).use ?_⟩
  rintro _ w7 ⟨fm, rfl, hf7, hx7, hff⟩
  have o3 := o3.ext hx7; have o6 := o6.ext hx7
  refine ⟨_, rfl, (law39_Few o3.in).use ?_⟩
  rintro _ w10 ⟨s12, X12, rfl, hX12, o12, hx10, _⟩
  rw [hX3, fewL_idem] at hX12
  have o3 := o3.ext hx10; have o6 := o6.ext hx10
  refine ⟨s12, rfl, (conf_Steps (o12.few hX12)).use ?_⟩
  rw [hX12, ← hA]
  rintro _ w13 ⟨s15, O1, rfl, hO1, p15, hx13, hf15⟩
  have o3 := o3.ext hx13; have o6 := o6.ext hx13
  refine ⟨s15, _, rfl, (law39_Few o3.in).use ?_⟩
  rintro _ w17 ⟨s19, X19, rfl, hX19, o19, hx17, _⟩
  rw [hX3, fewL_idem] at hX19
  have o3 := o3.ext hx17; have o6 := o6.ext hx17
  refine ⟨s19, rfl, (law39_Few o6.in).use ?_⟩
  rintro _ w20 ⟨s22, Y22, rfl, hY22, o22, hx20, _⟩
  rw [hY6, fewL_idem] at hY22
  have o3 := o3.ext hx20; have o6 := o6.ext hx20; have o19 := o19.ext hx20
  refine ⟨s22, rfl, (conf_Diff (o19.few hX19) (o22.few hY22)).use ?_⟩
  rw [hX19, hY22, ← hA, ← hB]
  rintro _ w23 ⟨s25, O2, rfl, hO2, p25, hx23, hf25⟩
  have o3 := o3.ext hx23; have o6 := o6.ext hx23
  have hx04 : Ext w w4 := hx1.trans hx4
  have hx713 : Ext w7 w13 := Ext.trans hx10 hx13
  have hx1323 : Ext w13 w23 := Ext.trans hx17 (Ext.trans hx20 hx23)
  have hx723 : Ext w7 w23 := Ext.trans hx713 hx1323
  have hx23' : Ext w w23 := Ext.trans hx04 (Ext.trans hx7 hx723)
  refine ⟨s25, _, rfl, fun _ => (law39_lives w23).use ?_, fun heq => ?_⟩
  · rintro _ w27 ⟨rfl, hx27⟩
    exact ⟨_, rfl, rfl, Ext.trans hx23' hx27⟩
  have heq : diffE [] A = 0 ∧ diffE A B = 0 := by simpa using heq
  rw [if_pos heq.1] at hO1
  rw [if_pos heq.2] at hO2
  obtain ⟨gA, gB⟩ := diffE_good heq.2
  have f23 := hf7.ext hx723
  have p15 := p15.ext hx1323
  -- where things lie
  have a15 : ∀ q, ownB s15 q → ¬ foot fm [] q := fun q hq hfq => by
    have := hf7.lt hfq; have := hf15 q hq; have := hx10.size; omega
  refine (conf_Apply f23 (t := s15) (O := O1) (fun w' hc => (p15.chg hc a15).src) (by rw [hO1]; have := diffL_few GoodSB.nil gA; omega)).use ?_
  rw [hO1, show absR [] = [] from rfl, applyL_run 0 (run_diff GoodSB.nil gA), ← hO1]
  rintro _ w30 ⟨rfl, R1, f30, hR1, c30, hf30⟩
  have foot1 : ∀ q, foot fm R1 q → w4.heap.size ≤ q ∧ (q < w7.heap.size ∨ w23.heap.size ≤ q) := fun q hq => by
    rcases hf30 q hq with h | h
    · exact ⟨hff q h, .inl (hf7.lt h)⟩
    · have := hx7.size; have := hx723.size; exact ⟨by omega, .inr h⟩
  have n3 : ∀ q, svB s3 X3 q → ¬ foot fm [] q := fun q hq hfq => by have := hff q hfq; have := l3 q hq; omega
  have n6 : ∀ q, svB s6 Y6 q → ¬ foot fm [] q := fun q hq hfq => by have := hff q hfq; have := l6 q hq; omega
  have n3' : ∀ q, svB s3 X3 q → ¬ foot fm R1 q := fun q hq hfq => by have := (foot1 q hfq).1; have := l3 q hq; omega
  have n6' : ∀ q, svB s6 Y6 q → ¬ foot fm R1 q := fun q hq hfq => by have := (foot1 q hfq).1; have := l6 q hq; omega
  have a25 : ∀ q, ownB s25 q → ¬ foot fm [] q := fun q hq hfq => by
    have := hf7.lt hfq; have := hf25 q hq; have := hx713.size; have := hx17.size; have := hx20.size; omega
  have l25 := fun q hq => p25.lt q hq
  have a25' : ∀ q, ownB s25 q → ¬ foot fm R1 q := fun q hq hfq => by
    have := foot1 q hfq; have := hf25 q hq; have := l25 q hq; have := hx713.size; have := hx17.size; have := hx20.size; omega
  have o3 := o3.chg c30 n3; have o6 := o6.chg c30 n6; have p25 := p25.chg c30 a25
  have hx30 : Ext w w30 := Ext.of_new hx23' c30 fun q hq => by have := hff q hq; have := hx04.size; omega
  have gR1 : GoodSB (absR R1) := by rw [hR1]; exact gA
  refine ⟨_, _, rfl, (conf_Of f30 gR1.idOk).use ?_⟩
  rintro _ w34 ⟨s36, X36, rfl, hX36, o36, hx34, hf36⟩
  rw [hR1] at hX36
  have o3 := o3.ext hx34; have o6 := o6.ext hx34; have p25 := p25.ext hx34
  refine ⟨s36, rfl, (conf_Apply (f30.ext hx34) (t := s25) (O := O2) (fun w' hc => (p25.chg hc a25').src) (by rw [hO2]; have := diffL_few gA gB; omega)).use ?_⟩
  rw [hO2, hR1, applyL_run 0 (run_diff gA gB), ← hO2]
  rintro _ w37 ⟨rfl, R2, f37, hR2, c37, hf37⟩
  have o3 := o3.chg c37 n3'; have o6 := o6.chg c37 n6'
  have o36 := o36.chg c37 fun q hq hfq => by have := f30.lt hfq; have := hf36 q hq; omega
  have hx37 : Ext w w37 := Ext.of_new (hx30.trans hx34) c37 fun q hq => by have := (foot1 q hq).1; have := hx04.size; omega
  have gR2 : GoodSB (absR R2) := by rw [hR2]; exact gB
  refine ⟨_, _, rfl, (law39_Few o3.in).use ?_⟩
  rintro _ w41 ⟨s43, X43, rfl, hX43, o43, hx41, _⟩
  rw [hX3, fewL_idem] at hX43
  have o3 := o3.ext hx41
  refine ⟨s43, rfl, (law39_Few o3.in).use ?_⟩
  rintro _ w44 ⟨s46, X46, rfl, hX46, o46, hx44, _⟩
  rw [hX3, fewL_idem] at hX46
  refine ⟨s46, rfl, (conf_Diff ((o43.ext hx44).few hX43) (o46.few hX46)).use ?_⟩
  rw [hX43, hX46, ← hA, diffE_of (diffE_goodL heq.2).1 (diffE_goodL heq.2).1, if_pos rfl, diff_self gA]
  rintro _ w47 ⟨s49, O3, rfl, rfl, p49, hx47, _⟩
  have hl49 : s49.len = 0 := opsLen p49
  have hx47' : Ext w37 w47 := Ext.trans hx41 (Ext.trans hx44 hx47)
  have o3 := o3.ext (Ext.trans hx44 hx47); have o6 := o6.ext hx47'; have o36 := o36.ext hx47'
  have f47 := f37.ext hx47'
  refine ⟨s49, _, rfl, Jn1 (fun b w' => b = true ∧ Ext w47 w') (fun q hq => ⟨fun _ => (ref39_Same (o36.abs hX36 gA) (o3.few hX3)).use ?_, fun hb => ?_⟩) fun b w56 hb => ?_⟩
  · rintro _ w52 ⟨rfl, hx52⟩
    exact ⟨_, rfl, hq _ _ ⟨by rw [hX36, hX3, hA]; simp, hx52⟩⟩
  · rw [opsLen p15] at hb
    simp at hb
  obtain ⟨rfl, hx56⟩ := hb
  refine Jn1 (fun b w' => b = true ∧ Ext w56 w') (fun q hq => ⟨fun _ => (conf_Of (f47.ext hx56) gR2.idOk).use ?_, fun hb => ?_⟩) fun b w65 hb => ?_
  · rintro _ w58 ⟨s60, X60, rfl, hX60, o60, hx58, _⟩
    rw [hR2] at hX60
    refine ⟨s60, rfl, (ref39_Same (o60.abs hX60 gB) ((o6.ext (Ext.trans hx56 hx58)).few hY6)).use ?_⟩
    rintro _ w61 ⟨rfl, hx61⟩
    exact ⟨_, rfl, hq _ _ ⟨by rw [hX60, hY6, hB]; simp, Ext.trans hx58 hx61⟩⟩
  · rw [opsLen p25] at hb
    simp at hb
  obtain ⟨rfl, hx65⟩ := hb
  have hxl : Ext w w65 := Ext.trans hx37 (Ext.trans hx47' (Ext.trans hx56 hx65))
  refine Jn1 (fun b w' => b = true ∧ Ext w65 w') (fun q hq => ⟨fun _ => (law39_lives w65).use ?_, fun hb => ?_⟩) fun b w71 hb => ?_
  · rintro _ w67 ⟨rfl, hx67⟩
    exact ⟨_, rfl, hq _ _ ⟨rfl, hx67⟩⟩
  · rw [hl49] at hb
    exact absurd hb (by simp)
  obtain ⟨rfl, hx71⟩ := hb
  exact ⟨rfl, Ext.trans hxl hx71⟩

end Go.Proofs.Ytldeegpcldhjaaa
