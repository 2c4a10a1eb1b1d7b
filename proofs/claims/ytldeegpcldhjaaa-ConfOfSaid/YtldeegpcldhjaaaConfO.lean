/- The law on what is not dropped. -/
import Derived.Test.YtldeegpcldhjaaaConfN
namespace Go.Proofs.Ytldeegpcldhjaaa
open Go Gx

variable {w w' : World}

/-! ### What good lists are -/
theorem goodL_ids {A : List SB} (h : goodL A = true) : (A.map fun x => x.1.id).Pairwise (· < ·) := by
  unfold goodL at h
  rw [Bool.and_eq_true] at h
  exact of_decide_eq_true h.2
theorem layAll_each : ∀ {L X L' : List SB}, layAll L X = some L' → ∀ x ∈ X, ∃ L1 L2, layS L1 x = some L2
  | L, [], _, _, x, hx => by cases hx
  | L, y :: X, L', h, x, hx => by
    simp only [layAll] at h
    cases hl : layS L y with
    | none => rw [hl] at h; cases h
    | some L1 =>
      rw [hl] at h
      rcases List.mem_cons.1 hx with rfl | hx
      · exact ⟨L, L1, hl⟩
      · exact layAll_each h x hx
theorem layS_rises {L L' : List SB} {x : SB} (h : layS L x = some L') : (x.2.map (·.id)).Pairwise (· < ·) := by
  unfold layS at h
  split at h
  · split at h
    · split at h
      · rename_i hr; exact of_decide_eq_true hr
      · cases h
    · cases h
  · cases h
theorem goodL_rise {A : List SB} (h : goodL A = true) {x : SB} (hx : x ∈ A) : (x.2.map (·.id)).Pairwise (· < ·) := by
  unfold goodL at h
  rw [Bool.and_eq_true] at h
  obtain ⟨L', hL⟩ := Option.isSome_iff_exists.1 h.1
  obtain ⟨_, _, h2⟩ := layAll_each hL x hx
  exact layS_rises h2
theorem ids_inj {α : Type} {f : α → Int} {l : List α} (h : (l.map f).Pairwise (· < ·)) {a b : α} (ha : a ∈ l) (hb : b ∈ l) (he : f a = f b) : a = b := by
  obtain ⟨i, hi, rfl⟩ := List.getElem_of_mem ha
  obtain ⟨j, hj, rfl⟩ := List.getElem_of_mem hb
  rw [List.pairwise_map] at h
  have := List.pairwise_iff_getElem.1 h
  rcases Nat.lt_trichotomy i j with hij | hij | hij
  · have := this i j hi hj hij; omega
  · subst hij; rfl
  · have := this j i hj hi hij; omega

/-- What a step that drops says of the lists. -/
def NoMore (A B : List SB) (o : OpM) : Prop :=
  (o.kind = 4 → ∀ x ∈ A, ∀ y ∈ B, x.1.id = o.id → y.1.id = o.id → x.1 ≠ y.1) ∧
  (o.kind = 6 → ∀ x ∈ A, ∀ y ∈ B, x.1.id = o.id → y.1.id = o.id → ∀ b ∈ x.2, ∀ c ∈ y.2, b.id = o.bid → c.id = o.bid → ¬ (b.addr = c.addr ∧ b.port = c.port))
theorem noMore {A B : List SB} (hA : goodL A = true) (hB : goodL B = true) : ∀ o ∈ diffL A B, NoMore A B o := by
  intro o ho
  unfold diffL at ho
  rcases List.mem_append.1 ho with ho | ho
  · obtain ⟨x, hx, rfl⟩ := List.mem_map.1 ho
    obtain ⟨hx, hn⟩ := List.mem_filter.1 hx
    refine ⟨fun _ x' hx' y hy h1 h2 he => ?_, fun h => absurd h (by show (4 : Int) ≠ 6; decide)⟩
    have hxx : x' = x := ids_inj (f := fun x : SB => x.1.id) (goodL_ids hA) hx' hx h1
    subst hxx
    have : ofSB B x'.1 = none := by simpa using hn
    have := List.find?_eq_none.1 this y hy
    simp [he] at this
  · obtain ⟨y, hy, ho⟩ := List.mem_flatMap.1 ho
    unfold svOps at ho
    rcases List.mem_append.1 ho with ho | ho
    · rcases List.mem_append.1 ho with ho | ho
      · split at ho
        · cases ho
        · rw [List.mem_singleton.1 ho]
          exact ⟨fun h => absurd h (by show (3 : Int) ≠ 4; decide), fun h => absurd h (by show (3 : Int) ≠ 6; decide)⟩
      · obtain ⟨b, hb, rfl⟩ := List.mem_map.1 ho
        obtain ⟨hb, hn⟩ := List.mem_filter.1 hb
        refine ⟨fun h => absurd h (by show (6 : Int) ≠ 4; decide), fun _ x hx y' hy' h1 h2 b' hb' c hc h3 h4 hac => ?_⟩
        have hyy : y' = y := ids_inj (f := fun x : SB => x.1.id) (goodL_ids hB) hy' hy h2
        subst hyy
        have hw : ∃ z, ofSB A y'.1 = some z ∧ b ∈ z.2 := by
          unfold wasB at hb
          cases hz : ofSB A y'.1 with
          | none => rw [hz] at hb; cases hb
          | some z => rw [hz] at hb; exact ⟨z, rfl, hb⟩
        obtain ⟨z, hz, hbz⟩ := hw
        have hzm := List.mem_of_find?_eq_some hz
        have hze : y'.1 = z.1 := by
          have h5 := List.find?_some hz
          exact of_decide_eq_true h5
        have hxz : x = z := ids_inj (f := fun x : SB => x.1.id) (goodL_ids hA) hx hzm (by show x.1.id = z.1.id; rw [h1, ← hze]; rfl)
        subst hxz
        have hbb : b' = b := ids_inj (f := fun b : Bk => b.id) (goodL_rise hA hx) hb' hbz h3
        subst hbb
        have hat : atL y'.2 b' = none := by simpa using hn
        have := List.find?_eq_none.1 hat c hc
        unfold sameAt at this
        have h4 : c.id = b'.id := h4
        rw [h4, hac.1, hac.2] at this
        simp at this
    · obtain ⟨b, hb, ho⟩ := List.mem_flatMap.1 ho
      unfold bkOps at ho
      have key : o.kind = 5 ∨ o.kind = 8 ∨ o.kind = 7 := by
        rcases List.mem_append.1 ho with ho | ho
        · rcases List.mem_append.1 ho with ho | ho
          · split at ho
            · cases ho
            · rw [List.mem_singleton.1 ho]; exact .inl rfl
          · split at ho
            · rw [List.mem_singleton.1 ho]; exact .inr (.inl rfl)
            · cases ho
        · split at ho
          · rw [List.mem_singleton.1 ho]; exact .inr (.inr rfl)
          · cases ho
      exact ⟨fun h => by omega, fun h => by omega⟩

theorem addBlk (A : Addr) (n : Nat) : (A.add n).block = A.block := by unfold Addr.add; split <;> rfl
theorem noMore_tail {b1 b2 : Nat} {s t : Sv} {k k' : Sl} (hne : b1 ≠ b2) (h1 : Var w b1 (s.c k) Ty.api_Service) (h2 : Var w b2 (t.c k') Ty.api_Service) (hst : s ≠ t) {K Q : World → Prop} (hK : ∀ w', Chg (fun q => q = b1 ∨ q = b2) w w' → K w') :
    ∃ s52 : Sl, ∃ w53 : World, Sem.run Try.prog (Instr.buildSlice Ty.Sl_api_Backend 0 #[]) w = .ok (.slice s52.a s52.len s52.cap) w53 ∧
      ∃ s54 : Sl, ∃ w55 : World, Sem.run Try.prog (Instr.buildSlice Ty.Sl_api_Backend 0 #[]) w53 = .ok (.slice s54.a s54.len s54.cap) w55 ∧
      (∃ u : Value, w55.cell? (Addr.add ⟨b1, 0, none⟩ 22) = some u) ∧ w55.frozen? (Addr.add ⟨b1, 0, none⟩ 22) = false ∧ Nx (w55.setCell (Addr.add ⟨b1, 0, none⟩ 22) (.slice s52.a s52.len s52.cap)) fun w56 =>
      (∃ u : Value, w56.cell? (Addr.add ⟨b2, 0, none⟩ 22) = some u) ∧ w56.frozen? (Addr.add ⟨b2, 0, none⟩ 22) = false ∧ Nx (w56.setCell (Addr.add ⟨b2, 0, none⟩ 22) (.slice s54.a s54.len s54.cap)) fun w57 =>
      ∃ l58 : List Value, rdCells w57 ⟨b1, 0, none⟩ 0 23 = some l58 ∧ ∃ l59 : List Value, rdCells w57 ⟨b2, 0, none⟩ 0 23 = some l59 ∧
      Calls Try.prog F.ref20_Same #[.agg l58.toArray, .agg l59.toArray] w57 fun e61 w60 => ∃ b62 : Bool, e61 = .returned (.bool b62) ∧ (b62 = true → Q w60) ∧ (b62 = false → K w60) := by
  have hxa : Ext w (w.alloc (.cells #[] Ty.api_Backend)) := Chg.alloc (.refl _ _) _
  have hxb : Ext (w.alloc (.cells #[] Ty.api_Backend)) ((w.alloc (.cells #[] Ty.api_Backend)).alloc (.cells #[] Ty.api_Backend)) := Chg.alloc (.refl _ _) _
  have hX := Ext.trans hxa hxb
  have h1' := h1.ext hX
  have h2' := h2.ext hX
  refine ⟨⟨some ⟨w.heap.size, 0, none⟩, 0, 0⟩, _, buildBk0 w, ⟨some ⟨(w.alloc (.cells #[] Ty.api_Backend)).heap.size, 0, none⟩, 0, 0⟩, _, buildBk0 _, ⟨_, (scell h1').2.2.2.2.2.2⟩, by rw [add_mk]; exact Blk.frozen h1' _ rfl, ?_⟩
  rw [add_mk]
  refine nxSet h1' fun w56 hv56 hc56 hs56 => ?_
  have h2'' := h2'.chg hc56 (fun e => hne e.symm)
  refine ⟨⟨_, (scell h2'').2.2.2.2.2.2⟩, by rw [add_mk]; exact Blk.frozen h2'' _ rfl, ?_⟩
  rw [add_mk]
  refine nxSet h2'' fun w57 hv57 hc57 hs57 => ?_
  have e1 : (s.c k).set (0 + 22) (.slice (some ⟨w.heap.size, 0, none⟩) 0 0) = s.c ⟨some ⟨w.heap.size, 0, none⟩, 0, 0⟩ := s.set22 k ⟨some ⟨w.heap.size, 0, none⟩, 0, 0⟩
  have e2 : (t.c k').set (0 + 22) (.slice (some ⟨(w.alloc (.cells #[] Ty.api_Backend)).heap.size, 0, none⟩) 0 0) = t.c ⟨some ⟨(w.alloc (.cells #[] Ty.api_Backend)).heap.size, 0, none⟩, 0, 0⟩ := t.set22 k' ⟨some ⟨(w.alloc (.cells #[] Ty.api_Backend)).heap.size, 0, none⟩, 0, 0⟩
  rw [e1] at hv56
  rw [e2] at hv57
  have hv56' := hv56.chg hc57 hne
  have hz : ∀ (a : Addr) (w' : World), BR w' ⟨some a, 0, 0⟩ [] := fun a w' => ⟨rfl, fun h => (by cases h), fun b hb => by
    show rdCells w' b 0 (0 * 21) = some []
    rw [Nat.zero_mul]; rfl⟩
  refine ⟨_, hv56'.rd (Sv.c_length _ _), _, hv57.rd (Sv.c_length _ _), (ref20_Same s t _ _ (hz _ _) (hz _ _) (by simp)).use ?_⟩
  rintro _ w60 ⟨rfl, hx60⟩
  have hC : Chg (fun q => q = b1 ∨ q = b2) w w60 := (Chg.of_ext hX).trans ((Chg.mono hc56 fun _ _ h => .inl h).trans ((Chg.mono hc57 fun _ _ h => .inr h).trans (Chg.of_ext hx60)))
  have : (decide (s = t) && decide (([] : List Bk) = [])) = false := by rw [decide_eq_false hst]; rfl
  exact ⟨_, rfl, fun h => (by rw [this] at h; cases h), fun _ => hK _ hC⟩

theorem law_ConfNoMore {t u : Sl} {X Y : List SM} (hX0 : SvIn w t X) (hY0 : SvIn w u Y) : Ret Try.prog F.law39_ConfNoMore #[.slice t.a t.len t.cap, .slice u.a u.len u.cap] w (fun v w' => v = .bool true ∧ Ext w w') := by
  refine W.law39_ConfNoMore_ok t u w _ ?_
  unfold W.law39_ConfNoMore
  refine (law39_Few hX0).use ?_
  rintro _ w1 ⟨s3, X3, rfl, hX3, o3, hx1, _⟩
  refine ⟨s3, rfl, (law39_Few (hY0.ext hx1)).use ?_⟩
  rintro _ w4 ⟨s6, Y6, rfl, hY6, o6, hx4, _⟩
  have o3' := o3.ext hx4
  refine ⟨s6, rfl, (law39_Few o3'.in).use ?_⟩
  rintro _ w7 ⟨s9, X9, rfl, hX9, o9, hx7, _⟩
  have o6' := o6.ext hx7
  refine ⟨s9, rfl, (law39_Few o6'.in).use ?_⟩
  rintro _ w10 ⟨s12, Y12, rfl, hY12, o12, hx10, _⟩
  obtain ⟨A, hA⟩ : ∃ A, A = fewL (X.map SM.ab) := ⟨_, rfl⟩
  obtain ⟨B, hB⟩ : ∃ B, B = fewL (Y.map SM.ab) := ⟨_, rfl⟩
  rw [hX3, fewL_idem, ← hA] at hX9
  rw [hY6, fewL_idem, ← hB] at hY12
  rw [← hA] at hX3
  rw [← hB] at hY6
  have fewA : ∀ (Z : List SM) (C : List SB), Z.map SM.ab = fewL C → (∀ x ∈ Z, x.bs.length ≤ 18) ∧ Z.length ≤ 10 := fun Z C hZ => by
    refine ⟨fun x hx => ?_, ?_⟩
    · have : x.ab ∈ fewL C := by rw [← hZ]; exact List.mem_map.2 ⟨x, hx, rfl⟩
      obtain ⟨y, _, hy⟩ := List.mem_map.1 this
      have : x.bs = y.2.take 18 := (congrArg Prod.snd hy).symm
      rw [this, List.length_take]; omega
    · have := congrArg List.length hZ
      unfold fewL at this
      rw [List.length_map, List.length_map, List.length_take] at this; omega
  have sv : ∀ {w : World} {t : Sl} {Z : List SM} {C : List SB}, OwnSv w t Z → Z.map SM.ab = fewL C → SvL w t Z := fun h hZ => h.svL (fun x hx => by have := (fewA _ _ hZ).1 x hx; omega) (by have := (fewA _ _ hZ).2; omega)
  refine ⟨s12, rfl, (conf_Diff (sv (o9.ext hx10) (by rw [hX9, hA])) (sv o12 (by rw [hY12, hB]))).use ?_⟩
  rw [hX9, hY12]
  rintro _ w13 ⟨s15, O, rfl, hO, o15, hx13, _⟩
  have hX13 : Ext w w13 := Ext.trans hx1 (Ext.trans hx4 (Ext.trans hx7 (Ext.trans hx10 hx13)))
  refine ⟨s15, _, rfl, fun hne => (law39_lives w13).use ?_, fun heq => ?_⟩
  · rintro _ w17 ⟨rfl, hx17⟩
    exact ⟨_, rfl, rfl, Ext.trans hX13 hx17⟩
  have heq : diffE A B = 0 := by simpa using heq
  rw [if_pos heq] at hO
  have hgood : goodL A = true ∧ goodL B = true := by
    unfold diffE at heq
    split at heq
    · rename_i h; simpa using h
    · cases heq
  have hno := noMore hgood.1 hgood.2
  rw [← hO] at hno
  refine nxVar (vs := [.slice s3.a s3.len s3.cap]) rfl fun w20 hvx hx20 hs20 => nxVar (vs := [.slice s6.a s6.len s6.cap]) rfl fun w21 hvy hx21 hs21 => ?_
  have hX21 : Ext w13 w21 := Ext.trans hx20 hx21
  have L3 : SvL w21 s3 X3 := sv (o3'.ext (Ext.trans hx7 (Ext.trans hx10 (Ext.trans hx13 hX21)))) (by rw [hX3, hA])
  have L6 : SvL w21 s6 Y6 := sv (o6'.ext (Ext.trans hx10 (Ext.trans hx13 hX21))) (by rw [hY6, hB])
  have S15 : Src 51 w21 s15 (opsC O) := (o15.ext hX21).src
  have hol : s15.len = O.length := by have := S15.len; rw [opsC_length] at this; omega
  have hvx := hvx.ext hx21
  have hmX : ∀ {i : Nat} (hi : i < X3.length), (X3[i]).ab ∈ A := fun {i} hi => by rw [← hX3]; exact List.mem_map.2 ⟨_, List.getElem_mem hi, rfl⟩
  have hmY : ∀ {i : Nat} (hi : i < Y6.length), (Y6[i]).ab ∈ B := fun {i} hi => by rw [← hY6]; exact List.mem_map.2 ⟨_, List.getElem_mem hi, rfl⟩
  have hlO : O.length ≤ 1000000000 := by
    rw [hO]
    unfold diffL
    rw [List.length_append, List.length_map]
    have h1 := List.length_filter_le (fun x : SB => (ofSB B x.1).isNone) A
    have hA10 : A.length ≤ 10 := by rw [← hX3, List.length_map]; exact (fewA X3 _ (by rw [hX3, hA])).2
    have hB10 : B.length ≤ 10 := by rw [← hY6, List.length_map]; exact (fewA Y6 _ (by rw [hY6, hB])).2
    have hA18 : ∀ x ∈ A, x.2.length ≤ 18 := fun x hx => by
      rw [← hX3] at hx
      obtain ⟨z, hz, rfl⟩ := List.mem_map.1 hx
      exact (fewA X3 _ (by rw [hX3, hA])).1 z hz
    have hB18 : ∀ x ∈ B, x.2.length ≤ 18 := fun x hx => by
      rw [← hY6] at hx
      obtain ⟨z, hz, rfl⟩ := List.mem_map.1 hx
      exact (fewA Y6 _ (by rw [hY6, hB])).1 z hz
    have h2 := flatMap_len (fun y : SB => svOps (wasB A y.1) (ofSB A y.1).isSome y) 4001 B fun y hy => svOps_len (by
      unfold wasB
      cases hf : ofSB A y.1 with
      | none => simp
      | some x => have := hA18 x (List.mem_of_find?_eq_some hf); simp; omega) (by have := hB18 y hy; omega)
    omega
  refine ⟨fun n w' => ∃ i : Nat, n = i ∧ i ≤ O.length ∧ Ext w21 w', fun n _ => (s15.len - n).toNat, ⟨0, rfl, Nat.zero_le _, .refl _ _⟩, ?_⟩
  rintro _ w25 ⟨i, rfl, hi, hx25⟩
  refine ⟨fun hlt => ?_, fun hge => (law39_lives w25).use ?_⟩
  · have hlt : (i : Int) < ((s15.len : Nat) : Int) := of_decide_eq_true hlt
    have hlt : i < O.length := by omega
    obtain ⟨o, hoe⟩ : ∃ o, o = O[i] := ⟨_, rfl⟩
    have hom : NoMore A B o := hno o (by rw [hoe]; exact List.getElem_mem _)
    have ew : IntKind.wrap .i64 ((i : Int) + 1) = ((i + 1 : Nat) : Int) := by rw [wrapi (by omega) (by omega)]; rfl
    have hms : (((s15.len : Nat) : Int) - ((i + 1 : Nat) : Int)).toNat < (((s15.len : Nat) : Int) - (i : Int)).toNat := by omega
    obtain ⟨A0, hA0, hbd, _⟩ := OpM.get S15 hlt
    have hcell : ∀ (w' : World), Ext w21 w' → ∀ (j : Nat) (v : Value), o.c[j]? = some v → w'.cell? ((A0.add (Int.toNat (i : Int) * 51)).add j) = some v := fun w' hx j v hv => by
      obtain ⟨A1, hA1, _, hrd⟩ := OpM.get (S15.ext hx) hlt
      rw [hA0] at hA1; cases hA1
      rw [← hoe] at hrd
      have := rdGet hrd hv
      rwa [Nat.zero_add] at this
    have hkind : ∀ (w' : World), Ext w21 w' → w'.cell? (A0.add (Int.toNat (i : Int) * 51)) = some (.int .i64 o.kind) := fun w' hx => by
      have := hcell w' hx 0 _ rfl
      rwa [add_zero'] at this
    refine Jn0 (fun w' => Ext w21 w') (fun q hq => ?_) (fun w' hx => by rw [ew]; exact ⟨⟨i + 1, rfl, hlt, hx⟩, hms⟩)
    have hd : Ext w25 w25.drew := Chg.drew (.refl _ _)
    have hx27 := Ext.trans hx25 hd
    refine nx ⟨fun _ => False, A0, hA0, hbd, id, o.id, hcell _ hx27 2 _ rfl, A0, hA0, hbd, id, o.id, hcell _ hx27 2 _ rfl, (ref20_At (hvx.ext hx27) (L3.ext hx27) o.id).use ?_⟩
    rintro _ _ ⟨rfl, rfl⟩
    refine ⟨_, rfl, .refl _ _, (ref20_At (hvy.ext hx27) (L6.ext hx27) o.id).use ?_⟩
    rintro _ _ ⟨rfl, rfl⟩
    -- the places of the service in both lists
    have place : ∀ (Z : List SM), (∃ (k : Nat) (h : k < Z.length), idxG (fun x : SM => x.s.id == o.id) Z = k ∧ (Z[k]).s.id = o.id) ∨ idxG (fun x : SM => x.s.id == o.id) Z = -1 := fun Z => by
      rcases idxG_cases (fun x : SM => x.s.id == o.id) Z with ⟨k, h, he, hf⟩ | ⟨he, _⟩
      · have h5 := List.find?_some hf
        exact .inl ⟨k, h, he, eq_of_beq h5⟩
      · exact .inr he
    refine ⟨_, rfl, Jn0 (fun w' => Ext w21 w') (fun q2 hq2 => ⟨A0, hA0, hbd, o.kind, hkind _ hx27, fun hc => ?_, fun _ => hq2 _ hx27⟩) ?_⟩
    · simp only [Bool.and_eq_true, beq_iff_eq, decide_eq_true_eq] at hc
      obtain ⟨⟨hk4, hp1⟩, hp2⟩ := hc
      rcases place X3 with ⟨k1, hk1, e1, i1⟩ | e1
      · rcases place Y6 with ⟨k2, hk2, e2, i2⟩ | e2
        · rw [e1, e2]
          have hst : (X3[k1]).s ≠ (Y6[k2]).s := hom.1 hk4 _ (hmX hk1) _ (hmY hk2) i1 i2
          have hd2 : Ext w25.drew w25.drew.drew := Chg.drew (.refl _ _)
          have hx42 := Ext.trans hx27 hd2
          obtain ⟨B1, hB1, hbd1, hr1⟩ := (L3.ext hx42).get hk1
          obtain ⟨B2, hB2, hbd2, hr2⟩ := (L6.ext hx42).get hk2
          have hb1 : ¬ (w25.drew.drew.heap.size ≤ (B1.add (Int.toNat (k1 : Int) * 23)).block) := by
            rw [addBlk]
            have := (o3'.ext (Ext.trans hx7 (Ext.trans hx10 (Ext.trans hx13 (Ext.trans hX21 hx42))))).o.lt _ ⟨B1, hB1, rfl⟩
            omega
          have hb2 : ¬ (w25.drew.drew.heap.size ≤ (B2.add (Int.toNat (k2 : Int) * 23)).block) := by
            rw [addBlk]
            have := (o6'.ext (Ext.trans hx10 (Ext.trans hx13 (Ext.trans hX21 hx42)))).o.lt _ ⟨B2, hB2, rfl⟩
            omega
          have fin : ∀ {w51 : World} {x1 x2 : Nat}, Ext w25.drew.drew w51 → w25.drew.drew.heap.size ≤ x1 → w25.drew.drew.heap.size ≤ x2 → ∀ w', Chg (fun q => q = x1 ∨ q = x2) w51 w' → q2 w' := fun hx h1 h2 w' hc =>
            hq2 _ (Ext.trans hx42 (Ext.of_new hx hc fun q hq => by rcases hq with rfl | rfl <;> assumption))
          refine nx ⟨fun q => w25.drew.drew.heap.size ≤ q, B1, hB1, hbd1, hb1, _, hr1, B2, hB2, hbd2, hb2, _, hr2, ?_, ?_⟩
          · refine nxVar (vs := Sv.zero.c nilS) (by kernel_rfl) fun w48 hv48 hx48 hs48 => ⟨Chg.of_ext hx48, nxVar (vs := Sv.zero.c nilS) (by kernel_rfl) fun w49 hv49 hx49 hs49 => ⟨Chg.of_ext hx49, ?_⟩⟩
            have hv48' := hv48.ext hx49
            have hlt48 := hv48.lt
            refine ⟨hv48'.storeOk (by simp [Sv.c_length]) (Sv.plain _ _), by simp [Sv.c_length], nxPut hv48' (us := (X3[k1]).s.c (X3[k1]).k) (by simp [Sv.c_length]) rfl fun w50 hv50 hc50 hs50 => ⟨Chg.mono hc50 fun q _ e => by omega, ?_⟩⟩
            have hv49' := hv49.chg hc50 (by omega)
            refine ⟨hv49'.storeOk (by simp [Sv.c_length]) (Sv.plain _ _), by simp [Sv.c_length], nxPut hv49' (us := (Y6[k2]).s.c (Y6[k2]).k) (by simp [Sv.c_length]) rfl fun w51 hv51 hc51 hs51 => ?_⟩
            have hv50' := hv50.chg hc51 (by omega)
            have hx51 : Ext w25.drew.drew w51 := Ext.of_chg (Ext.of_chg (Ext.trans hx48 hx49) hc50 (Nat.le_refl _)) hc51 hx48.size
            exact noMore_tail (by omega) hv50' hv51 hst (fin hx51 (Nat.le_refl _) hx48.size)
          · refine nxVar (vs := Sv.zero.c nilS) (by kernel_rfl) fun w48 hv48 hx48 hs48 => ⟨Chg.of_ext hx48, nxVar (vs := Sv.zero.c nilS) (by kernel_rfl) fun w49 hv49 hx49 hs49 => ⟨Chg.of_ext hx49, ?_⟩⟩
            have hv48' := hv48.ext hx49
            have hlt48 := hv48.lt
            refine ⟨hv49.storeOk (by simp [Sv.c_length]) (Sv.plain _ _), by simp [Sv.c_length], nxPut hv49 (us := (X3[k1]).s.c (X3[k1]).k) (by simp [Sv.c_length]) rfl fun w50 hv50 hc50 hs50 => ⟨Chg.mono hc50 fun q _ e => by have := hx48.size; omega, ?_⟩⟩
            have hv48'' := hv48'.chg hc50 (by omega)
            refine ⟨hv48''.storeOk (by simp [Sv.c_length]) (Sv.plain _ _), by simp [Sv.c_length], nxPut hv48'' (us := (Y6[k2]).s.c (Y6[k2]).k) (by simp [Sv.c_length]) rfl fun w51 hv51 hc51 hs51 => ?_⟩
            have hv50' := hv50.chg hc51 (by omega)
            have hx51 : Ext w25.drew.drew w51 := Ext.of_chg (Ext.of_chg (Ext.trans hx48 hx49) hc50 hx48.size) hc51 (Nat.le_refl _)
            exact noMore_tail (by omega) hv50' hv51 hst (fin hx51 hx48.size (Nat.le_refl _))
        · rw [e2] at hp2; exact absurd hp2 (by decide)
      · rw [e1] at hp1; exact absurd hp1 (by decide)
    intro w78 hx78
    refine ⟨A0, hA0, hbd, o.kind, hkind _ hx78, fun _ => hq _ hx78, fun hc => ?_⟩
    simp only [Bool.or_eq_false_iff, bne_eq_false_iff_eq, decide_eq_false_iff_not] at hc
    obtain ⟨⟨hk6, hp1⟩, hp2⟩ := hc
    rcases place X3 with ⟨k1, hk1, e1, i1⟩ | e1
    rcases place Y6 with ⟨k2, hk2, e2, i2⟩ | e2
    · rw [e1, e2]
      have hd2 : Ext w78 w78.drew := Chg.drew (.refl _ _)
      have hx81 := Ext.trans hx78 hd2
      obtain ⟨B1, hB1, hbd1, hr1⟩ := (L3.ext hx81).get hk1
      obtain ⟨B2, hB2, hbd2, hr2⟩ := (L6.ext hx81).get hk2
      have hm1 : X3[k1] ∈ X3 := List.getElem_mem hk1
      have hm2 : Y6[k2] ∈ Y6 := List.getElem_mem hk2
      refine nx ⟨fun _ => False, B1, hB1, hbd1, id, _, hr1, A0, hA0, hbd, id, o.bid, hcell _ hx81 3 _ rfl, B2, hB2, hbd2, id, _, hr2, A0, hA0, hbd, id, o.bid, hcell _ hx81 3 _ rfl, (ref20_Has (X3[k1]).s (X3[k1]).k ((L3.ext hx81).bk _ hm1) (by have := L3.few _ hm1; omega) o.bid).use ?_⟩
      rintro _ w91 ⟨rfl, hx91⟩
      have hX91 := Ext.trans hx81 hx91
      refine ⟨_, rfl, hx91, (ref20_Has (Y6[k2]).s (Y6[k2]).k ((L6.ext hX91).bk _ hm2) (by have := L6.few _ hm2; omega) o.bid).use ?_⟩
      rintro _ w94 ⟨rfl, hx94⟩
      have hd3 : Ext w94 w94.drew := Chg.drew (.refl _ _)
      have hX97 : Ext w21 w94.drew := Ext.trans hX91 (Ext.trans hx94 hd3)
      have placeB : ∀ (l : List Bk), (∃ (k : Nat) (h : k < l.length), idxG (fun b : Bk => b.id == o.bid) l = k ∧ (l[k]).id = o.bid) ∨ idxG (fun b : Bk => b.id == o.bid) l = -1 := fun l => by
        rcases idxG_cases (fun b : Bk => b.id == o.bid) l with ⟨k, h, he, hf⟩ | ⟨he, _⟩
        · have h5 := List.find?_some hf
          exact .inl ⟨k, h, he, eq_of_beq h5⟩
        · exact .inr he
      refine ⟨_, rfl, nx ⟨fun hp => ⟨fun hq3 => ?_, fun _ => ⟨fun h => (by cases h), fun _ => hq _ hX97⟩⟩, fun _ => ⟨fun h => (by cases h), fun _ => hq _ hX97⟩⟩⟩
      rcases placeB (X3[k1]).bs with ⟨p, hp1, ep, ip⟩ | ep
      · rcases placeB (Y6[k2]).bs with ⟨p2, hp2, ep2, ip2⟩ | ep2
        · rw [ep, ep2]
          have hnot := hom.2 hk6 _ (hmX hk1) _ (hmY hk2) i1 i2 _ (List.getElem_mem hp1) _ (List.getElem_mem hp2) ip ip2
          obtain ⟨B1', hB1', hbd1', hr1'⟩ := (L3.ext hX97).get hk1
          obtain ⟨B2', hB2', hbd2', hr2'⟩ := (L6.ext hX97).get hk2
          have hs1 : w94.drew.cell? ((B1'.add (Int.toNat (k1 : Int) * 23)).add 22) = some (.slice (X3[k1]).k.a (X3[k1]).k.len (X3[k1]).k.cap) := by
            have := rdGet hr1' (j := 22) (v := .slice (X3[k1]).k.a (X3[k1]).k.len (X3[k1]).k.cap) (by simp [Sv.c, List.getElem?_append, Ad.c_length])
            rwa [Nat.zero_add] at this
          have hs2 : w94.drew.cell? ((B2'.add (Int.toNat (k2 : Int) * 23)).add 22) = some (.slice (Y6[k2]).k.a (Y6[k2]).k.len (Y6[k2]).k.cap) := by
            have := rdGet hr2' (j := 22) (v := .slice (Y6[k2]).k.a (Y6[k2]).k.len (Y6[k2]).k.cap) (by simp [Sv.c, List.getElem?_append, Ad.c_length])
            rwa [Nat.zero_add] at this
          obtain ⟨C1, hC1, hcb1, hcr1⟩ := BR.get ((L3.ext hX97).bk _ hm1) hp1
          obtain ⟨C2, hC2, hcb2, hcr2⟩ := BR.get ((L6.ext hX97).bk _ hm2) hp2
          have ha : ∀ (b : Bk), (b.c.drop 1).take 17 = b.addr.c := fun b => List.take_left' (Ad.c_length _)
          have ha1 := rdPart (k := 1) (m := 17) hcr1 (by decide)
          have ha2 := rdPart (k := 1) (m := 17) hcr2 (by decide)
          rw [ha] at ha1 ha2
          have hport : ∀ (b : Bk), b.c[18]? = some (.int .u16 b.port) := fun b => by simp [Bk.c, List.getElem?_append, Ad.c_length]
          have hq1 := rdGet hcr1 (hport _)
          have hq2 := rdGet hcr2 (hport _)
          rw [Nat.zero_add] at hq1 hq2
          refine ⟨B1', hB1', hbd1', id, _, hs1, C1, hC1, hcb1, id, _, ha1, B2', hB2', hbd2', id, _, hs2, C2, hC2, hcb2, id, _, ha2, _, eqAd _ _, fun hae => ?_, fun _ => ⟨fun h => (by cases h), fun _ => hq _ hX97⟩⟩
          have hae := of_decide_eq_true hae
          refine ⟨B1', hB1', hbd1', id, _, hs1, C1, hC1, hcb1, id, _, hq1, B2', hB2', hbd2', id, _, hs2, C2, hC2, hcb2, id, _, hq2, fun hpe => ?_, fun _ => hq _ hX97⟩
          exact absurd ⟨hae, by simpa using hpe⟩ hnot
        · rw [ep2] at hq3; exact absurd hq3 (by decide)
      · rw [ep] at hp; exact absurd hp (by decide)
    · rw [e2] at hp2; exact absurd (by decide) hp2
    · rw [e1] at hp1; exact absurd (by decide) hp1
  · rintro _ w116 ⟨rfl, hx116⟩
    exact ⟨_, rfl, rfl, Ext.trans hX13 (Ext.trans hX21 (Ext.trans hx25 hx116))⟩

end Go.Proofs.Ytldeegpcldhjaaa
