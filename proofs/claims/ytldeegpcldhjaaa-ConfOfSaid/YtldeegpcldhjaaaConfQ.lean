/- The plain law: good services, and the steps between two lists of them. -/
import Derived.Test.YtldeegpcldhjaaaConfP
namespace Go.Proofs.Ytldeegpcldhjaaa
open Go Gx

/-- Good services, in plain words. -/
structure GoodSB (A : List SB) : Prop where
  ids : A.Pairwise fun a b => a.1.id < b.1.id
  may : ∀ x ∈ A, mayS x.1 nilS = true
  doors : A.Pairwise fun a b => a.1.door ≠ b.1.door
  len : A.length ≤ 8
  rise : ∀ x ∈ A, Rise x.2
  few : ∀ x ∈ A, x.2.length ≤ 16
  can : ∀ x ∈ A, ∀ b ∈ x.2, canB x.1 (undr b) = true

section
variable {P Q : List SB} {s : Sv} {l : List Bk}
theorem insBy_mid {α : Type} {f : α → Int} {x : α} {P Q : List α} (h1 : ∀ y ∈ P, f y < f x) (h2 : ∀ y ∈ Q, f x < f y) : insBy f x (P ++ Q) = P ++ x :: Q := by
  unfold insBy
  rw [List.filter_append, List.filter_append, List.filter_eq_self.2 (fun y hy => decide_eq_true (h1 y hy)), List.filter_eq_nil_iff.2 (fun y hy => by have := h2 y hy; simp; omega),
    List.filter_eq_nil_iff.2 (fun y hy => by have := h1 y hy; simp; omega), List.filter_eq_self.2 (fun y hy => decide_eq_true (h2 y hy))]
  simp
theorem addS_mid (h1 : ∀ y ∈ P, y.1.id < s.id) (h2 : ∀ y ∈ Q, s.id < y.1.id) (hm : mayS s nilS = true) (hd : ∀ y ∈ P ++ Q, y.1.door ≠ s.door) (hl : (P ++ Q).length < 8) :
    addService (P ++ Q) s nilS = (0, P ++ (s, []) :: Q) := by
  unfold addService
  have e1 : (P ++ Q).any (fun x => x.1.id == s.id) = false := List.any_eq_false.2 fun x hx => by
    rcases List.mem_append.1 hx with hx | hx
    · have := h1 x hx; simp; omega
    · have := h2 x hx; simp; omega
  have e2 : (P ++ Q).any (fun x => decide (x.1.door = s.door)) = false := List.any_eq_false.2 fun x hx => by simpa using hd x hx
  rw [if_pos hm, e1, e2, if_neg (by simp), if_neg (by omega), insBy_mid (f := fun x : SB => x.1.id) (x := (s, [])) h1 h2]
theorem addS_last (h0 : (addService P s nilS).1 = 0) (h1 : ∀ y ∈ P, y.1.id < s.id) : mayS s nilS = true ∧ (∀ y ∈ P, y.1.door ≠ s.door) ∧ P.length < 8 ∧ (addService P s nilS).2 = P ++ [(s, [])] := by
  unfold addService at h0 ⊢
  split at h0
  · rename_i hm
    split at h0
    · cases h0
    · rename_i ha
      split at h0
      · cases h0
      · rename_i hl
        rw [if_pos hm, if_neg ha, if_neg hl]
        refine ⟨hm, fun y hy he => ha ?_, by omega, ?_⟩
        · rw [Bool.or_eq_true]
          exact .inr (List.any_eq_true.2 ⟨y, hy, decide_eq_true he⟩)
        · have := insBy_mid (f := fun x : SB => x.1.id) (x := (s, [])) (P := P) (Q := []) h1 (by simp)
          rw [List.append_nil] at this
          exact this
  · cases h0
theorem layB_mid (h : Alone P Q s.id) : ∀ {bs l : List Bk} {L' : List SB}, layB s.id (P ++ (s, l) :: Q) bs = some L' → (∀ b ∈ bs, canB s (undr b) = true) ∧ (bs = [] ∨ l.length + bs.length ≤ 16) ∧ ∃ l', L' = P ++ (s, l') :: Q
  | [], l, L', e => by cases e; exact ⟨by simp, .inl rfl, l, rfl⟩
  | b :: bs, l, L', e => by
    simp only [layB] at e
    split at e
    · rename_i h0
      unfold addBackend at h0 e
      rw [find_mid h] at h0 e
      simp only at h0 e
      split at h0
      · rename_i hc
        split at h0
        · cases h0
        · rename_i hb
          split at h0
          · cases h0
          · rename_i hl
            rw [if_pos hc, if_neg hb, if_neg hl] at e
            simp only at e
            rw [upd_mid h] at e
            obtain ⟨i1, i2, i3⟩ := layB_mid h e
            refine ⟨fun c hc2 => ?_, .inr ?_, i3⟩
            · rcases List.mem_cons.1 hc2 with rfl | hc2
              · exact hc
              · exact i1 c hc2
            · have hlen : (insB (undr b) l).length = l.length + 1 := by unfold insB; simp; omega
              rw [hlen] at i2
              rcases i2 with rfl | i2
              · simp; omega
              · simp; omega
      · cases h0
    · cases e
end

theorem layS_last {L L' : List SB} {x : SB} (e : layS L x = some L') (h1 : ∀ y ∈ L, y.1.id < x.1.id) :
    mayS x.1 nilS = true ∧ (∀ y ∈ L, y.1.door ≠ x.1.door) ∧ L.length < 8 ∧ Rise x.2 ∧ x.2.length ≤ 16 ∧ (∀ b ∈ x.2, canB x.1 (undr b) = true) ∧ ∃ l', L' = L ++ [(x.1, l')] := by
  have hr := rise_of_map.1 (layS_rises e)
  unfold layS at e
  split at e
  · rename_i h0
    obtain ⟨a1, a2, a3, a4⟩ := addS_last h0 h1
    rw [a4] at e
    split at e
    · rename_i L1 hB
      obtain ⟨b1, b2, l', rfl⟩ := layB_mid ⟨fun y hy => by have := h1 y hy; omega, by simp⟩ hB
      split at e
      · cases e
        refine ⟨a1, a2, a3, hr, ?_, b1, l', rfl⟩
        rcases b2 with h | h
        · rw [h]; simp
        · simpa using h
      · cases e
    · cases e
  · cases e

theorem layAll_good : ∀ {X L L' : List SB}, layAll L X = some L' → (L ++ X).Pairwise (fun a b => a.1.id < b.1.id) → L.Pairwise (fun a b => a.1.door ≠ b.1.door) → L.length ≤ 8 →
    (∀ x ∈ X, mayS x.1 nilS = true ∧ Rise x.2 ∧ x.2.length ≤ 16 ∧ ∀ b ∈ x.2, canB x.1 (undr b) = true) ∧ (L ++ X).Pairwise (fun a b => a.1.door ≠ b.1.door) ∧ (L ++ X).length ≤ 8
  | [], L, L', _, _, hd, hl => ⟨by simp, by simpa using hd, by simpa using hl⟩
  | x :: X, L, L', e, hi, hd, hl => by
    simp only [layAll] at e
    split at e
    · rename_i L1 hS
      have h1 : ∀ y ∈ L, y.1.id < x.1.id := fun y hy => (List.pairwise_append.1 hi).2.2 y hy x (by simp)
      obtain ⟨a1, a2, a3, a4, a5, a6, l', rfl⟩ := layS_last hS h1
      have hmap : ((L ++ [(x.1, l')]) ++ X).map (·.1) = (L ++ x :: X).map (·.1) := by simp
      have hi2 : ((L ++ [(x.1, l')]) ++ X).Pairwise (fun a b => a.1.id < b.1.id) := by
        refine (List.pairwise_map (f := fun y : SB => y.1) (R := fun a b : Sv => a.id < b.id)).1 ?_
        rw [hmap]; exact List.pairwise_map.2 hi
      have hd2 : (L ++ [(x.1, l')]).Pairwise (fun a b => a.1.door ≠ b.1.door) := by
        rw [List.pairwise_append]
        exact ⟨hd, by simp, fun y hy z hz => by rw [List.mem_singleton.1 hz]; exact a2 y hy⟩
      obtain ⟨i1, i2, i3⟩ := layAll_good e hi2 hd2 (by simp; omega)
      refine ⟨fun y hy => ?_, ?_, by simpa using i3⟩
      · rcases List.mem_cons.1 hy with rfl | hy
        · exact ⟨a1, a4, a5, a6⟩
        · exact i1 y hy
      · refine (List.pairwise_map (f := fun y : SB => y.1) (R := fun a b : Sv => a.door ≠ b.door)).1 ?_
        rw [← hmap]; exact List.pairwise_map.2 i2
    · cases e
theorem goodL_good {A : List SB} (h : goodL A = true) : GoodSB A := by
  have hi := List.pairwise_map.1 (goodL_ids h)
  unfold goodL at h
  rw [Bool.and_eq_true] at h
  obtain ⟨L', e⟩ := Option.isSome_iff_exists.1 h.1
  obtain ⟨i1, i2, i3⟩ := layAll_good e (by simpa using hi) (by simp) (by simp)
  exact ⟨hi, fun x hx => (i1 x hx).1, by simpa using i2, by simpa using i3, fun x hx => (i1 x hx).2.1, fun x hx => (i1 x hx).2.2.1, fun x hx => (i1 x hx).2.2.2⟩

/-! ### Steps over services -/
theorem ofSB_iff {A : List SB} (h : A.Pairwise fun a b => a.1.id < b.1.id) (s : Sv) (x : SB) : ofSB A s = some x ↔ x ∈ A ∧ x.1 = s := by
  constructor
  · intro hx
    exact ⟨List.mem_of_find?_eq_some hx, by have := List.find?_some hx; exact (of_decide_eq_true this).symm⟩
  · rintro ⟨hx, rfl⟩
    cases hf : ofSB A x.1 with
    | none =>
      have := List.find?_eq_none.1 hf x hx
      exact absurd (decide_eq_true rfl) this
    | some y =>
      have h1 : y ∈ A := List.mem_of_find?_eq_some hf
      have h2 : x.1 = y.1 := by have := List.find?_some hf; exact of_decide_eq_true this
      rw [ids_inj (f := fun y : SB => y.1.id) (List.pairwise_map.2 h) h1 hx (by rw [h2])]
theorem left_svs {A B : List SB} (h1 : A.Pairwise fun a b => a.1.id < b.1.id) (h2 : B.Pairwise fun a b => a.1.id < b.1.id) : (A.filter fun x => !(ofSB B x.1).isNone) = B.filterMap fun y => ofSB A y.1 := by
  refine sorted_eq (f := fun y : SB => y.1.id) (List.Pairwise.filter _ h1) ?_ fun x => ?_
  · rw [List.pairwise_filterMap]
    exact h2.imp fun {a b} hab x hx y hy => by
      rw [((ofSB_iff h1 _ x).1 hx).2, ((ofSB_iff h1 _ y).1 hy).2]; exact hab
  · rw [List.mem_filter, List.mem_filterMap]
    constructor
    · rintro ⟨hx, hn⟩
      cases ha : ofSB B x.1 with
      | none => rw [ha] at hn; cases hn
      | some y =>
        obtain ⟨hy, hs⟩ := (ofSB_iff h2 _ y).1 ha
        exact ⟨y, hy, (ofSB_iff h1 _ x).2 ⟨hx, hs.symm⟩⟩
    · rintro ⟨y, hy, hxy⟩
      obtain ⟨hx, hs⟩ := (ofSB_iff h1 _ x).1 hxy
      refine ⟨hx, ?_⟩
      rw [(ofSB_iff h2 _ y).2 ⟨hy, hs.symm⟩]; rfl
theorem run_dropS (p : SB → Bool) : ∀ (R P : List SB), (P ++ R).Pairwise (fun a b => a.1.id < b.1.id) → runL (P ++ R) ((R.filter p).map fun x => oDropS x.1.id) = some (P ++ R.filter fun x => !p x)
  | [], P, _ => by simp [runL]
  | r :: R, P, h => by
    have hP : ∀ y ∈ P, y.1.id < r.1.id := fun y hy => (List.pairwise_append.1 h).2.2 y hy r (by simp)
    have hR : ∀ y ∈ R, r.1.id < y.1.id := fun y hy => (List.pairwise_cons.1 (List.pairwise_append.1 h).2.1).1 y hy
    cases hp : p r with
    | true =>
      rw [List.filter_cons_of_pos hp, List.map_cons, List.filter_cons_of_neg (by simp [hp])]
      simp only [runL]
      have e : doL (P ++ r :: R) (oDropS r.1.id) = (0, P ++ R) := by
        show dropService (P ++ r :: R) r.1.id = _
        unfold dropService
        rw [if_pos (List.any_eq_true.2 ⟨r, by simp, by simp⟩), List.filter_append, List.filter_cons_of_neg (by simp),
          List.filter_eq_self.2 (fun y hy => by have := hP y hy; simp; omega), List.filter_eq_self.2 (fun y hy => by have := hR y hy; simp; omega)]
      rw [e, if_pos rfl]
      exact run_dropS p R P (List.Pairwise.sublist (List.Sublist.append_left (List.sublist_cons_self _ _) _) h)
    | false =>
      rw [List.filter_cons_of_neg (by simp [hp]), List.filter_cons_of_pos (by simp [hp])]
      have := run_dropS p R (P ++ [r]) (by rw [List.append_assoc]; exact h)
      rw [List.append_assoc, List.append_assoc] at this
      exact this
theorem svOps_id {was bs : List Bk} {s : Sv} : ∀ o ∈ ((was.filter fun b => (atL bs b).isNone).map fun b => oDropB s.id b.id) ++ bs.flatMap (bkOps was s.id), o.id = s.id := by
  intro o ho
  rcases List.mem_append.1 ho with ho | ho
  · obtain ⟨b, _, rfl⟩ := List.mem_map.1 ho; rfl
  · obtain ⟨b, _, ho⟩ := List.mem_flatMap.1 ho
    unfold bkOps at ho
    rcases List.mem_append.1 ho with ho | ho
    · rcases List.mem_append.1 ho with ho | ho
      · split at ho
        · cases ho
        · rw [List.mem_singleton.1 ho]; rfl
      · split at ho
        · rw [List.mem_singleton.1 ho]; rfl
        · cases ho
    · split at ho
      · rw [List.mem_singleton.1 ho]; rfl
      · cases ho

theorem run_svs {A : List SB} (hA : A.Pairwise fun a b => a.1.id < b.1.id) (hAr : ∀ x ∈ A, Rise x.2) : ∀ (T P : List SB), GoodSB (P ++ T) →
    runL (P ++ T.filterMap fun y => ofSB A y.1) (T.flatMap fun y => svOps (wasB A y.1) (ofSB A y.1).isSome y) = some (P ++ T)
  | [], P, _ => by simp [runL]
  | y :: T, P, h => by
    have hP : ∀ z ∈ P, z.1.id < y.1.id := fun z hz => (List.pairwise_append.1 h.ids).2.2 z hz y (by simp)
    have hT : ∀ z ∈ T, y.1.id < z.1.id := fun z hz => (List.pairwise_cons.1 (List.pairwise_append.1 h.ids).2.1).1 z hz
    have hy : y ∈ P ++ y :: T := by simp
    have hQ : ∀ z ∈ T.filterMap (fun y => ofSB A y.1), ∃ x ∈ T, z.1 = x.1 := fun z hz => by
      obtain ⟨x, hx, hzx⟩ := List.mem_filterMap.1 hz
      exact ⟨x, hx, ((ofSB_iff hA _ z).1 hzx).2⟩
    have hT' : ∀ z ∈ T.filterMap (fun y => ofSB A y.1), y.1.id < z.1.id := fun z hz => by
      obtain ⟨x, hx, e⟩ := hQ z hz; rw [e]; exact hT x hx
    have hal : Alone P (T.filterMap fun y => ofSB A y.1) y.1.id := ⟨fun z hz => by have := hP z hz; omega, fun z hz => by have := hT' z hz; omega⟩
    have next := run_svs hA hAr T (P ++ [y]) (by rw [List.append_assoc]; exact h)
    rw [List.append_assoc, List.append_assoc] at next
    have key : runL (P ++ (y :: T).filterMap fun y => ofSB A y.1) (svOps (wasB A y.1) (ofSB A y.1).isSome y) = some (P ++ y :: T.filterMap fun y => ofSB A y.1) := by
      cases hf : ofSB A y.1 with
      | some x =>
        obtain ⟨hx, hxs⟩ := (ofSB_iff hA _ x).1 hf
        obtain ⟨s, was⟩ := x
        obtain ⟨s', bs⟩ := y
        cases hxs
        have hw : wasB A s = was := by unfold wasB; rw [hf]; rfl
        simp only [List.filterMap_cons, hf]
        rw [hw]
        exact run_focus hal svOps_id (run_sv (hAr _ hx) (h.rise _ hy) (h.can _ hy) (h.few _ hy))
      | none =>
        have hw : wasB A y.1 = [] := by unfold wasB; rw [hf]; rfl
        simp only [List.filterMap_cons, hf]
        rw [hw]
        have e : svOps [] false y = oAddS y.1 :: ((([] : List Bk).filter fun b => (atL y.2 b).isNone).map (fun b => oDropB y.1.id b.id) ++ y.2.flatMap (bkOps [] y.1.id)) := rfl
        show runL _ (svOps [] false y) = _
        rw [e]
        simp only [runL]
        have e2 : doL (P ++ T.filterMap fun y => ofSB A y.1) (oAddS y.1) = (0, P ++ (y.1, []) :: T.filterMap fun y => ofSB A y.1) := by
          refine addS_mid hP hT' (h.may _ hy) (fun z hz => ?_) ?_
          · have hd := List.pairwise_append.1 h.doors
            rcases List.mem_append.1 hz with hz | hz
            · exact hd.2.2 z hz y (by simp)
            · obtain ⟨x, hx, ex⟩ := hQ z hz
              rw [ex]
              exact ((List.pairwise_cons.1 hd.2.1).1 x hx).symm
          · have h1 := h.len
            have h2 := List.length_filterMap_le (fun y : SB => ofSB A y.1) T
            simp at h1 ⊢; omega
        rw [e2, if_pos rfl]
        exact run_focus hal svOps_id (run_sv (List.Pairwise.nil) (h.rise _ hy) (h.can _ hy) (h.few _ hy))
    rw [List.flatMap_cons, runL_app, key, Option.bind_some]
    exact next

/-- The steps from the one to the other make the other. -/
theorem run_diff {A B : List SB} (hA : GoodSB A) (hB : GoodSB B) : runL A (diffL A B) = some B := by
  unfold diffL
  have e := run_dropS (fun x => (ofSB B x.1).isNone) A [] hA.ids
  rw [List.nil_append, List.nil_append, left_svs hA.ids hB.ids] at e
  rw [runL_app, e, Option.bind_some]
  exact run_svs hA.ids hA.rise B [] hB
theorem bkOps_self {l : List Bk} (h : Rise l) {b : Bk} (hb : b ∈ l) (id : Int) : bkOps l id b = [] := by
  have e : atL l b = some b := (atL_iff h b b).2 ⟨hb, by unfold sameAt; simp⟩
  unfold bkOps
  rw [e]
  simp
theorem diff_self {A : List SB} (hA : GoodSB A) : diffL A A = [] := by
  have hs : ∀ x ∈ A, ofSB A x.1 = some x := fun x hx => (ofSB_iff hA.ids _ x).2 ⟨hx, rfl⟩
  unfold diffL
  rw [List.filter_eq_nil_iff.2 (fun x hx => by rw [hs x hx]; simp), List.map_nil, List.nil_append, List.flatMap_eq_nil_iff]
  intro x hx
  have hw : wasB A x.1 = x.2 := by unfold wasB; rw [hs x hx]; rfl
  rw [hw, hs x hx]
  unfold svOps
  have hr := hA.rise x hx
  have he : ∀ b ∈ x.2, atL x.2 b = some b := fun b hb => (atL_iff hr b b).2 ⟨hb, by unfold sameAt; simp⟩
  rw [List.filter_eq_nil_iff.2 (fun b hb => by rw [he b hb]; simp), List.flatMap_eq_nil_iff.2 fun b hb => bkOps_self hr hb _]
  rfl
theorem GoodSB.nil : GoodSB [] := ⟨by simp, by simp, by simp, by simp, by simp, by simp, by simp⟩

end Go.Proofs.Ytldeegpcldhjaaa
