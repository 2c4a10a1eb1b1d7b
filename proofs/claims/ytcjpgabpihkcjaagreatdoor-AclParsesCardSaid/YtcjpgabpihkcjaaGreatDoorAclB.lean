/- Rules in slices, the first that hits, a rule's text. -/
import Derived.Test.YtcjpgabpihkcjaaGreatDoorAclA
import Derived.Great.FillDense
namespace Go.Proofs.YtcjpgabpihkcjaaGreatDoor
open Go Gx

/-! ### Rules in slices -/
def rsc (rs : List Ru) : List Value := rs.flatMap Ru.c
theorem rsc_length (rs : List Ru) : (rsc rs).length = rs.length * 40 := by
  induction rs with
  | nil => rfl
  | cons r rs ih =>
    show (r.c ++ rsc rs).length = _
    rw [List.length_append, ih, r.c_length, List.length_cons]; omega
theorem rsc_app (a b : List Ru) : rsc (a ++ b) = rsc a ++ rsc b := List.flatMap_append
theorem rsc_plain (rs : List Ru) : ∀ v ∈ rsc rs, Plain v := by
  intro v hv
  obtain ⟨r, _, h⟩ := List.mem_flatMap.1 hv
  exact r.plain v h
theorem rsc_at : ∀ {rs : List Ru} {i : Nat} (h : i < rs.length), ((rsc rs).drop (i * 40)).take 40 = (rs[i]).c
  | r :: rs, 0, _ => by
    show ((r.c ++ rsc rs).drop 0).take 40 = _
    rw [List.drop_zero, List.take_append_of_le_length (by rw [r.c_length]; decide), List.take_of_length_le (by rw [r.c_length]; decide)]; rfl
  | r :: rs, i + 1, h => by
    show ((r.c ++ rsc rs).drop ((i + 1) * 40)).take 40 = (rs[i]'(by simpa using h)).c
    rw [← rsc_at (rs := rs) (i := i) (by simpa using h), show (i + 1) * 40 = r.c.length + i * 40 by rw [r.c_length]; omega, List.drop_append, List.drop_of_length_le (Nat.le_add_right _ _), List.nil_append, Nat.add_sub_cancel_left]
theorem rd_of {w : World} {A : Addr} : ∀ (n i : Nat) (vs : List Value), vs.length = n → (∀ j v, vs[j]? = some v → w.cell? (A.add (i + j)) = some v) → rdCells w A i n = some vs
  | 0, i, vs, hl, _ => by
    cases vs with
    | nil => simp [rdCells]
    | cons _ _ => simp at hl
  | n + 1, i, vs, hl, h => by
    cases vs with
    | nil => simp at hl
    | cons v vs =>
      simp only [rdCells]
      rw [show w.cell? (A.add i) = some v from h 0 v rfl, rd_of n (i + 1) vs (by simpa using hl) (fun j x hx => by have := h (j + 1) x (by simpa using hx); rwa [show i + (j + 1) = i + 1 + j by omega] at this)]
theorem rd_part {w : World} {A : Addr} {n k m : Nat} {vs : List Value} (h : rdCells w A 0 n = some vs) (hk : k + m ≤ n) : rdCells w (A.add k) 0 m = some ((vs.drop k).take m) := by
  have hl := rdCells_length h
  refine rd_of m 0 _ (by simp; omega) fun j v hv => ?_
  rw [add_add, show k + (0 + j) = 0 + (k + j) by omega]
  refine rdCells_get h ?_
  rw [List.getElem?_take] at hv
  split at hv
  · rwa [List.getElem?_drop] at hv
  · cases hv
/-- Rules that can be read. -/
structure RS (w : World) (s : Sl) (rs : List Ru) : Prop where
  len : s.len = rs.length
  at' : ∀ {i : Nat} (h : i < rs.length), ∃ A, s.a = some A ∧ rdCells w (A.add (i * 40)) 0 40 = some (rs[i]).c
theorem RS.of {w : World} {s : Sl} {rs : List Ru} (h : Src 40 w s (rsc rs)) : RS w s rs := by
  have hl : s.len = rs.length := by have := h.len; rw [rsc_length] at this; omega
  refine ⟨hl, fun {i} hi => ?_⟩
  have hA : ∃ A, s.a = some A := by
    cases hs : s.a with
    | none =>
      have := congrArg List.length (h.nil hs)
      rw [rsc_length, List.length_nil] at this
      omega
    | some A => exact ⟨A, rfl⟩
  obtain ⟨A, hA⟩ := hA
  refine ⟨A, hA, ?_⟩
  rw [rd_part (h.rd A hA) (by rw [hl]; omega), rsc_at hi]
theorem RS.ext {w w' : World} {s : Sl} {rs : List Ru} (h : RS w s rs) (hx : Ext w w') : RS w' s rs :=
  ⟨h.len, fun {_} hi => by
    obtain ⟨A, hA, hr⟩ := h.at' hi
    exact ⟨A, hA, hx.rdCells (fun h => h) _ _ _ hr⟩⟩
theorem RS.get {w : World} {s : Sl} {rs : List Ru} (h : RS w s rs) {i : Nat} (hi : i < rs.length) : ∃ A, s.a = some A ∧ ((0 : Int) ≤ (i : Int) ∧ (i : Int) < ((s.len : Nat) : Int)) ∧ rdCells w (A.add (Int.toNat (i : Int) * 40)) 0 40 = some (rs[i]).c := by
  obtain ⟨A, hA, hr⟩ := h.at' hi
  refine ⟨A, hA, ⟨by omega, by have := h.len; omega⟩, ?_⟩
  rwa [Int.toNat_natCast]

/-! ### IndexFunc -/
def idxR (g : Ru → Bool) (rs : List Ru) : Int := if rs.findIdx g < rs.length then ((rs.findIdx g : Nat) : Int) else -1
theorem idxR_some {g : Ru → Bool} {rs : List Ru} {k : Nat} (h : k < rs.length) (h1 : g rs[k] = true) (h2 : ∀ (j : Nat) (hj : j < k), g (rs[j]'(by omega)) = false) : idxR g rs = k := by
  have e : rs.findIdx g = k := (List.findIdx_eq h).2 ⟨h1, fun j hj => h2 j hj⟩
  unfold idxR
  rw [e, if_pos h]
theorem idxR_none {g : Ru → Bool} {rs : List Ru} (h : ∀ (j : Nat) (hj : j < rs.length), g rs[j] = false) : idxR g rs = -1 := by
  unfold idxR
  rw [if_neg]
  intro hl
  have h1 := List.findIdx_getElem (w := hl)
  rw [h] at h1; cases h1
theorem idxR_cases (g : Ru → Bool) (rs : List Ru) : (∃ (k : Nat) (h : k < rs.length), idxR g rs = k ∧ g rs[k] = true ∧ ∀ (j : Nat) (hj : j < k), g (rs[j]'(by omega)) = false) ∨ (idxR g rs = -1 ∧ ∀ (j : Nat) (hj : j < rs.length), g rs[j] = false) := by
  unfold idxR
  by_cases hl : rs.findIdx g < rs.length
  · left
    rw [if_pos hl]
    refine ⟨_, hl, rfl, List.findIdx_getElem, fun j hj => ?_⟩
    have := List.not_of_lt_findIdx hj
    simpa using this
  · right
    rw [if_neg hl]
    refine ⟨rfl, fun j hj => ?_⟩
    have := List.not_of_lt_findIdx (p := g) (xs := rs) (i := j) (by omega)
    simpa using this

theorem IndexFunc (f : Fv) (g : Ru → Bool) {s : Sl} {rs : List Ru} {w : World} (hs : RS w s rs) (hn : rs.length ≤ 1000) (hc : Callable Tryz.prog f.f)
    (hf : ∀ w1, Ext w w1 → ∀ r, Ret Tryz.prog f.f (f.pre ++ #[.agg r.c.toArray] ++ f.cap) w1 (fun v w' => v = .bool (g r) ∧ Ext w1 w')) :
    Ret Tryz.prog F.slices_IndexFunc_Sl_api_Rule_api_Rule #[.slice s.a s.len s.cap, .func (.func f.f) f.pre f.cap] w (fun v w' => v = .int .i64 (idxR g rs) ∧ Ext w w') := by
  refine W.slices_IndexFunc_Sl_api_Rule_api_Rule_ok s f w _ ?_
  unfold W.slices_IndexFunc_Sl_api_Rule_api_Rule
  have hl := hs.len
  refine ⟨fun i w' => ∃ k : Nat, i = k ∧ k ≤ rs.length ∧ Ext w w' ∧ ∀ (j : Nat) (hj : j < k) (h2 : j < rs.length), g rs[j] = false, fun i _ => (s.len - i).toNat, ⟨0, rfl, Nat.zero_le _, .refl _ _, fun j hj => by omega⟩, ?_⟩
  rintro _ w4 ⟨k, rfl, hk, hx4, hno⟩
  refine ⟨fun h => ?_, fun h => ?_⟩
  · have hlt : (k : Int) < ((s.len : Nat) : Int) := of_decide_eq_true h
    have hlt : k < rs.length := by omega
    obtain ⟨A, hA, hb, hr⟩ := (hs.ext hx4).get hlt
    refine ⟨A, hA, hb, _, hr, hc, (hf w4 hx4 _).use ?_⟩
    rintro _ w7 ⟨rfl, hx7⟩
    have hX7 := Ext.trans hx4 hx7
    have hms : (((s.len : Nat) : Int) - ((k : Int) + 1)).toNat < (((s.len : Nat) : Int) - (k : Int)).toNat := by omega
    refine ⟨_, rfl, fun h => ⟨by rw [idxR_some hlt h (fun j hj => hno j hj (by omega))], hX7⟩, fun h => ?_⟩
    rw [wrapi (n := (k : Int) + 1) (by omega) (by omega)]
    refine ⟨⟨k + 1, by omega, hlt, hX7, fun j hj h2 => ?_⟩, hms⟩
    rcases Nat.lt_or_ge j k with h3 | h3
    · exact hno j h3 h2
    · have : j = k := by omega
      subst this; exact h
  · have hge : ¬((k : Int) < ((s.len : Nat) : Int)) := of_decide_eq_false h
    exact ⟨by rw [idxR_none (fun j hj => hno j (by omega) hj)], hx4⟩

theorem acl_First (f : Fl) {s : Sl} {rs : List Ru} {w : World} (hs : RS w s rs) (hn : rs.length ≤ 1000) (ht : Tab2 w) :
    Ret Tryz.prog F.acl_First #[.slice s.a s.len s.cap, .agg f.c.toArray] w (fun v w' => v = .tuple #[.int .i64 (idxR (fun r => hitsR r f) rs), .bool (decide (idxR (fun r => hitsR r f) rs < 0) || (rs[(idxR (fun r => hitsR r f) rs).toNat]?.map Ru.allow).getD false)] ∧ Ext w w') := by
  refine W.acl_First_ok s _ w _ ?_
  unfold W.acl_First
  refine nxVar (vs := f.c) rfl fun w1 hf hx1 _ => ?_
  refine (IndexFunc ⟨F.acl_First_1, #[], #[.pointer (some ⟨w.heap.size, 0, none⟩)]⟩ (fun r => hitsR r f) (hs.ext hx1) hn ⟨_, Tryz.func35, rfl, rfl⟩ (fun w2 hx2 r => ?_)).use ?_
  · refine W.acl_First_1_ok _ _ w2 _ ?_
    unfold W.acl_First_1
    refine nxVar (vs := r.c) rfl fun w3 hr hx3 _ => ⟨_, hr.rd r.c_length, _, ((hf.ext hx2).ext hx3).rd f.c_length, (acl_hits r f w3 (ht.ext (Ext.trans hx1 (Ext.trans hx2 hx3)))).use ?_⟩
    rintro _ w4 ⟨rfl, hx4⟩
    exact ⟨_, rfl, rfl, Ext.trans hx3 hx4⟩
  rintro _ w2 ⟨rfl, hx2⟩
  have hd : Ext w2 w2.drew := Chg.drew (.refl _ _)
  have hX : Ext w w2.drew := Ext.trans (Ext.trans hx1 hx2) hd
  rcases idxR_cases (fun r => hitsR r f) rs with ⟨k, hk, he, _, _⟩ | ⟨he, _⟩
  · rw [he]
    refine ⟨_, rfl, nx ⟨fun h => ?_, fun _ => ?_⟩⟩
    · have : (k : Int) < 0 := of_decide_eq_true h
      omega
    · obtain ⟨A, hA, hb, hr⟩ := (hs.ext hX).get hk
      refine ⟨A, hA, hb, id, (rs[k]).allow, ?_, ?_, hX⟩
      · have := rdCells_get hr (j := 39) (v := .bool (rs[k]).allow) (by simp [Ru.c, List.getElem?_append, Pf.c_length])
        exact this
      · have : ¬ (k : Int) < 0 := by omega
        simp [hk, this]
  · rw [he]
    exact ⟨_, rfl, nx ⟨fun _ => ⟨by simp, hX⟩, fun h => by simp at h⟩⟩

end Go.Proofs.YtcjpgabpihkcjaaGreatDoor
