/- What is left of rules says the same. -/
import Derived.Test.YtcjpgabpihkcjaaDoorAclE
namespace Go.Proofs.YtcjpgabpihkcjaaDoor
open Go Gx

theorem slL_mem {rs : List Ru} {i : Nat} (hi : i ≤ rs.length) {x : Ru} (h : x ∈ slL rs i) : ∃ (j : Nat) (hj : j < rs.length), j < i ∧ x = rs[j] := by
  unfold slL slI at h
  obtain ⟨j, hj, rfl⟩ := List.mem_map.1 h
  have hj := List.mem_range.1 (List.mem_filter.1 hj).1
  exact ⟨j, by omega, hj, getD_at (by omega)⟩
theorem sl_split (rs : List Ru) : ∀ (n p : Nat), p < (slL rs n).length → ∃ i, i < n ∧ idAt rs i = false ∧ (slL rs n)[p]? = some (rs.getD i r0) ∧ (slL rs n).take p = slL rs i
  | 0, p, h => by simp [slL, slI] at h
  | n + 1, p, h => by
    rw [slL_succ] at h ⊢
    rcases Nat.lt_or_ge p (slL rs n).length with h2 | h2
    · obtain ⟨i, h3, h4, h5, h6⟩ := sl_split rs n p h2
      exact ⟨i, by omega, h4, by rw [List.getElem?_append_left h2]; exact h5, by rw [List.take_append_of_le_length (by omega)]; exact h6⟩
    · cases hi : idAt rs n
      · rw [hi] at h
        simp only [Bool.false_eq_true, if_false, List.length_append, List.length_singleton] at h ⊢
        have hp : p = (slL rs n).length := by omega
        subst hp
        exact ⟨n, by omega, hi, by simp, by simp⟩
      · rw [hi] at h
        simp at h; omega
theorem idle_slim (rs : List Ru) : idL (slL rs rs.length) (slL rs rs.length).length = [] := by
  unfold idL
  rw [List.filter_eq_nil_iff]
  intro p hp
  have hp := List.mem_range.1 hp
  obtain ⟨i, h1, h2, h3, h4⟩ := sl_split rs rs.length p hp
  unfold idAt
  have e : (slL rs rs.length).getD p r0 = rs.getD i r0 := by rw [List.getD_eq_getElem?_getD, h3]; rfl
  rw [h4, e]
  unfold idAt at h2
  unfold idleR at h2 ⊢
  simp only [Bool.or_eq_false_iff] at h2
  rw [h2.1, Bool.false_or]
  intro hc
  obtain ⟨x, hx, hg⟩ := List.any_eq_true.1 hc
  obtain ⟨j, hj, hji, rfl⟩ := slL_mem (by omega) hx
  have := List.any_eq_false.1 h2.2 rs[j] (List.mem_take_iff_getElem.2 ⟨j, by omega, rfl⟩)
  exact this hg
theorem sl_first (rs : List Ru) (f : Fl) : (idxR (fun r => hitsR r f) rs = -1 ∧ idxR (fun r => hitsR r f) (slL rs rs.length) = -1) ∨
    ∃ (i m : Nat) (hi : i < rs.length) (hm : m < (slL rs rs.length).length), idxR (fun r => hitsR r f) rs = i ∧ idxR (fun r => hitsR r f) (slL rs rs.length) = m ∧ (slL rs rs.length)[m] = rs[i] := by
  rcases idxR_cases (fun r => hitsR r f) rs with ⟨i, hi, he, h1, h2⟩ | ⟨he, h⟩
  · right
    have hg : goodR rs[i] = true := by
      unfold hitsR at h1
      simp only [Bool.and_eq_true] at h1
      exact h1.1.1.1.1.1
    have hid : idAt rs i = false := by
      unfold idAt idleR
      rw [getD_at hi, hg]
      rw [Bool.or_eq_false_iff]
      refine ⟨rfl, List.any_eq_false.2 fun x hx hc => ?_⟩
      obtain ⟨j, hj, rfl⟩ := List.mem_take_iff_getElem.1 hx
      have := cov_hits hc h1
      rw [h2 j (by omega)] at this; cases this
    have hat := slL_at hi hid
    obtain ⟨hm, hv⟩ := List.getElem?_eq_some_iff.1 hat
    refine ⟨i, (slL rs i).length, hi, hm, he, ?_, by rw [hv, getD_at hi]⟩
    refine idxR_some hm (by rw [hv, getD_at hi]; exact h1) (fun j hj => ?_)
    obtain ⟨t, htt⟩ := slL_pre rs (k := i) (n := rs.length) (by omega)
    have e : (slL rs rs.length)[j]'(by omega) = (slL rs i)[j] := by
      simp only [htt]
      rw [List.getElem_append_left hj]
    rw [e]
    obtain ⟨q, hq, hqi, hx⟩ := slL_mem (by omega) (List.getElem_mem hj)
    rw [hx]
    exact h2 q hqi
  · left
    refine ⟨he, idxR_none fun j hj => ?_⟩
    obtain ⟨q, hq, _, hx⟩ := slL_mem (Nat.le_refl _) (List.getElem_mem hj)
    rw [hx]
    exact h q hq

theorem law_AclSame {s : Sl} {rs0 : List Ru} (f : Fl) (w : World) (ht : Tab2 w) (hs : Src 40 w s (rsc rs0)) (hc : s.len ≤ s.cap) : Ret Tryd.prog F.law32_AclSame #[.slice s.a s.len s.cap, .agg f.c.toArray] w (fun v w' => v = .bool true ∧ Ext w w') := by
  refine W.law32_AclSame_ok s _ w _ ?_
  unfold W.law32_AclSame
  refine nxVar (vs := f.c) rfl fun w1 hf hx1 _ => (law32_Few (hs.ext hx1) hc).use ?_
  rintro _ w2 ⟨s4, rfl, ho4, hx2⟩
  obtain ⟨rs, hrs⟩ : ∃ rs, rs = rs0.take 30 := ⟨_, rfl⟩
  rw [← hrs] at ho4
  have hn : rs.length ≤ 30 := by rw [hrs, List.length_take]; omega
  have et : rs.take 30 = rs := List.take_of_length_le hn
  have hX2 := Ext.trans hx1 hx2
  refine ⟨s4, rfl, (law32_Few ho4.src ho4.2.1).use ?_⟩
  rintro _ w5 ⟨s7, rfl, ho7, hx5⟩
  rw [et] at ho7
  have hX5 := Ext.trans hX2 hx5
  refine ⟨s7, rfl, (acl_Slim (RS.of ho7.src) ho7.2.1 (by omega) (ht.ext hX5)).use ?_⟩
  rintro _ w8 ⟨s10, rfl, ho10, hx8⟩
  have hX8 := Ext.trans hX5 hx8
  have hd : Ext w8 w8.drew := Chg.drew (.refl _ _)
  have hX11 := Ext.trans hX8 hd
  have hf11 := (((hf.ext hx2).ext hx5).ext hx8).ext hd
  have ho411 := ((ho4.ext hx5).ext hx8).ext hd
  refine ⟨s10, rfl, nx ⟨fun _ => False, id, _, hf11.rd f.c_length, (law32_Few ho411.src ho411.2.1).use ?_⟩⟩
  rintro _ w14 ⟨s16, rfl, ho16, hx14⟩
  rw [et] at ho16
  have hX14 := Ext.trans hX11 hx14
  refine ⟨s16, rfl, hx14, (acl_First f (RS.of ho16.src) (by omega) (ht.ext hX14)).use ?_⟩
  rintro _ w17 ⟨rfl, hx17⟩
  have hX17 := Ext.trans hX14 hx17
  have hf17 := (hf11.ext hx14).ext hx17
  have ho17 := ((ho10.ext hd).ext hx14).ext hx17
  have ho417 := (ho411.ext hx14).ext hx17
  have bS := slL_len rs rs.length
  have hz := idle_slim rs
  have hsf := sl_first rs f
  obtain ⟨X, hX⟩ : ∃ X, X = slL rs rs.length := ⟨_, rfl⟩
  rw [← hX] at ho17 bS hz hsf
  refine ⟨_, _, rfl, _, hf17.rd f.c_length, (acl_First f (RS.of ho17.src) (by omega) (ht.ext hX17)).use ?_⟩
  rintro _ w22 ⟨rfl, hx22⟩
  have hX22 := Ext.trans hX17 hx22
  have hd2 : Ext w22 w22.drew := Chg.drew (.refl _ _)
  have hX26 := Ext.trans hX22 hd2
  have ho26 := (ho17.ext hx22).ext hd2
  have hr26 : RS w22.drew s10 X := RS.of ho26.src
  have hr426 : RS w22.drew s4 rs := RS.of ((ho417.ext hx22).ext hd2).src
  refine ⟨_, _, rfl, nx ?_⟩
  rcases hsf with ⟨e1, e2⟩ | ⟨i, m, hi, hm, e1, e2, e3⟩
  · rw [e1, e2]
    refine ⟨fun _ => ⟨fun _ => ⟨fun _ => ?_, fun h => (by simp at h)⟩, fun h => (by simp at h)⟩, fun h => (by simp at h)⟩
    refine Jn1 (fun b w' => b = true ∧ Ext w22.drew w') (fun q hq => ⟨fun _ => (acl_Idle hr26 ho26.2.1 (by omega) (ht.ext hX26)).use ?_, fun h => by cases h⟩) ?_
    · rintro _ w28 ⟨s30, rfl, ho30, hx28⟩
      have h0 : s30.len = 0 := by have := ho30.1; rw [hz] at this; simp [natsV] at this; omega
      exact ⟨s30, rfl, hq _ _ ⟨by simp [h0], hx28⟩⟩
    rintro _ w32 ⟨rfl, hx32⟩
    have hX32 := Ext.trans hX26 hx32
    refine Jn1 (fun b w' => b = true ∧ Ext w w') (fun q hq => ⟨fun _ => (lives32 w32 (ht.ext hX32)).use ?_, fun h => by cases h⟩) ?_
    · rintro _ w41 ⟨rfl, hx41⟩
      exact ⟨_, rfl, hq _ _ ⟨rfl, Ext.trans hX32 hx41⟩⟩
    · rintro _ w45 ⟨rfl, hx45⟩
      exact ⟨rfl, hx45⟩
  · rw [e1, e2]
    have d1 : decide ((i : Int) < 0) = false := decide_eq_false (by omega)
    have d2 : decide ((m : Int) < 0) = false := decide_eq_false (by omega)
    have g1 : rs[(i : Int).toNat]? = some rs[i] := by simp [hi]
    have g2 : X[(m : Int).toNat]? = some rs[i] := by rw [← e3]; simp [hm]
    rw [d1, d2, g1, g2]
    refine ⟨fun _ => ⟨fun _ => ⟨fun h => (by cases h), fun _ => ⟨fun _ => ?_, fun h => ?_⟩⟩, fun h => (by simp at h)⟩, fun h => (by simp at h)⟩
    · obtain ⟨A1, hA1, hb1, hr1⟩ := hr26.get hm
      obtain ⟨A2, hA2, hb2, hr2⟩ := hr426.get hi
      rw [e3] at hr1
      refine ⟨A1, hA1, hb1, id, _, hr1, A2, hA2, hb2, id, _, hr2, _, eqRu _ _, ?_⟩
      refine Jn1 (fun b w' => b = true ∧ Ext w22.drew w') (fun q hq => ⟨fun _ => (acl_Idle hr26 ho26.2.1 (by omega) (ht.ext hX26)).use ?_, fun h => (by simp at h)⟩) ?_
      · rintro _ w28 ⟨s30, rfl, ho30, hx28⟩
        have h0 : s30.len = 0 := by have := ho30.1; rw [hz] at this; simp [natsV] at this; omega
        exact ⟨s30, rfl, hq _ _ ⟨by simp [h0], hx28⟩⟩
      rintro _ w32 ⟨rfl, hx32⟩
      have hX32 := Ext.trans hX26 hx32
      refine Jn1 (fun b w' => b = true ∧ Ext w w') (fun q hq => ⟨fun _ => (lives32 w32 (ht.ext hX32)).use ?_, fun h => by cases h⟩) ?_
      · rintro _ w41 ⟨rfl, hx41⟩
        exact ⟨_, rfl, hq _ _ ⟨rfl, Ext.trans hX32 hx41⟩⟩
      · rintro _ w45 ⟨rfl, hx45⟩
        exact ⟨rfl, hx45⟩
    · have hlen := hr26.len
      have h : ¬ ((m : Int) < ((s10.len : Nat) : Int)) := of_decide_eq_false h
      omega

end Go.Proofs.YtcjpgabpihkcjaaDoor
