/- The reference's text of a rule; the laws AclShows and AclParses. -/
import Derived.Test.YtcjpgabpihkcjaaGreatDoorAclG
namespace Go.Proofs.YtcjpgabpihkcjaaGreatDoor
open Go Gx

theorem ref32_Show {r : Ru} (hr : r.ok) (w : World) : Ret Tryz.prog F.ref32_Show #[.agg r.c.toArray] w (fun v w' => v = .string (S (showR r)) ∧ Ext w w') := by
  refine W.ref32_Show_ok _ w _ ?_
  unfold W.ref32_Show
  refine nxVar (vs := r.c) rfl fun w1 hv hx1 _ => ⟨_, hv.rd r.c_length, (ref32_Good r w1).use ?_⟩
  rintro _ w3 ⟨rfl, hx3⟩
  have hX3 := Ext.trans hx1 hx3
  have hv3 := hv.ext hx3
  refine ⟨_, rfl, fun h => ⟨by unfold showR; rw [if_neg (by simpa using h)]; rfl, hX3⟩, fun h => ?_⟩
  have hg : goodR r = true := by simpa using h
  have e32 : ByteArray.mk #[32] = S [32] := rfl
  have e45 : ByteArray.mk #[45] = S [45] := rfl
  obtain ⟨a8, ha8⟩ : ∃ a8 : List UInt8, a8 = if r.allow then [97, 108, 108, 111, 119, 32] else [100, 101, 110, 121, 32] := ⟨_, rfl⟩
  refine Jn1 (fun s w' => w3 = w' ∧ s = S a8) (fun q hq => ⟨r.allow, (rcell hv3).2.2.2.1, fun h => hq _ _ ⟨rfl, by rw [ha8, if_pos h]; rfl⟩, fun h => hq _ _ ⟨rfl, by rw [ha8, h]; rfl⟩⟩) ?_
  rintro _ _ ⟨rfl, rfl⟩
  have hp := hr.p
  have hl := hr.l
  have hh := hr.h
  obtain ⟨pr, hpr⟩ : ∃ n : Nat, r.proto = n := ⟨r.proto.toNat, by omega⟩
  obtain ⟨lo, hlo⟩ : ∃ n : Nat, r.low = n := ⟨r.low.toNat, by omega⟩
  obtain ⟨hi, hhi⟩ : ∃ n : Nat, r.high = n := ⟨r.high.toNat, by omega⟩
  have n1 := numB_len_le (b := 10) (by decide) 4 lo (by omega)
  have n2 := numB_len_le (b := 10) (by decide) 4 hi (by omega)
  refine ⟨_, (rcell hv3).1, ?_⟩
  rw [hpr, wrapi (n := (pr : Int)) (by omega) (by omega)]
  refine (ref12_Num 10 (by decide) pr (by omega) w3).use ?_
  rintro _ w11 ⟨rfl, hx11⟩
  have hX11 := Ext.trans hX3 hx11
  have hv11 := hv3.ext hx11
  have hc11 := (rcell hv11).1
  rw [hpr] at hc11
  refine ⟨_, rfl, Jn1 (fun s w' => w11 = w' ∧ s = S (if pr = 0 then [97, 110, 121] else numB 10 pr)) (fun q hq => ⟨_, hc11, fun h => hq _ _ ⟨rfl, ?_⟩, fun h => hq _ _ ⟨rfl, ?_⟩⟩) ?_⟩
  · have h := eq_of_beq h
    rw [if_pos (by omega)]; rfl
  · have h : ¬ (pr : Int) = 0 := by simpa using h
    rw [if_neg (by omega)]
  rintro _ _ ⟨rfl, rfl⟩
  refine Jn1 (fun s w' => w11 = w' ∧ s = S (if pr = 6 then [116, 99, 112] else if pr = 0 then [97, 110, 121] else numB 10 pr)) (fun q hq => ⟨_, hc11, fun h => hq _ _ ⟨rfl, ?_⟩, fun h => hq _ _ ⟨rfl, ?_⟩⟩) ?_
  · have h := eq_of_beq h
    rw [if_pos (by omega)]; rfl
  · have h : ¬ (pr : Int) = 6 := by simpa using h
    rw [if_neg (c := pr = 6) (by omega)]
  rintro _ _ ⟨rfl, rfl⟩
  refine Jn1 (fun s w' => w11 = w' ∧ s = S (protoB r.proto)) (fun q hq => ⟨_, hc11, fun h => hq _ _ ⟨rfl, ?_⟩, fun h => hq _ _ ⟨rfl, ?_⟩⟩) ?_
  · have h := eq_of_beq h
    unfold protoB
    rw [if_neg (by omega), if_neg (by omega), if_pos (by omega)]; rfl
  · have h : ¬ (pr : Int) = 17 := by simpa using h
    unfold protoB
    by_cases h0 : pr = 0
    · rw [if_neg (by omega), if_pos h0, if_pos (by omega)]
    · by_cases h6 : pr = 6
      · rw [if_pos h6, if_neg (by omega), if_pos (by omega)]
      · rw [if_neg h6, if_neg h0, if_neg (by omega), if_neg (by omega), if_neg (by omega), hpr]; rfl
  rintro _ _ ⟨rfl, rfl⟩
  have n3 := protoB_len hp
  have n4 := showP_len r.src
  have n5 := showP_len r.dst
  have n6 : a8.length ≤ 6 := by rw [ha8]; split <;> simp
  have hd : Ext w11 w11.drew := Chg.drew (.refl _ _)
  have hv26 := hv11.ext hd
  have hX26 := Ext.trans hX11 hd
  rw [e32, e45]
  refine nx ⟨fun _ => False, by simp only [S_append, S_size, List.length_append, List.length_singleton]; omega, by simp only [S_append, S_size, List.length_append, List.length_singleton]; omega, id, _, rrd1 hv26, id, _, rrd2 hv26, id, _, (rcell hv26).2.1, id, _, (rcell hv26).2.2.1, (ref12_ShowPrefix r.src _).use ?_⟩
  rintro _ w32 ⟨rfl, hx32⟩
  refine ⟨_, rfl, hx32, by simp only [S_append, S_size, List.length_append, List.length_singleton]; omega, by simp only [S_append, S_size, List.length_append, List.length_singleton]; omega, (ref12_ShowPrefix r.dst _).use ?_⟩
  rintro _ w35 ⟨rfl, hx35⟩
  refine ⟨_, rfl, hx35, by simp only [S_append, S_size, List.length_append, List.length_singleton]; omega, by simp only [S_append, S_size, List.length_append, List.length_singleton]; omega, ?_⟩
  rw [hlo, hhi, wrapi (n := (lo : Int)) (by omega) (by omega), wrapi (n := (hi : Int)) (by omega) (by omega)]
  refine (ref12_Num 10 (by decide) lo (by omega) w35).use ?_
  rintro _ w38 ⟨rfl, hx38⟩
  refine ⟨_, rfl, hx38, by simp only [S_append, S_size, List.length_append, List.length_singleton]; omega, by simp only [S_append, S_size, List.length_append, List.length_singleton]; omega, (ref12_Num 10 (by decide) hi (by omega) w38).use ?_⟩
  rintro _ w41 ⟨rfl, hx41⟩
  refine ⟨_, rfl, hx41, by simp only [S_append, S_size, List.length_append, List.length_singleton]; omega, ?_, Ext.trans hX26 (Ext.trans hx32 (Ext.trans hx35 (Ext.trans hx38 hx41)))⟩
  simp only [S_append]
  congr 2
  unfold showR wordsR
  rw [if_pos hg, hlo, hhi, ha8]
  cases r.allow <;> simp [joinB]

theorem law_AclShows {r : Ru} (hr : r.ok) (w : World) (ht : Tabs w) : Ret Tryz.prog F.law32_AclShows #[.agg r.c.toArray] w (fun v w' => v = .bool true ∧ Ext w w') := by
  refine W.law32_AclShows_ok _ w _ ?_
  unfold W.law32_AclShows
  have hlen : (showR r).length ≤ 10000 := by
    unfold showR
    split
    · have h1 := showP_len r.src
      have h2 := showP_len r.dst
      have h3 := protoB_len hr.p
      have hl := hr.l
      have hh := hr.h
      have n1 := numB_len_le (b := 10) (by decide) 4 r.low.toNat (by omega)
      have n2 := numB_len_le (b := 10) (by decide) 4 r.high.toNat (by omega)
      have h4 : (if r.allow then ([97, 108, 108, 111, 119] : List UInt8) else [100, 101, 110, 121]).length ≤ 5 := by split <;> simp
      unfold wordsR
      simp only [joinB, List.length_append, List.length_cons, List.length_nil]
      omega
    · simp
  refine nxVar (vs := r.c) rfl fun w1 hv hx1 _ => ⟨_, hv.rd r.c_length, (acl_Show hr w1 (ht.ext hx1).tab).use ?_⟩
  rintro _ w3 ⟨rfl, hx3⟩
  have hX3 := Ext.trans hx1 hx3
  refine ⟨_, rfl, (acl_Parse (showR r) hlen w3 (ht.ext hX3)).use ?_⟩
  rintro _ w6 ⟨o, rfl, ho1, ho2, hx6⟩
  have hX6 := Ext.trans hX3 hx6
  have hv6 := (hv.ext hx3).ext hx6
  have ho : (showR r = [] ∧ o = none) ∨ (showR r ≠ [] ∧ o = some r) := by
    rcases Classical.em (showR r = []) with h | h
    · left
      refine ⟨h, ?_⟩
      cases o with
      | none => rfl
      | some x => exact absurd h (ho1 x rfl).2.2.2
    · exact .inr ⟨h, ho2 r hr (showR_ne h) rfl⟩
  refine ⟨_, _, rfl, nxVar (vs := rz'.c) (by kernel_rfl) fun w10 hu hx10 _ => ⟨hu.storeOk (by simp [Ru.c_length]) (Ru.plain _), by simp [Ru.c_length], nxPut hu (us := (o.getD rz').c) (by simp [Ru.c_length]) rfl fun w11 hu11 hc11 _ => ?_⟩⟩
  have hx11 : Ext w6 w11 := Ext.of_chg hx10 hc11 (Nat.le_refl _)
  have hX11 := Ext.trans hX6 hx11
  have hv11 := hv6.ext hx11
  refine ⟨_, hv11.rd r.c_length, (ref32_Show hr w11).use ?_⟩
  rintro _ w13 ⟨rfl, hx13⟩
  have hX13 := Ext.trans hX11 hx13
  have hv13 := hv11.ext hx13
  have hu13 := hu11.ext hx13
  refine ⟨_, rfl, ?_⟩
  rw [S_toList, nilB]
  refine Jn1 (fun b w' => b = true ∧ Ext w13 w') (fun q hq => ⟨fun _ => ?_, fun h => ?_⟩) ?_
  · refine jnAnd (decide (o.getD rz' = r)) (fun _ k hk => ⟨_, hu13.rd (Ru.c_length _), _, hv13.rd (Ru.c_length _), _, eqRu _ _, hk _ (.refl _ _)⟩) fun w22 hx22 => ?_
    refine jnOr (!o.isSome && decide (o.getD rz' = rz')) (fun _ k hk => jnAnd (decide (o.getD rz' = rz')) (fun _ k2 hk2 => ⟨_, (hu13.ext hx22).rd (Ru.c_length _), _, mkRz _, _, eqRu _ _, hk2 _ (.refl _ _)⟩) fun w29 hx29 => hk _ hx29) fun w31 hx31 => hq _ _ ⟨?_, Ext.trans hx22 hx31⟩
    rcases ho with ⟨_, rfl⟩ | ⟨_, rfl⟩ <;> simp
  · exfalso
    rcases ho with ⟨h1, rfl⟩ | ⟨h1, rfl⟩
    · rw [h1] at h; exact absurd h (by decide)
    · rw [ne_nilB h1] at h
      simp at h
  rintro _ w33 ⟨rfl, hx33⟩
  have hX33 := Ext.trans hX13 hx33
  refine Jn1 (fun b w' => b = true ∧ Ext w w') (fun q hq => ⟨fun _ => (lives32 w33 (ht.ext hX33).tab).use ?_, fun h => by cases h⟩) ?_
  · rintro _ w35 ⟨rfl, hx35⟩
    exact ⟨_, rfl, hq _ _ ⟨rfl, Ext.trans hX33 hx35⟩⟩
  · rintro _ w39 ⟨rfl, hx39⟩
    exact ⟨rfl, hx39⟩

theorem law_AclParses (l0 : List UInt8) {r : Ru} (hr : r.ok) (w : World) (ht : Tabs w) : Ret Tryz.prog F.law32_AclParses #[.string (S l0), .agg r.c.toArray] w (fun v w' => v = .bool true ∧ Ext w w') := by
  refine W.law32_AclParses_ok (S l0) _ w _ ?_
  unfold W.law32_AclParses
  rw [S_size]
  refine nxVar (vs := r.c) rfl fun w1 hv hx1 _ => Jn1 (fun s w' => w1 = w' ∧ ∃ l, s = S l ∧ l.length ≤ 10000) (fun q hq => ⟨fun h => ?_, fun h => ?_⟩) ?_
  · have h : ((l0.length : Nat) : Int) > 200 := of_decide_eq_true h
    refine ⟨⟨by decide, by omega⟩, hq _ _ ⟨rfl, (l0.drop 0).take 200, ?_, by simp; omega⟩⟩
    rw [S_extract]; simp
  · have h : ¬ ((l0.length : Nat) : Int) > 200 := of_decide_eq_false h
    exact hq _ _ ⟨rfl, l0, rfl, by omega⟩
  rintro _ _ ⟨rfl, l, rfl, hl⟩
  refine (acl_Parse l hl w1 (ht.ext hx1)).use ?_
  rintro _ w5 ⟨o, rfl, ho1, ho2, hx5⟩
  have hX5 := Ext.trans hx1 hx5
  have hv5 := hv.ext hx5
  refine ⟨_, _, rfl, nxVar (vs := rz'.c) (by kernel_rfl) fun w9 hu hx9 _ => ⟨hu.storeOk (by simp [Ru.c_length]) (Ru.plain _), by simp [Ru.c_length], nxPut hu (us := (o.getD rz').c) (by simp [Ru.c_length]) rfl fun w10 hu10 hc10 _ => ?_⟩⟩
  have hx10 : Ext w5 w10 := Ext.of_chg hx9 hc10 (Nat.le_refl _)
  have hX10 := Ext.trans hX5 hx10
  have hv10 := hv5.ext hx10
  refine Jn1 (fun b w' => b = false ∧ Ext w10 w') (fun q hq => ⟨fun h => ?_, fun h => hq _ _ ⟨rfl, .refl _ _⟩⟩) ?_
  · obtain ⟨x, rfl⟩ := Option.isSome_iff_exists.1 h
    obtain ⟨hx1', _, hx3', _⟩ := ho1 x rfl
    refine ⟨_, hu10.rd (Ru.c_length _), (ref32_Show hx1' w10).use ?_⟩
    rintro _ w13 ⟨rfl, hx13⟩
    refine ⟨_, rfl, hq _ _ ⟨?_, hx13⟩⟩
    rw [S_beq, hx3']; simp
  rintro _ w17 ⟨rfl, hx17⟩
  have hX17 := Ext.trans hX10 hx17
  have hv17 := hv10.ext hx17
  have hu17 := hu10.ext hx17
  refine Jn1 (fun b w' => b = false ∧ Ext w17 w') (fun q hq => ⟨fun h => (by cases h), fun _ => ?_⟩) ?_
  · refine jnAnd (!decide (o.getD rz' = rz')) (fun _ k hk => ⟨_, hu17.rd (Ru.c_length _), _, mkRz _, _, eqRu _ _, hk _ (.refl _ _)⟩) fun w24 hx24 => hq _ _ ⟨?_, hx24⟩
    cases o <;> simp
  rintro _ w26 ⟨rfl, hx26⟩
  have hX26 := Ext.trans hX17 hx26
  have hv26 := hv17.ext hx26
  have hu26 := hu17.ext hx26
  rw [S_toList, nilB]
  refine ⟨fun h => (by cases h), fun _ => jnOr (!(showR r == l)) (fun h k hk => ⟨_, hv26.rd (Ru.c_length _), (ref32_Show hr w26).use ?_⟩) fun w33 hx33 => ?_⟩
  · rintro _ w29 ⟨rfl, hx29⟩
    refine ⟨_, rfl, ?_⟩
    rw [S_toList]
    exact hk _ hx29
  refine jnOr (o.isSome && decide (o.getD rz' = r)) (fun h k hk => jnAnd (decide (o.getD rz' = r)) (fun _ k2 hk2 => ⟨_, (hu26.ext hx33).rd (Ru.c_length _), _, (hv26.ext hx33).rd (Ru.c_length _), _, eqRu _ _, hk2 _ (.refl _ _)⟩) fun w39 hx39 => hk _ hx39) fun w42 hx42 => ?_
  have hX42 := Ext.trans hX26 (Ext.trans hx33 hx42)
  have hb : ((l == ([] : List UInt8)) || !(showR r == l) || (o.isSome && decide (o.getD rz' = r))) = true := by
    rcases Classical.em (l = []) with h | h
    · subst h; rfl
    · rcases Classical.em (showR r = l) with h2 | h2
      · have := ho2 r hr (showR_ne (by rw [h2]; exact h)) h2
        rw [this]; simp
      · have : (showR r == l) = false := by simpa using h2
        rw [this]; simp
  rw [hb]
  refine Jn1 (fun b w' => b = true ∧ Ext w w') (fun q hq => ⟨fun _ => (lives32 w42 (ht.ext hX42).tab).use ?_, fun h => by cases h⟩) ?_
  · rintro _ w35 ⟨rfl, hx35⟩
    exact ⟨_, rfl, hq _ _ ⟨rfl, Ext.trans hX42 hx35⟩⟩
  · rintro _ w39 ⟨rfl, hx39⟩
    exact ⟨rfl, hx39⟩

end Go.Proofs.YtcjpgabpihkcjaaGreatDoor
