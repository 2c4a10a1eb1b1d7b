/- Rules of no use; the law of what is left. -/
import Derived.Test.YtcjpgabpihkcjaaDoorAclD
namespace Go.Proofs.YtcjpgabpihkcjaaDoor
open Go Gx

theorem rsc_one (r : Ru) : rsc [r] = r.c := by simp [rsc]
theorem cut0 (a : Option Addr) (z c : Nat) : cutA a z 0 c = a := by
  unfold cutA
  split
  · rfl
  · cases a with
    | none => rfl
    | some A => simp [add_zero']
theorem RS.take {w : World} {s : Sl} {rs : List Ru} (h : RS w s rs) {k c : Nat} (hk : k ≤ rs.length) : RS w ⟨s.a, k, c⟩ (rs.take k) := by
  refine ⟨by simp; omega, fun {i} hi => ?_⟩
  have hi2 : i < rs.length := by rw [List.length_take] at hi; omega
  obtain ⟨A, hA, hr⟩ := h.at' hi2
  refine ⟨A, hA, ?_⟩
  rw [List.getElem_take]; exact hr

def idleR (ahead : List Ru) (r : Ru) : Bool := !goodR r || ahead.any fun a => covR a r
theorem idxR_any (g : Ru → Bool) (rs : List Ru) : decide (idxR g rs ≥ 0) = rs.any g := by
  rcases idxR_cases g rs with ⟨k, hk, he, h1, _⟩ | ⟨he, h⟩
  · rw [he, Bool.eq_iff_iff, decide_eq_true_eq, List.any_eq_true]
    exact ⟨fun _ => ⟨_, List.getElem_mem hk, h1⟩, fun _ => by omega⟩
  · rw [he, Bool.eq_iff_iff, decide_eq_true_eq, List.any_eq_true]
    refine ⟨fun h => by omega, fun ⟨x, hx, hg⟩ => ?_⟩
    obtain ⟨j, hj, rfl⟩ := List.getElem_of_mem hx
    rw [h j hj] at hg; cases hg

theorem acl_idle {s : Sl} {rs : List Ru} (r : Ru) {w : World} (hs : RS w s rs) (hn : rs.length ≤ 1000) (ht : Tab2 w) :
    Ret Tryd.prog F.acl_idle #[.slice s.a s.len s.cap, .agg r.c.toArray] w (fun v w' => v = .bool (idleR rs r) ∧ Ext w w') := by
  refine W.acl_idle_ok s _ w _ ?_
  unfold W.acl_idle
  refine nxVar (vs := r.c) rfl fun w1 hr hx1 _ => ⟨_, hr.rd r.c_length, (acl_good r w1 (ht.ext hx1)).use ?_⟩
  rintro _ w3 ⟨rfl, hx3⟩
  have hX3 := Ext.trans hx1 hx3
  have hr3 := hr.ext hx3
  refine ⟨_, rfl, jnOr (rs.any fun a => covR a r) (fun h k hk => ?_) fun w11 hx11 => ⟨rfl, Ext.trans hX3 hx11⟩⟩
  refine Calls.mono (W.slices_ContainsFunc_Sl_api_Rule_api_Rule_ok s ⟨F.acl_idle_1, #[], #[.pointer (some ⟨w.heap.size, 0, none⟩)]⟩ w3 (fun v w' => v = .bool (rs.any fun a => covR a r) ∧ Ext w3 w') ?_) ?_
  · unfold W.slices_ContainsFunc_Sl_api_Rule_api_Rule
    refine (IndexFunc ⟨F.acl_idle_1, #[], #[.pointer (some ⟨w.heap.size, 0, none⟩)]⟩ (fun a => covR a r) (hs.ext hX3) hn ⟨_, (Option.some_get (show (Tryd.prog.funcs[F.acl_idle_1]?).isSome = true by kernel_rfl)).symm, by kernel_rfl, by kernel_rfl⟩ (fun w2 hx2 a => ?_)).use ?_
    · refine W.acl_idle_1_ok _ _ w2 _ ?_
      unfold W.acl_idle_1
      refine nxVar (vs := a.c) rfl fun w4 ha hx4 _ => ⟨_, ha.rd a.c_length, _, ((hr3.ext hx2).ext hx4).rd r.c_length, (acl_covers a r w4 (ht.ext (Ext.trans hX3 (Ext.trans hx2 hx4)))).use ?_⟩
      rintro _ w5 ⟨rfl, hx5⟩
      exact ⟨_, rfl, rfl, Ext.trans hx4 hx5⟩
    rintro _ w2 ⟨rfl, hx2⟩
    exact ⟨_, rfl, by rw [idxR_any], hx2⟩
  · rintro _ w7 ⟨_, rfl, rfl, hx7⟩
    exact ⟨_, rfl, hk _ hx7⟩

/-- Whether the rule at a place is of no use. -/
def idAt (rs : List Ru) (i : Nat) : Bool := idleR (rs.take i) (rs.getD i r0)
def idL (rs : List Ru) (k : Nat) : List Nat := (List.range k).filter fun i => idAt rs i
def slI (rs : List Ru) (k : Nat) : List Nat := (List.range k).filter fun i => !idAt rs i
def slL (rs : List Ru) (k : Nat) : List Ru := (slI rs k).map fun i => rs.getD i r0
theorem idL_succ (rs : List Ru) (k : Nat) : idL rs (k + 1) = idL rs k ++ if idAt rs k then [k] else [] := by
  unfold idL
  rw [List.range_succ, List.filter_append]
  congr 1
  simp only [List.filter_cons, List.filter_nil]
theorem slI_succ (rs : List Ru) (k : Nat) : slI rs (k + 1) = slI rs k ++ if idAt rs k then [] else [k] := by
  unfold slI
  rw [List.range_succ, List.filter_append]
  congr 1
  simp only [List.filter_cons, List.filter_nil]
  cases idAt rs k <;> rfl
theorem slL_succ (rs : List Ru) (k : Nat) : slL rs (k + 1) = slL rs k ++ if idAt rs k then [] else [rs.getD k r0] := by
  unfold slL
  rw [slI_succ, List.map_append]
  cases idAt rs k <;> rfl
theorem idL_len (rs : List Ru) (k : Nat) : (idL rs k).length ≤ k := by
  unfold idL; exact Nat.le_trans (List.length_filter_le _ _) (by simp)
theorem slL_len (rs : List Ru) (k : Nat) : (slL rs k).length ≤ k := by
  unfold slL slI; rw [List.length_map]; exact Nat.le_trans (List.length_filter_le _ _) (by simp)
def natsV (l : List Nat) : List Value := l.map fun (n : Nat) => Value.int .i64 (n : Int)
theorem appInt : AppT Tryd.prog Ty.Sl_int Ty.int 1 8 := ⟨by kernel_rfl⟩
theorem getD_at {rs : List Ru} {k : Nat} (h : k < rs.length) : rs.getD k r0 = rs[k] := by simp [List.getD, h]

def rz : Ru := ⟨Pf.zero, Pf.zero, 0, 0, 0, false⟩
theorem acl_Idle {s : Sl} {rs : List Ru} {w : World} (hs : RS w s rs) (hc : s.len ≤ s.cap) (hn : rs.length ≤ 1000) (ht : Tab2 w) :
    Ret Tryd.prog F.acl_Idle #[.slice s.a s.len s.cap] w (fun v w' => ∃ s' : Sl, v = .slice s'.a s'.len s'.cap ∧ OwnS 1 Ty.int w' s' (natsV (idL rs rs.length)) ∧ Ext w w') := by
  refine W.acl_Idle_ok s w _ ?_
  unfold W.acl_Idle
  have hl := hs.len
  refine ⟨fun s3 i w' => ∃ k : Nat, i = k ∧ k ≤ rs.length ∧ Ext w w' ∧ OwnS 1 Ty.int w' s3 (natsV (idL rs k)) ∧ ∀ q, ownB s3 q → w.heap.size ≤ q, fun _ i _ => (s.len - i).toNat,
    ⟨0, rfl, Nat.zero_le _, .refl _ _, OwnS.none 1 Ty.int w, fun q hq => absurd hq (ownB_none q)⟩, ?_⟩
  rintro s3 _ w5 ⟨k, rfl, hk, hx5, ho, hB⟩
  refine ⟨fun h => ?_, fun h => ?_⟩
  · have hlt : (k : Int) < ((s.len : Nat) : Int) := of_decide_eq_true h
    have hlt : k < rs.length := by omega
    have hms : (((s.len : Nat) : Int) - ((k : Int) + 1)).toNat < (((s.len : Nat) : Int) - (k : Int)).toNat := by omega
    refine Jn1 (fun s2 w' => Ext w w' ∧ OwnS 1 Ty.int w' s2 (natsV (idL rs (k + 1))) ∧ ∀ q, ownB s2 q → w.heap.size ≤ q) (fun q hq => ?_) ?_
    · obtain ⟨A, hA, hb, hr⟩ := (hs.ext hx5).get hlt
      refine ⟨A, hA, hb, _, hr, nxVar (vs := rz.c) (by kernel_rfl) fun w9 hv hx9 _ => ⟨hv.storeOk (by simp [Ru.c_length]) (Ru.plain _), by simp [Ru.c_length], nxPut hv (us := (rs[k]).c) (by simp [Ru.c_length]) rfl fun w10 hv10 hc10 _ => ?_⟩⟩
      have hx10 : Ext w5 w10 := Ext.of_chg hx9 hc10 (Nat.le_refl _)
      have hd : Ext w10 w10.drew := Chg.drew (.refl _ _)
      have hx11 := Ext.trans hx10 hd
      have hX11 := Ext.trans hx5 hx11
      refine nx ⟨⟨by omega, by omega⟩, id, _, (hv10.ext hd).rd (Ru.c_length _), ?_⟩
      rw [cut0]
      have hrt := (hs.ext hX11).take (k := k) (c := s.cap) (by omega)
      refine (acl_idle (s := ⟨s.a, k, s.cap⟩) (rs[k]) hrt (by rw [List.length_take]; omega) (ht.ext hX11)).use ?_
      rintro _ w13 ⟨rfl, hx13⟩
      have hx13' := Ext.trans hx11 hx13
      have hX13 := Ext.trans hx5 hx13'
      have ho13 := ho.ext hx13'
      have hid : idleR (rs.take k) rs[k] = idAt rs k := by unfold idAt; rw [getD_at hlt]
      refine ⟨_, rfl, fun h => ?_, fun h => ?_⟩
      · rw [hid] at h
        have hlen : s3.len ≤ 1000 := by
          have h1 := ho13.1
          rw [natsV, List.length_map] at h1
          have := idL_len rs k
          omega
        obtain ⟨s', w', h1, h2, h3, h4, h5⟩ := appInt.push (oT := Ty.Sl_int) (xs := [.int .i64 k]) rfl ho13 (by simp [Plain]) (by omega)
        refine nx ⟨s', w', h1, hq _ _ ⟨Ext.of_new hX13 h4 hB, ?_, fun q hq2 => ?_⟩⟩
        · rw [idL_succ, if_pos h]
          have : natsV (idL rs k ++ [k]) = natsV (idL rs k) ++ [.int .i64 k] := by simp [natsV]
          rw [this]; exact h2
        · rcases h5 q hq2 with h6 | h6
          · exact hB q h6
          · have := hX13.size; omega
      · rw [hid] at h
        refine hq _ _ ⟨hX13, ?_, hB⟩
        rw [idL_succ, h]
        simpa using ho13
    · rintro s2 w20 ⟨hx20, ho20, hB20⟩
      rw [wrapi (n := (k : Int) + 1) (by omega) (by omega)]
      exact ⟨⟨k + 1, by omega, hlt, hx20, ho20, hB20⟩, hms⟩
  · have hge : ¬((k : Int) < ((s.len : Nat) : Int)) := of_decide_eq_false h
    have : k = rs.length := by omega
    subst this
    exact ⟨s3, rfl, ho, hx5⟩

theorem acl_Slim {s : Sl} {rs : List Ru} {w : World} (hs : RS w s rs) (hc : s.len ≤ s.cap) (hn : rs.length ≤ 1000) (ht : Tab2 w) :
    Ret Tryd.prog F.acl_Slim #[.slice s.a s.len s.cap] w (fun v w' => ∃ s' : Sl, v = .slice s'.a s'.len s'.cap ∧ OwnS 40 Ty.api_Rule w' s' (rsc (slL rs rs.length)) ∧ Ext w w') := by
  refine W.acl_Slim_ok s w _ ?_
  unfold W.acl_Slim
  have hl := hs.len
  refine ⟨fun s3 i w' => ∃ k : Nat, i = k ∧ k ≤ rs.length ∧ Ext w w' ∧ OwnS 40 Ty.api_Rule w' s3 (rsc (slL rs k)) ∧ ∀ q, ownB s3 q → w.heap.size ≤ q, fun _ i _ => (s.len - i).toNat,
    ⟨0, rfl, Nat.zero_le _, .refl _ _, OwnS.none 40 Ty.api_Rule w, fun q hq => absurd hq (ownB_none q)⟩, ?_⟩
  rintro s3 _ w5 ⟨k, rfl, hk, hx5, ho, hB⟩
  refine ⟨fun h => ?_, fun h => ?_⟩
  · have hlt : (k : Int) < ((s.len : Nat) : Int) := of_decide_eq_true h
    have hlt : k < rs.length := by omega
    have hms : (((s.len : Nat) : Int) - ((k : Int) + 1)).toNat < (((s.len : Nat) : Int) - (k : Int)).toNat := by omega
    refine Jn1 (fun s2 w' => Ext w w' ∧ OwnS 40 Ty.api_Rule w' s2 (rsc (slL rs (k + 1))) ∧ ∀ q, ownB s2 q → w.heap.size ≤ q) (fun q hq => ?_) ?_
    · obtain ⟨A, hA, hb, hr⟩ := (hs.ext hx5).get hlt
      refine ⟨A, hA, hb, _, hr, nxVar (vs := rz.c) (by kernel_rfl) fun w9 hv hx9 _ => ⟨hv.storeOk (by simp [Ru.c_length]) (Ru.plain _), by simp [Ru.c_length], nxPut hv (us := (rs[k]).c) (by simp [Ru.c_length]) rfl fun w10 hv10 hc10 _ => ?_⟩⟩
      have hx10 : Ext w5 w10 := Ext.of_chg hx9 hc10 (Nat.le_refl _)
      have hd : Ext w10 w10.drew := Chg.drew (.refl _ _)
      have hx11 := Ext.trans hx10 hd
      have hX11 := Ext.trans hx5 hx11
      refine nx ⟨⟨by omega, by omega⟩, id, _, (hv10.ext hd).rd (Ru.c_length _), ?_⟩
      rw [cut0]
      have hrt := (hs.ext hX11).take (k := k) (c := s.cap) (by omega)
      refine (acl_idle (s := ⟨s.a, k, s.cap⟩) (rs[k]) hrt (by rw [List.length_take]; omega) (ht.ext hX11)).use ?_
      rintro _ w13 ⟨rfl, hx13⟩
      have hx13' := Ext.trans hx11 hx13
      have hX13 := Ext.trans hx5 hx13'
      have ho13 := ho.ext hx13'
      have hid : idleR (rs.take k) rs[k] = idAt rs k := by unfold idAt; rw [getD_at hlt]
      refine ⟨_, rfl, fun h => ?_, fun h => ?_⟩
      · have h : idAt rs k = false := by rw [hid] at h; simpa using h
        have hlen : s3.len ≤ 1000 := by
          have h1 := ho13.1
          rw [rsc_length] at h1
          have := slL_len rs k
          omega
        obtain ⟨s', w', h1, h2, h3, h4, h5⟩ := appRule.push (oT := Ty.Sl_api_Rule) (xs := (rs[k]).c) (Ru.c_length _) ho13 (Ru.plain _) (by omega)
        refine ⟨(rs[k]).c, ((hv10.ext hd).ext hx13).rd (Ru.c_length _), ⟨some ⟨w13.heap.size, 0, none⟩, 1, 1⟩, w13.alloc (.cells (rs[k]).c.toArray Ty.api_Rule), buildRule (rs[k]) w13, s', w', h1, hq _ _ ⟨Ext.of_new hX13 h4 hB, ?_, fun q hq2 => ?_⟩⟩
        · rw [slL_succ, h]
          have : rsc (slL rs k ++ [rs.getD k r0]) = rsc (slL rs k) ++ (rs[k]).c := by rw [rsc_app, rsc_one, getD_at hlt]
          simp only [Bool.false_eq_true, if_false]
          rw [this]; exact h2
        · rcases h5 q hq2 with h6 | h6
          · exact hB q h6
          · have := hX13.size; omega
      · have h : idAt rs k = true := by rw [hid] at h; simpa using h
        refine hq _ _ ⟨hX13, ?_, hB⟩
        rw [slL_succ, h]
        simpa using ho13
    · rintro s2 w20 ⟨hx20, ho20, hB20⟩
      rw [wrapi (n := (k : Int) + 1) (by omega) (by omega)]
      exact ⟨⟨k + 1, by omega, hlt, hx20, ho20, hB20⟩, hms⟩
  · have hge : ¬((k : Int) < ((s.len : Nat) : Int)) := of_decide_eq_false h
    have : k = rs.length := by omega
    subst this
    exact ⟨s3, rfl, ho, hx5⟩

theorem ref32_Idle {s : Sl} {rs : List Ru} {w : World} (hs : RS w s rs) (hn : rs.length ≤ 1000) {i : Nat} (hi : i < rs.length) :
    Ret Tryd.prog F.ref32_Idle #[.slice s.a s.len s.cap, .int .i64 (i : Int)] w (fun v w' => v = .bool (idAt rs i) ∧ Ext w w') := by
  refine W.ref32_Idle_ok s _ w _ ?_
  unfold W.ref32_Idle
  obtain ⟨A, hA, hb, hr⟩ := hs.get hi
  have hid : idAt rs i = (!goodR rs[i] || (rs.take i).any fun a => covR a rs[i]) := by unfold idAt idleR; rw [getD_at hi]
  refine ⟨A, hA, hb, _, hr, (ref32_Good _ w).use ?_⟩
  rintro _ w3 ⟨rfl, hx3⟩
  refine ⟨_, rfl, fun h => ⟨by rw [hid, h]; rfl, hx3⟩, fun h => ?_⟩
  rw [hid, h, Bool.false_or]
  refine ⟨fun j w' => ∃ k : Nat, j = k ∧ k ≤ i ∧ Ext w w' ∧ ∀ (j : Nat) (hj : j < k) (h2 : j < rs.length), covR rs[j] rs[i] = false, fun j _ => ((i : Int) - j).toNat, ⟨0, rfl, Nat.zero_le _, hx3, fun j hj => by omega⟩, ?_⟩
  rintro _ w9 ⟨k, rfl, hk, hx9, hno⟩
  refine ⟨fun h => ?_, fun h => ?_⟩
  · have hlt : (k : Int) < (i : Int) := of_decide_eq_true h
    have hlt2 : k < rs.length := by omega
    have hd : Ext w9 w9.drew := Chg.drew (.refl _ _)
    have hX10 := Ext.trans hx9 hd
    obtain ⟨A1, hA1, hb1, hr1⟩ := (hs.ext hX10).get hlt2
    obtain ⟨A2, hA2, hb2, hr2⟩ := (hs.ext hX10).get hi
    refine nx ⟨A1, hA1, hb1, id, _, hr1, A2, hA2, hb2, id, _, hr2, (ref32_Covers _ _ _).use ?_⟩
    rintro _ w15 ⟨rfl, hx15⟩
    have hX15 := Ext.trans hX10 hx15
    have hms : ((i : Int) - ((k : Int) + 1)).toNat < ((i : Int) - (k : Int)).toNat := by omega
    refine ⟨_, rfl, fun h => ⟨?_, hX15⟩, fun h => ?_⟩
    · congr 1
      symm
      rw [List.any_eq_true]
      refine ⟨rs[k], ?_, h⟩
      rw [List.mem_take_iff_getElem]
      exact ⟨k, by omega, rfl⟩
    · rw [wrapi (n := (k : Int) + 1) (by omega) (by omega)]
      refine ⟨⟨k + 1, by omega, by omega, hX15, fun j hj h2 => ?_⟩, hms⟩
      rcases Nat.lt_or_ge j k with h3 | h3
      · exact hno j h3 h2
      · have : j = k := by omega
        subst this; exact h
  · have hge : ¬((k : Int) < (i : Int)) := of_decide_eq_false h
    refine ⟨?_, hx9⟩
    congr 1
    symm
    rw [List.any_eq_false]
    intro x hx
    obtain ⟨j, hj, rfl⟩ := List.mem_take_iff_getElem.1 hx
    rw [hno j (by omega) (by omega)]; simp

theorem idL_pre (rs : List Ru) {k n : Nat} (h : k ≤ n) : ∃ t, idL rs n = idL rs k ++ t := by
  induction n with
  | zero => exact ⟨[], by rw [show k = 0 by omega]; simp⟩
  | succ n ih =>
    rcases Nat.lt_or_ge n k with h2 | h2
    · exact ⟨[], by rw [show k = n + 1 by omega]; simp⟩
    · obtain ⟨t, ht⟩ := ih h2
      exact ⟨_, by rw [idL_succ, ht, List.append_assoc]⟩
theorem slL_pre (rs : List Ru) {k n : Nat} (h : k ≤ n) : ∃ t, slL rs n = slL rs k ++ t := by
  induction n with
  | zero => exact ⟨[], by rw [show k = 0 by omega]; simp⟩
  | succ n ih =>
    rcases Nat.lt_or_ge n k with h2 | h2
    · exact ⟨[], by rw [show k = n + 1 by omega]; simp⟩
    · obtain ⟨t, ht⟩ := ih h2
      exact ⟨_, by rw [slL_succ, ht, List.append_assoc]⟩
theorem idL_at {rs : List Ru} {k n : Nat} (h : k < n) (hi : idAt rs k = true) : (idL rs n)[(idL rs k).length]? = some k := by
  obtain ⟨t, ht⟩ := idL_pre rs (k := k + 1) h
  rw [ht, idL_succ, if_pos hi]
  simp
theorem slL_at {rs : List Ru} {k n : Nat} (h : k < n) (hi : idAt rs k = false) : (slL rs n)[(slL rs k).length]? = some (rs.getD k r0) := by
  obtain ⟨t, ht⟩ := slL_pre rs (k := k + 1) h
  rw [ht, slL_succ, hi]
  simp

theorem law_AclIdles {s : Sl} {rs0 : List Ru} (w : World) (ht : Tab2 w) (hs : Src 40 w s (rsc rs0)) (hc : s.len ≤ s.cap) : Ret Tryd.prog F.law32_AclIdles #[.slice s.a s.len s.cap] w (fun v w' => v = .bool true ∧ Ext w w') := by
  refine W.law32_AclIdles_ok s w _ ?_
  unfold W.law32_AclIdles
  refine (law32_Few hs hc).use ?_
  rintro _ w1 ⟨s3, rfl, ho3, hx1⟩
  obtain ⟨rs, hrs⟩ : ∃ rs, rs = rs0.take 30 := ⟨_, rfl⟩
  rw [← hrs] at ho3
  have hn : rs.length ≤ 30 := by rw [hrs, List.length_take]; omega
  have et : rs.take 30 = rs := List.take_of_length_le hn
  refine ⟨s3, rfl, (law32_Few ho3.src ho3.2.1).use ?_⟩
  rintro _ w4 ⟨s6, rfl, ho6, hx4⟩
  rw [et] at ho6
  have hX4 := Ext.trans hx1 hx4
  refine ⟨s6, rfl, (acl_Idle (RS.of ho6.src) ho6.2.1 (by omega) (ht.ext hX4)).use ?_⟩
  rintro _ w7 ⟨s9, rfl, ho9, hx7⟩
  have hX7 := Ext.trans hX4 hx7
  have ho37 := (ho3.ext hx4).ext hx7
  refine ⟨s9, rfl, (law32_Few ho37.src ho37.2.1).use ?_⟩
  rintro _ w10 ⟨s12, rfl, ho12, hx10⟩
  rw [et] at ho12
  have hX10 := Ext.trans hX7 hx10
  refine ⟨s12, rfl, (acl_Slim (RS.of ho12.src) ho12.2.1 (by omega) (ht.ext hX10)).use ?_⟩
  rintro _ w13 ⟨s15, rfl, ho15, hx13⟩
  have hX13 := Ext.trans hX10 hx13
  have ho9' := (ho9.ext hx10).ext hx13
  have hr3 : RS w13 s3 rs := RS.of ((ho37.ext hx10).ext hx13).src
  have hr15 : RS w13 s15 (slL rs rs.length) := RS.of ho15.src
  have hl3 := hr3.len
  have hl15 := hr15.len
  have hl9 : s9.len = (idL rs rs.length).length := by have := ho9.1; rw [natsV, List.length_map] at this; omega
  have b9 := idL_len rs rs.length
  have b15 := slL_len rs rs.length
  refine ⟨s15, rfl, fun a b i w' => ∃ k : Nat, i = k ∧ k ≤ rs.length ∧ a = ((idL rs k).length : Nat) ∧ b = ((slL rs k).length : Nat) ∧ Ext w13 w', fun _ _ i _ => (s3.len - i).toNat, ⟨0, rfl, Nat.zero_le _, rfl, rfl, .refl _ _⟩, ?_⟩
  rintro _ _ _ w21 ⟨k, rfl, hk, rfl, rfl, hx21⟩
  have bk9 := idL_len rs k
  have bk15 := slL_len rs k
  refine ⟨fun h => ?_, fun h => ?_⟩
  · have hlt : (k : Int) < ((s3.len : Nat) : Int) := of_decide_eq_true h
    have hlt : k < rs.length := by omega
    have hms : (((s3.len : Nat) : Int) - ((k : Int) + 1)).toNat < (((s3.len : Nat) : Int) - (k : Int)).toNat := by omega
    refine Jn2 (fun a b w' => a = ((idL rs (k + 1)).length : Nat) ∧ b = ((slL rs (k + 1)).length : Nat) ∧ Ext w13 w') (fun q hq => ?_) ?_
    · refine (ref32_Idle (hr3.ext hx21) (by omega) hlt).use ?_
      rintro _ w23 ⟨rfl, hx23⟩
      have hX23 := Ext.trans hx21 hx23
      refine ⟨_, rfl, fun h => ?_, fun h => ?_⟩
      · have hat := idL_at hlt h
        have hlt9 : (idL rs k).length < (idL rs rs.length).length := (List.getElem?_eq_some_iff.1 hat).1
        have hv : (natsV (idL rs rs.length))[(idL rs k).length]? = some (.int .i64 k) := by simp [natsV, hat]
        obtain ⟨A, hA, hb, hcell, _⟩ := (ho9'.ext hX23).at hv
        refine Jn1 (fun b w' => w23 = w' ∧ b = false) (fun q2 hq2 => ⟨fun h => ?_, fun _ => ⟨A, hA, hb, _, hcell, hq2 _ _ ⟨rfl, by simp⟩⟩⟩) ?_
        · have h : ((((idL rs k).length : Nat) : Int)) ≥ ((s9.len : Nat) : Int) := of_decide_eq_true h
          omega
        rintro _ _ ⟨rfl, rfl⟩
        refine ⟨fun h => (by cases h), fun _ => hq _ _ _ ⟨?_, ?_, hX23⟩⟩
        · rw [wrapi (by omega) (by omega), idL_succ, if_pos h]; simp
        · rw [slL_succ, if_pos h]; simp
      · have hd : Ext w23 w23.drew := Chg.drew (.refl _ _)
        have hX31 := Ext.trans hX23 hd
        have hat := slL_at hlt h
        have hlt15 : (slL rs k).length < (slL rs rs.length).length := (List.getElem?_eq_some_iff.1 hat).1
        have hget : (slL rs rs.length)[(slL rs k).length] = rs[k] := by
          have := (List.getElem?_eq_some_iff.1 hat).2
          rw [this, getD_at hlt]
        obtain ⟨A1, hA1, hb1, hr1⟩ := (hr15.ext hX31).get hlt15
        obtain ⟨A2, hA2, hb2, hr2⟩ := (hr3.ext hX31).get hlt
        rw [hget] at hr1
        refine nx ⟨fun h => ?_, fun _ => ⟨A1, hA1, hb1, id, _, hr1, A2, hA2, hb2, id, _, hr2, _, eqRu _ _, fun h => by simp at h, fun _ => hq _ _ _ ⟨?_, ?_, hX31⟩⟩⟩
        · have h : ((((slL rs k).length : Nat) : Int)) ≥ ((s15.len : Nat) : Int) := of_decide_eq_true h
          omega
        · rw [idL_succ, h]; simp
        · rw [wrapi (by omega) (by omega), slL_succ, h]; simp
    · rintro _ _ w39 ⟨rfl, rfl, hx39⟩
      rw [wrapi (n := (k : Int) + 1) (by omega) (by omega)]
      exact ⟨⟨k + 1, by omega, hlt, rfl, rfl, hx39⟩, hms⟩
  · have hge : ¬((k : Int) < ((s3.len : Nat) : Int)) := of_decide_eq_false h
    have : k = rs.length := by omega
    subst this
    have hX21 := Ext.trans hX13 hx21
    refine Jn1 (fun b w' => b = true ∧ Ext w w') (fun q hq => ⟨fun _ => (lives32 w21 (ht.ext hX21)).use ?_, fun h => ?_⟩) ?_
    · rintro _ w41 ⟨rfl, hx41⟩
      exact ⟨_, rfl, hq _ _ ⟨rfl, Ext.trans hX21 hx41⟩⟩
    · rw [hl9, hl15] at h; simp at h
    · rintro _ w45 ⟨rfl, hx45⟩
      exact ⟨rfl, hx45⟩

end Go.Proofs.YtcjpgabpihkcjaaDoor
