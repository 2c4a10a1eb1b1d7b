/- The references' Same, At, Has; whether a service is laid. -/
import Derived.Test.YtldeegpcldhjaaaConfM
namespace Go.Proofs.Ytldeegpcldhjaaa
open Go Gx

variable {w w' : World} {fm : Fm} {R : List Rec} {r : Rec}

theorem Bk.c_inj {a b : Bk} (h : a.c = b.c) : a = b := by
  simp only [Bk.c, List.cons.injEq, Value.int.injEq, true_and] at h
  obtain ⟨h0, h⟩ := h
  obtain ⟨h1, h2⟩ := List.append_inj h (by simp [Ad.c_length])
  have h3 := Ad.c_inj h1
  cases a; cases b
  simp_all
theorem Bk.okCs (b : Bk) : Gx.okCs lfB b.c := ⟨_, _, rfl, ⟨_, rfl⟩, okCs_mk b.addr.okCs ⟨_, _, rfl, ⟨_, rfl⟩, _, _, rfl, ⟨_, rfl⟩, _, _, rfl, ⟨_, rfl⟩, rfl⟩⟩
theorem eqBk (a b : Bk) : AggEq Try.prog Ty.api_Backend a.c.toArray b.c.toArray (decide (a = b)) := by
  have h := AggEq.flat (P := Try.prog) (T := Ty.api_Backend) (d := (Try.prog.underlying Ty.api_Backend).get (by kernel_rfl)) (ls := lfB) (Option.some_get _).symm (by kernel_rfl) (by kernel_rfl) (by kernel_rfl) a.okCs b.okCs
  have e : eqVs a.c b.c = decide (a = b) := by
    rw [Bool.eq_iff_iff, eqVs_iff a.okCs b.okCs, decide_eq_true_eq]
    exact ⟨Bk.c_inj, fun h => by rw [h]⟩
  rwa [e] at h

theorem Sv.neq_chain (s t : Sv) : ((((((s.id != t.id) || (!decide (s.addr = t.addr))) || (s.port != t.port)) || (s.proto != t.proto)) || (s.bits != t.bits)) || (s.lasts != t.lasts)) = !decide (s = t) := by
  rw [← Sv.eq_chain]
  simp only [Bool.not_and, bne]

theorem ref20_Same (s t : Sv) (k k' : Sl) {bs cs : List Bk} (hk : BR w k bs) (hk' : BR w k' cs) (hn : bs.length ≤ 1000000) : Ret Try.prog F.ref20_Same #[.agg (s.c k).toArray, .agg (t.c k').toArray] w (fun v w' => v = .bool (decide (s = t) && decide (bs = cs)) ∧ Ext w w') := by
  refine W.ref20_Same_ok _ _ w _ ?_
  unfold W.ref20_Same
  refine nxVar (vs := s.c k) rfl fun w1 hs hx1 _ => nxVar (vs := t.c k') rfl fun w2 ht hx2 _ => ?_
  have hs := hs.ext hx2
  have hX2 := Ext.trans hx1 hx2
  refine ⟨_, (scell hs).1, _, (scell ht).1, jnOr (!decide (s.addr = t.addr)) (fun _ q hq => ⟨_, srd hs, _, srd ht, _, eqAd _ _, hq _ (.refl _ _)⟩) fun w3 hx3 => ?_⟩
  have hs3 := hs.ext hx3; have ht3 := ht.ext hx3
  refine jnOr (s.port != t.port) (fun _ q hq => ⟨_, (scell hs3).2.2.1, _, (scell ht3).2.2.1, hq _ (.refl _ _)⟩) fun w4 hx4 => ?_
  have hs4 := hs3.ext hx4; have ht4 := ht3.ext hx4
  refine jnOr (s.proto != t.proto) (fun _ q hq => ⟨_, (scell hs4).2.2.2.1, _, (scell ht4).2.2.2.1, hq _ (.refl _ _)⟩) fun w5 hx5 => ?_
  have hs5 := hs4.ext hx5; have ht5 := ht4.ext hx5
  refine jnOr (s.bits != t.bits) (fun _ q hq => ⟨_, (scell hs5).2.2.2.2.1, _, (scell ht5).2.2.2.2.1, hq _ (.refl _ _)⟩) fun w6 hx6 => ?_
  have hs6 := hs5.ext hx6; have ht6 := ht5.ext hx6
  refine jnOr (s.lasts != t.lasts) (fun _ q hq => ⟨_, (scell hs6).2.2.2.2.2.1, _, (scell ht6).2.2.2.2.2.1, hq _ (.refl _ _)⟩) fun w7 hx7 => ?_
  have hs7 := hs6.ext hx7; have ht7 := ht6.ext hx7
  rw [Sv.neq_chain]
  have hkl := BR.len hk; have hkl' := BR.len hk'
  refine jnOr (((k.len : Nat) : Int) != ((k'.len : Nat) : Int)) (fun _ q hq => ⟨k, (scell hs7).2.2.2.2.2.2, k', (scell ht7).2.2.2.2.2.2, hq _ (.refl _ _)⟩) fun w8 hx8 => ?_
  have hs8 := hs7.ext hx8; have ht8 := ht7.ext hx8
  have hX8 : Ext w w8 := Ext.trans hX2 (Ext.trans hx3 (Ext.trans hx4 (Ext.trans hx5 (Ext.trans hx6 (Ext.trans hx7 hx8)))))
  refine ⟨fun hb => ⟨?_, hX8⟩, fun hb => ?_⟩
  · congr 1; symm
    simp only [Bool.or_eq_true, Bool.not_eq_true', decide_eq_false_iff_not, bne_iff_ne] at hb
    rcases hb with hb | hb
    · rw [decide_eq_false hb]; rfl
    · have : bs ≠ cs := fun e => by subst e; omega
      rw [decide_eq_false this, Bool.and_false]
  simp only [Bool.or_eq_false_iff, Bool.not_eq_false', decide_eq_true_eq, bne_eq_false_iff_eq] at hb
  obtain ⟨rfl, hl⟩ := hb
  have hll : bs.length = cs.length := by omega
  have hst : (decide (s = s) && decide (bs = cs)) = decide (bs = cs) := by simp
  rw [hst]
  refine ⟨fun n w' => ∃ i : Nat, n = i ∧ i ≤ bs.length ∧ Ext w8 w' ∧ ∀ (j : Nat) (h1 : j < bs.length) (h2 : j < cs.length), j < i → bs[j] = cs[j], fun n _ => (k.len - n).toNat, ⟨0, rfl, Nat.zero_le _, .refl _ _, fun j _ _ h => by omega⟩, ?_⟩
  rintro _ w39 ⟨i, rfl, hi, hx39, hno⟩
  refine ⟨k, (scell (hs8.ext hx39)).2.2.2.2.2.2, fun h => ?_, fun h => ?_⟩
  · have hlt : (i : Int) < ((k.len : Nat) : Int) := of_decide_eq_true h
    have hlt : i < bs.length := by omega
    have hlt' : i < cs.length := by omega
    have hd : Ext w39 w39.drew := Chg.drew (.refl _ _)
    have hx41 := Ext.trans hx39 hd
    have hX41 := Ext.trans hX8 hx41
    obtain ⟨A, hA, hbd, hrd⟩ := BR.get (hk.ext hX41) hlt
    obtain ⟨A', hA', hbd', hrd'⟩ := BR.get (hk'.ext hX41) hlt'
    have hms : (((k.len : Nat) : Int) - ((i : Int) + 1)).toNat < (((k.len : Nat) : Int) - (i : Int)).toNat := by omega
    refine nx ⟨id, k, (scell (hs8.ext hx41)).2.2.2.2.2.2, A, hA, hbd, id, _, hrd, id, k', (scell (ht8.ext hx41)).2.2.2.2.2.2, A', hA', hbd', id, _, hrd', _, eqBk _ _, fun hne => ⟨?_, hX41⟩, fun heq => ?_⟩
    · simp only [Bool.not_eq_true', decide_eq_false_iff_not] at hne
      congr 1; symm
      refine decide_eq_false fun e => hne ?_
      subst e; rfl
    · simp only [Bool.not_eq_false', decide_eq_true_eq] at heq
      rw [wrapi (n := (i : Int) + 1) (by omega) (by omega)]
      refine ⟨⟨i + 1, by omega, hlt, hx41, fun j h1 h2 hj => ?_⟩, hms⟩
      rcases Nat.lt_or_ge j i with h3 | h3
      · exact hno j h1 h2 h3
      · have : j = i := by omega
        subst this; exact heq
  · have hge : ¬ (i : Int) < ((k.len : Nat) : Int) := of_decide_eq_false h
    refine ⟨?_, Ext.trans hX8 hx39⟩
    congr 1; symm
    refine decide_eq_true (List.ext_getElem hll fun j h1 h2 => hno j h1 h2 (by omega))

theorem ref39_Same {t u : Sl} {X Y : List SM} (hX : SvL w t X) (hY : SvL w u Y) : Ret Try.prog F.ref39_Same #[.slice t.a t.len t.cap, .slice u.a u.len u.cap] w (fun v w' => v = .bool (decide (X.map SM.ab = Y.map SM.ab)) ∧ Ext w w') := by
  refine W.ref39_Same_ok t u w _ ?_
  unfold W.ref39_Same
  have hl := hX.len; have hl' := hY.len; have hXm := hX.lim
  refine ⟨fun hne => ⟨?_, .refl _ _⟩, fun heq => ?_⟩
  · simp only [bne_iff_ne] at hne
    congr 1; symm
    refine decide_eq_false fun e => hne ?_
    have := congrArg List.length e
    simp only [List.length_map] at this
    omega
  simp only [bne_eq_false_iff_eq] at heq
  have hll : X.length = Y.length := by omega
  refine ⟨fun n w' => ∃ i : Nat, n = i ∧ i ≤ X.length ∧ Ext w w' ∧ ∀ (j : Nat) (h1 : j < X.length) (h2 : j < Y.length), j < i → (X[j]).ab = (Y[j]).ab, fun n _ => (t.len - n).toNat, ⟨0, rfl, Nat.zero_le _, .refl _ _, fun j _ _ h => by omega⟩, ?_⟩
  rintro _ w4 ⟨i, rfl, hi, hx4, hno⟩
  refine ⟨fun h => ?_, fun h => ?_⟩
  · have hlt : (i : Int) < ((t.len : Nat) : Int) := of_decide_eq_true h
    have hlt : i < X.length := by omega
    have hlt' : i < Y.length := by omega
    have hd : Ext w4 w4.drew := Chg.drew (.refl _ _)
    have hx5 := Ext.trans hx4 hd
    obtain ⟨A, hA, hbd, hrd⟩ := (hX.ext hx5).get hlt
    obtain ⟨A', hA', hbd', hrd'⟩ := (hY.ext hx5).get hlt'
    have hms : (((t.len : Nat) : Int) - ((i : Int) + 1)).toNat < (((t.len : Nat) : Int) - (i : Int)).toNat := by omega
    refine nx ⟨A, hA, hbd, id, _, hrd, A', hA', hbd', id, _, hrd', (ref20_Same _ _ _ _ ((hX.ext hx5).bk _ (List.getElem_mem hlt)) ((hY.ext hx5).bk _ (List.getElem_mem hlt')) (by have := hX.few _ (List.getElem_mem hlt); omega)).use ?_⟩
    rintro _ w10 ⟨rfl, hx10⟩
    have hX10 := Ext.trans hx5 hx10
    have e : (decide ((X[i]).s = (Y[i]).s) && decide ((X[i]).bs = (Y[i]).bs)) = decide ((X[i]).ab = (Y[i]).ab) := by
      rw [Bool.eq_iff_iff]; simp [SM.ab]
    refine ⟨_, rfl, fun hne => ⟨?_, hX10⟩, fun heq2 => ?_⟩
    · rw [e] at hne
      simp only [Bool.not_eq_true', decide_eq_false_iff_not] at hne
      congr 1; symm
      refine decide_eq_false fun e2 => hne ?_
      have h1 : (X.map SM.ab)[i]? = (Y.map SM.ab)[i]? := by rw [e2]
      rw [List.getElem?_map, List.getElem?_map, List.getElem?_eq_getElem hlt, List.getElem?_eq_getElem hlt'] at h1
      simpa using h1
    · rw [e] at heq2
      simp only [Bool.not_eq_false', decide_eq_true_eq] at heq2
      rw [wrapi (n := (i : Int) + 1) (by omega) (by omega)]
      refine ⟨⟨i + 1, by omega, hlt, hX10, fun j h1 h2 hj => ?_⟩, hms⟩
      rcases Nat.lt_or_ge j i with h3 | h3
      · exact hno j h1 h2 h3
      · have : j = i := by omega
        subst this; exact heq2
  · have hge : ¬ (i : Int) < ((t.len : Nat) : Int) := of_decide_eq_false h
    refine ⟨?_, hx4⟩
    congr 1; symm
    refine decide_eq_true (List.ext_getElem (by simpa using hll) fun j h1 h2 => ?_)
    rw [List.getElem_map, List.getElem_map]
    exact hno j (by simpa using h1) (by simpa using h2) (by simp at h1; omega)

theorem ref20_At {p : Nat} {t : Sl} {X : List SM} (hv : Var w p [.slice t.a t.len t.cap] Ty.ref20_Farm) (hX : SvL w t X) (id : Int) : Ret Try.prog F.ref20_Farm_At #[.pointer (some ⟨p, 0, none⟩), .int .i64 id] w (fun v w' => v = .int .i64 (idxG (fun x => x.s.id == id) X) ∧ w = w') := by
  refine W.ref20_Farm_At_ok (some ⟨p, 0, none⟩) id w _ ?_
  unfold W.ref20_Farm_At
  have hl := hX.len; have hXm := hX.lim
  refine ⟨fun n w' => ∃ i : Nat, n = i ∧ i ≤ X.length ∧ w = w' ∧ ∀ (j : Nat) (hj : j < i) (h1 : j < X.length), ((X[j]).s.id == id) = false, fun n _ => (t.len - n).toNat, ⟨0, rfl, Nat.zero_le _, rfl, fun j h => by omega⟩, ?_⟩
  rintro _ _ ⟨i, rfl, hi, rfl, hno⟩
  refine ⟨_, rfl, t, hv.cell, fun h => ?_, fun h => ?_⟩
  · have hlt : (i : Int) < ((t.len : Nat) : Int) := of_decide_eq_true h
    have hlt : i < X.length := by omega
    obtain ⟨A, hA, hbd, hrd⟩ := hX.get hlt
    have hc := rdGet hrd (j := 0) (v := .int .i64 (X[i]).s.id) rfl
    rw [Nat.add_zero, add_zero'] at hc
    have hms : (((t.len : Nat) : Int) - ((i : Int) + 1)).toNat < (((t.len : Nat) : Int) - (i : Int)).toNat := by omega
    refine ⟨_, rfl, t, hv.cell, A, hA, hbd, _, hc, fun he => ⟨by rw [idxG_some hlt he fun j hj => hno j hj (by omega)], rfl⟩, fun he => ?_⟩
    rw [wrapi (n := (i : Int) + 1) (by omega) (by omega)]
    refine ⟨⟨i + 1, by omega, hlt, rfl, fun j hj h1 => ?_⟩, hms⟩
    rcases Nat.lt_or_ge j i with h3 | h3
    · exact hno j h3 h1
    · have : j = i := by omega
      subst this; exact he
  · have hge : ¬ (i : Int) < ((t.len : Nat) : Int) := of_decide_eq_false h
    exact ⟨by rw [idxG_none fun j hj => hno j (by omega) hj], rfl⟩

theorem ref20_Has (s : Sv) (k : Sl) {bs : List Bk} (hk : BR w k bs) (hn : bs.length ≤ 1000000) (id : Int) : Ret Try.prog F.ref20_Has #[.agg (s.c k).toArray, .int .i64 id] w (fun v w' => v = .int .i64 (idxG (fun b : Bk => b.id == id) bs) ∧ Ext w w') := by
  refine W.ref20_Has_ok _ id w _ ?_
  unfold W.ref20_Has
  have hl := BR.len hk
  refine nxVar (vs := s.c k) rfl fun w1 hv hx1 _ => ⟨fun n w' => ∃ i : Nat, n = i ∧ i ≤ bs.length ∧ w1 = w' ∧ ∀ (j : Nat) (hj : j < i) (h1 : j < bs.length), ((bs[j]).id == id) = false, fun n _ => (k.len - n).toNat, ⟨0, rfl, Nat.zero_le _, rfl, fun j h => by omega⟩, ?_⟩
  rintro _ _ ⟨i, rfl, hi, rfl, hno⟩
  refine ⟨k, (scell hv).2.2.2.2.2.2, fun h => ?_, fun h => ?_⟩
  · have hlt : (i : Int) < ((k.len : Nat) : Int) := of_decide_eq_true h
    have hlt : i < bs.length := by omega
    obtain ⟨A, hA, hbd, hrd⟩ := BR.get (hk.ext hx1) hlt
    have hc := rdGet hrd (j := 0) (v := .int .i64 (bs[i]).id) rfl
    rw [Nat.add_zero, add_zero'] at hc
    have hms : (((k.len : Nat) : Int) - ((i : Int) + 1)).toNat < (((k.len : Nat) : Int) - (i : Int)).toNat := by omega
    refine ⟨k, (scell hv).2.2.2.2.2.2, A, hA, hbd, _, hc, fun he => ⟨by rw [idxG_some hlt he fun j hj => hno j hj (by omega)], hx1⟩, fun he => ?_⟩
    rw [wrapi (n := (i : Int) + 1) (by omega) (by omega)]
    refine ⟨⟨i + 1, by omega, hlt, rfl, fun j hj h1 => ?_⟩, hms⟩
    rcases Nat.lt_or_ge j i with h3 | h3
    · exact hno j h3 h1
    · have : j = i := by omega
      subst this; exact he
  · have hge : ¬ (i : Int) < ((k.len : Nat) : Int) := of_decide_eq_false h
    exact ⟨by rw [idxG_none fun j hj => hno j (by omega) hj], hx1⟩

/-! ### Whether a service is laid -/
def bkL : Bk := { Bk.zero with id := 1, port := 8080 }
def svL : Sv := { Sv.zero with id := 7, port := 80, proto := 6, lasts := 1 }
theorem mkBkL (w : World) : Sem.run Try.prog (Instr.build Ty.api_Backend #[(0, .int .i64 1), (2, .int .u16 8080)]) w = .ok (.agg bkL.c.toArray) w := by kernel_rfl
theorem mkSvL (w : World) (k : Sl) : Sem.run Try.prog (Instr.build Ty.api_Service #[(0, .int .i64 7), (2, .int .u16 80), (3, .int .u8 6), (5, .int .u64 1), (6, .slice k.a k.len k.cap)]) w = .ok (.agg (svL.c k).toArray) w := by kernel_rfl
theorem lives_e : diffE [] [(svL, [bkL])] = 0 := by decide +kernel
theorem lives_n : (diffL [] [(svL, [bkL])]).length = 2 := by decide +kernel
theorem lives_a : applyL [] (diffL [] [(svL, [bkL])]) 0 = (2, 0, [(svL, [bkL])]) := by decide +kernel

theorem conf_Steps {u : Sl} {Y : List SM} (hY : SvL w u Y) : Ret Try.prog F.conf_Steps #[.slice u.a u.len u.cap] w
    (fun v w' => ∃ (s : Sl) (O : List OpM), v = .tuple #[.slice s.a s.len s.cap, .int .i64 (diffE [] (Y.map SM.ab))] ∧ O = (if diffE [] (Y.map SM.ab) = 0 then diffL [] (Y.map SM.ab) else []) ∧ OwnS 51 Ty.api_Op w' s (opsC O) ∧ Ext w w' ∧ ∀ q, ownB s q → w.heap.size ≤ q) := by
  refine W.conf_Steps_ok u w _ ?_
  unfold W.conf_Steps
  have h0 : SvL w nilS [] := ⟨(OwnS.none 23 Ty.api_Service w).src, by simp, by simp, by simp⟩
  refine (conf_diff h0 hY).use ?_
  rintro _ w1 ⟨s, O, rfl, h1⟩
  exact ⟨s, _, rfl, s, O, rfl, h1⟩
theorem conf_Diff {t u : Sl} {X Y : List SM} (hX : SvL w t X) (hY : SvL w u Y) : Ret Try.prog F.conf_Diff #[.slice t.a t.len t.cap, .slice u.a u.len u.cap] w
    (fun v w' => ∃ (s : Sl) (O : List OpM), v = .tuple #[.slice s.a s.len s.cap, .int .i64 (diffE (X.map SM.ab) (Y.map SM.ab))] ∧ O = (if diffE (X.map SM.ab) (Y.map SM.ab) = 0 then diffL (X.map SM.ab) (Y.map SM.ab) else []) ∧ OwnS 51 Ty.api_Op w' s (opsC O) ∧ Ext w w' ∧ ∀ q, ownB s q → w.heap.size ≤ q) := by
  refine W.conf_Diff_ok t u w _ ?_
  unfold W.conf_Diff
  refine (conf_diff hX hY).use ?_
  rintro _ w1 ⟨s, O, rfl, h1⟩
  exact ⟨s, _, rfl, s, O, rfl, h1⟩

theorem law39_lives (w : World) : Ret Try.prog F.law39_lives #[] w (fun v w' => v = .bool true ∧ Ext w w') := by
  refine W.law39_lives_ok w _ ?_
  unfold W.law39_lives
  refine (farm_New w).use ?_
  rintro _ w1 ⟨fm, rfl, h1, hx1, hf1⟩
  have hb1 := buildBk bkL w1
  have ob : OwnS 21 Ty.api_Backend (w1.alloc (.cells bkL.c.toArray Ty.api_Backend)) ⟨some ⟨w1.heap.size, 0, none⟩, 1, 1⟩ (bksC [bkL]) := by
    rw [bksC_one]; exact OwnS.new w1 _ 1 (by rw [Bk.c_length]) (by decide)
  obtain ⟨w6, hw6⟩ : ∃ w6, w6 = w1.alloc (.cells bkL.c.toArray Ty.api_Backend) := ⟨_, rfl⟩
  rw [← hw6] at hb1 ob
  have hx6 : Ext w1 w6 := by rw [hw6]; exact Chg.alloc (.refl _ _) _
  have hb2 := buildSv svL ⟨some ⟨w1.heap.size, 0, none⟩, 1, 1⟩ w6
  obtain ⟨w9, hw9⟩ : ∃ w9, w9 = w6.alloc (.cells (svL.c ⟨some ⟨w1.heap.size, 0, none⟩, 1, 1⟩).toArray Ty.api_Service) := ⟨_, rfl⟩
  have hx9 : Ext w6 w9 := by rw [hw9]; exact Chg.alloc (.refl _ _) _
  have hY : SvL w9 ⟨some ⟨w6.heap.size, 0, none⟩, 1, 1⟩ [⟨svL, ⟨some ⟨w1.heap.size, 0, none⟩, 1, 1⟩, [bkL]⟩] := by
    refine ⟨?_, fun x hx => ?_, fun x hx => ?_, by simp⟩
    · rw [smC_one, hw9]; exact Src.new _ _ 1 (by rw [Sv.c_length])
    · rw [List.mem_singleton.1 hx]; exact (ob.ext hx9).src
    · rw [List.mem_singleton.1 hx]; simp
  rw [← hw9] at hb2
  have hX9 : Ext w1 w9 := Ext.trans hx6 hx9
  refine ⟨_, rfl, _, mkBkL w1, ⟨some ⟨w1.heap.size, 0, none⟩, 1, 1⟩, w6, hb1, _, mkSvL w6 _, ⟨some ⟨w6.heap.size, 0, none⟩, 1, 1⟩, w9, hb2, (conf_Steps hY).use ?_⟩
  rintro _ w10 ⟨s12, O, rfl, hO, ho, hx10, hf10⟩
  have eY : List.map SM.ab [⟨svL, ⟨some ⟨w1.heap.size, 0, none⟩, 1, 1⟩, [bkL]⟩] = [(svL, [bkL])] := rfl
  rw [eY] at hO
  rw [eY, lives_e]
  rw [lives_e, if_pos rfl] at hO
  have hol : s12.len = 2 := by
    have := ho.1
    rw [opsC_length, hO, lives_n] at this; omega
  have h10 := h1.ext (Ext.trans hX9 hx10)
  have hdis : ∀ q, ownB s12 q → ¬ foot fm [] q := fun q hq hfq => by
    have := h1.lt hfq
    have := hf10 q hq
    have := hX9.size
    omega
  refine ⟨s12, _, rfl, (conf_Apply h10 (t := s12) (O := O) (fun w' hc => (ho.chg hc hdis).src) (by rw [hO, lives_n]; decide)).use ?_⟩
  have eA : applyL (absR []) O 0 = (2, 0, [(svL, [bkL])]) := by rw [hO]; exact lives_a
  rw [eA]
  rintro _ w14 ⟨rfl, R', h14, hab, hc14, hf14⟩
  have hX10 : Ext w w10 := Ext.trans hx1 (Ext.trans hX9 hx10)
  have hX14 : Ext w w14 := Ext.of_new hX10 hc14 hf1
  refine ⟨_, _, rfl, Jn1 (fun b w' => b = true ∧ Ext w w') (fun q hq => ⟨fun _ => (conf_Of h14 fun r hr => ?_).use ?_, fun hb => ?_⟩) (fun b w' h => ⟨by rw [h.1], h.2⟩)⟩
  · have : (r.s, r.bs) ∈ absR R' := List.mem_map.2 ⟨r, hr, rfl⟩
    rw [hab, List.mem_singleton] at this
    have h2 : r.s = svL := congrArg Prod.fst this
    rw [h2]; rfl
  · rintro _ w19 ⟨s21, X, rfl, hXa, hoX, hx19, _⟩
    refine ⟨s21, rfl, hq _ _ ⟨?_, Ext.trans hX14 hx19⟩⟩
    have h1 : X.length = 1 := by
      have := congrArg List.length hXa
      rw [hab, List.length_map] at this
      exact this
    have h2 : s21.len = 1 := by have := hoX.o.1; rw [smC_length] at this; omega
    rw [h2]; rfl
  · rw [hol] at hb
    exact absurd hb (by decide)

end Go.Proofs.Ytldeegpcldhjaaa
