/- The steps from some services to others: alike, of, at, the differ. -/
import Derived.Test.YtldeegpcldhjaaaConfI
namespace Go.Proofs.Ytldeegpcldhjaaa
open Go Gx

variable {w w' : World}

/-! ### The first place where something holds -/
section
variable {α : Type} {g : α → Bool} {l : List α}
def idxG (g : α → Bool) (l : List α) : Int := if l.findIdx g < l.length then ((l.findIdx g : Nat) : Int) else -1
theorem idxG_some {k : Nat} (h : k < l.length) (h1 : g l[k] = true) (h2 : ∀ (j : Nat) (hj : j < k), g (l[j]'(by omega)) = false) : idxG g l = k := by
  have e : l.findIdx g = k := (List.findIdx_eq h).2 ⟨h1, fun j hj => h2 j hj⟩
  unfold idxG
  rw [e, if_pos h]
theorem idxG_none (h : ∀ (j : Nat) (hj : j < l.length), g l[j] = false) : idxG g l = -1 := by
  unfold idxG
  rw [if_neg]
  intro hl
  have h1 := List.findIdx_getElem (w := hl)
  rw [h] at h1; cases h1
theorem idxG_cases (g : α → Bool) (l : List α) : (∃ (k : Nat) (h : k < l.length), idxG g l = k ∧ l.find? g = some l[k]) ∨ (idxG g l = -1 ∧ l.find? g = none) := by
  unfold idxG
  by_cases hl : l.findIdx g < l.length
  · left
    rw [if_pos hl]
    refine ⟨_, hl, rfl, ?_⟩
    rw [List.find?_eq_some_iff_getElem]
    refine ⟨List.findIdx_getElem (w := hl), _, hl, rfl, fun j hj => ?_⟩
    have := List.not_of_lt_findIdx hj
    simpa using this
  · right
    rw [if_neg hl]
    refine ⟨rfl, List.find?_eq_none.2 fun x hx hg => ?_⟩
    have := List.findIdx_lt_length_of_exists ⟨x, hx, hg⟩
    omega
end

theorem IndexSv (f : Fv) (g : SM → Bool) {s : Sl} {l : List SM} {w : World} (hs : SvL w s l) (hn : l.length ≤ 1000000) (hc : Callable Try.prog f.f)
    (hf : ∀ w1, Ext w w1 → ∀ r ∈ l, Ret Try.prog f.f (f.pre ++ #[.agg (r.s.c r.k).toArray] ++ f.cap) w1 (fun v w' => v = .bool (g r) ∧ Ext w1 w')) :
    Ret Try.prog F.slices_IndexFunc_Sl_api_Service_api_Service #[.slice s.a s.len s.cap, .func (.func f.f) f.pre f.cap] w (fun v w' => v = .int .i64 (idxG g l) ∧ Ext w w') := by
  refine W.slices_IndexFunc_Sl_api_Service_api_Service_ok s f w _ ?_
  unfold W.slices_IndexFunc_Sl_api_Service_api_Service
  have hl := hs.len
  refine ⟨fun i w' => ∃ k : Nat, i = k ∧ k ≤ l.length ∧ Ext w w' ∧ ∀ (j : Nat) (hj : j < k) (h2 : j < l.length), g l[j] = false, fun i _ => (s.len - i).toNat, ⟨0, rfl, Nat.zero_le _, .refl _ _, fun j hj => by omega⟩, ?_⟩
  rintro _ w4 ⟨k, rfl, hk, hx4, hno⟩
  refine ⟨fun h => ?_, fun h => ?_⟩
  · have hlt : (k : Int) < ((s.len : Nat) : Int) := of_decide_eq_true h
    have hlt : k < l.length := by have := hl; omega
    obtain ⟨A, hA, hb, hr⟩ := SvL.get (hs.ext hx4) hlt
    refine ⟨A, hA, hb, _, hr, hc, (hf w4 hx4 _ (List.getElem_mem hlt)).use ?_⟩
    rintro _ w7 ⟨rfl, hx7⟩
    have hX7 := Ext.trans hx4 hx7
    have hms : (((s.len : Nat) : Int) - ((k : Int) + 1)).toNat < (((s.len : Nat) : Int) - (k : Int)).toNat := by omega
    refine ⟨_, rfl, fun h => ⟨by rw [idxG_some hlt h (fun j hj => hno j hj (by omega))], hX7⟩, fun h => ?_⟩
    rw [wrapi (n := (k : Int) + 1) (by omega) (by omega)]
    refine ⟨⟨k + 1, by omega, hlt, hX7, fun j hj h2 => ?_⟩, hms⟩
    rcases Nat.lt_or_ge j k with h3 | h3
    · exact hno j h3 h2
    · have : j = k := by omega
      subst this; exact h
  · have hge : ¬((k : Int) < ((s.len : Nat) : Int)) := of_decide_eq_false h
    exact ⟨by rw [idxG_none (fun j hj => hno j (by have := hl; omega) hj)], hx4⟩

theorem IndexBk (f : Fv) (g : Bk → Bool) {s : Sl} {l : List Bk} {w : World} (hs : BR w s l) (hn : l.length ≤ 1000000) (hc : Callable Try.prog f.f)
    (hf : ∀ w1, Ext w w1 → ∀ r ∈ l, Ret Try.prog f.f (f.pre ++ #[.agg (r.c).toArray] ++ f.cap) w1 (fun v w' => v = .bool (g r) ∧ Ext w1 w')) :
    Ret Try.prog F.slices_IndexFunc_Sl_api_Backend_api_Backend #[.slice s.a s.len s.cap, .func (.func f.f) f.pre f.cap] w (fun v w' => v = .int .i64 (idxG g l) ∧ Ext w w') := by
  refine W.slices_IndexFunc_Sl_api_Backend_api_Backend_ok s f w _ ?_
  unfold W.slices_IndexFunc_Sl_api_Backend_api_Backend
  have hl := hs.len
  refine ⟨fun i w' => ∃ k : Nat, i = k ∧ k ≤ l.length ∧ Ext w w' ∧ ∀ (j : Nat) (hj : j < k) (h2 : j < l.length), g l[j] = false, fun i _ => (s.len - i).toNat, ⟨0, rfl, Nat.zero_le _, .refl _ _, fun j hj => by omega⟩, ?_⟩
  rintro _ w4 ⟨k, rfl, hk, hx4, hno⟩
  refine ⟨fun h => ?_, fun h => ?_⟩
  · have hlt : (k : Int) < ((s.len : Nat) : Int) := of_decide_eq_true h
    have hlt : k < l.length := by have := BR.len hs; omega
    obtain ⟨A, hA, hb, hr⟩ := BR.get (hs.ext hx4) hlt
    refine ⟨A, hA, hb, _, hr, hc, (hf w4 hx4 _ (List.getElem_mem hlt)).use ?_⟩
    rintro _ w7 ⟨rfl, hx7⟩
    have hX7 := Ext.trans hx4 hx7
    have hms : (((s.len : Nat) : Int) - ((k : Int) + 1)).toNat < (((s.len : Nat) : Int) - (k : Int)).toNat := by omega
    refine ⟨_, rfl, fun h => ⟨by rw [idxG_some hlt h (fun j hj => hno j hj (by omega))], hX7⟩, fun h => ?_⟩
    rw [wrapi (n := (k : Int) + 1) (by omega) (by omega)]
    refine ⟨⟨k + 1, by omega, hlt, hX7, fun j hj h2 => ?_⟩, hms⟩
    rcases Nat.lt_or_ge j k with h3 | h3
    · exact hno j h3 h2
    · have : j = k := by omega
      subst this; exact h
  · have hge : ¬((k : Int) < ((s.len : Nat) : Int)) := of_decide_eq_false h
    exact ⟨by rw [idxG_none (fun j hj => hno j (by have := BR.len hs; omega) hj)], hx4⟩


theorem Sv.eq_chain (s t : Sv) : ((((((s.id == t.id) && decide (s.addr = t.addr)) && (s.port == t.port)) && (s.proto == t.proto)) && (s.bits == t.bits)) && (s.lasts == t.lasts)) = decide (s = t) := by
  rw [Bool.eq_iff_iff, decide_eq_true_eq]
  simp only [Bool.and_eq_true, beq_iff_eq, decide_eq_true_eq]
  constructor
  · rintro ⟨⟨⟨⟨⟨h1, h2⟩, h3⟩, h4⟩, h5⟩, h6⟩
    cases s; cases t; simp_all
  · rintro rfl; simp
theorem conf_alike (s t : Sv) (k k' : Sl) (w : World) : Ret Try.prog F.conf_alike #[.agg (s.c k).toArray, .agg (t.c k').toArray] w (fun v w' => v = .bool (decide (s = t)) ∧ Ext w w') := by
  refine W.conf_alike_ok _ _ w _ ?_
  unfold W.conf_alike
  refine nxVar (vs := s.c k) rfl fun w1 hs hx1 _ => nxVar (vs := t.c k') rfl fun w2 ht hx2 _ => ?_
  have hs := hs.ext hx2
  have hX2 := Ext.trans hx1 hx2
  refine ⟨_, (scell hs).1, _, (scell ht).1, jnAnd (decide (s.addr = t.addr)) (fun _ q hq => ⟨_, srd hs, _, srd ht, _, eqAd _ _, hq _ (.refl _ _)⟩) fun w3 hx3 => ?_⟩
  have hs3 := hs.ext hx3; have ht3 := ht.ext hx3
  refine jnAnd (s.port == t.port) (fun _ q hq => ⟨_, (scell hs3).2.2.1, _, (scell ht3).2.2.1, hq _ (.refl _ _)⟩) fun w4 hx4 => ?_
  have hs4 := hs3.ext hx4; have ht4 := ht3.ext hx4
  refine jnAnd (s.proto == t.proto) (fun _ q hq => ⟨_, (scell hs4).2.2.2.1, _, (scell ht4).2.2.2.1, hq _ (.refl _ _)⟩) fun w5 hx5 => ?_
  have hs5 := hs4.ext hx5; have ht5 := ht4.ext hx5
  refine jnAnd (s.bits == t.bits) (fun _ q hq => ⟨_, (scell hs5).2.2.2.2.1, _, (scell ht5).2.2.2.2.1, hq _ (.refl _ _)⟩) fun w6 hx6 => ?_
  have hs6 := hs5.ext hx6; have ht6 := ht5.ext hx6
  refine jnAnd (s.lasts == t.lasts) (fun _ q hq => ⟨_, (scell hs6).2.2.2.2.2.1, _, (scell ht6).2.2.2.2.2.1, hq _ (.refl _ _)⟩) fun w7 hx7 => ?_
  exact ⟨by rw [Sv.eq_chain], Ext.trans hX2 (Ext.trans hx3 (Ext.trans hx4 (Ext.trans hx5 (Ext.trans hx6 hx7))))⟩

theorem conf_of_1 {b : Nat} {s : Sv} {k : Sl} (t : Sv) (k' : Sl) (hs : Var w b (s.c k) Ty.api_Service) : Ret Try.prog F.conf_of_1 #[.agg (t.c k').toArray, .pointer (some ⟨b, 0, none⟩)] w (fun v w' => v = .bool (decide (s = t)) ∧ Ext w w') := by
  refine W.conf_of_1_ok _ _ w _ ?_
  unfold W.conf_of_1
  refine nxVar (vs := t.c k') rfl fun w1 ht hx1 _ => ⟨_, (hs.ext hx1).rd (Sv.c_length _ _), _, ht.rd (Sv.c_length _ _), (conf_alike s t k k' w1).use ?_⟩
  rintro _ w4 ⟨rfl, hx4⟩
  exact ⟨_, rfl, rfl, Ext.trans hx1 hx4⟩

def ofL (X : List SM) (s : Sv) : Option SM := X.find? fun x => decide (s = x.s)
def ofC : Option SM → List Value
  | some x => x.s.c x.k
  | none => Sv.zero.c nilS
theorem conf_of {t : Sl} {X : List SM} (s : Sv) (k : Sl) (hl : SvL w t X) : Ret Try.prog F.conf_of #[.slice t.a t.len t.cap, .agg (s.c k).toArray] w (fun v w' => v = .tuple #[.agg (ofC (ofL X s)).toArray, .bool (ofL X s).isSome] ∧ Ext w w') := by
  refine W.conf_of_ok t _ w _ ?_
  unfold W.conf_of
  refine nxVar (vs := s.c k) rfl fun w1 hs hx1 hs1 => nxVar (vs := Sv.zero.c nilS) (by kernel_rfl) fun w2 hz hx2 _ => ?_
  have hX2 := Ext.trans hx1 hx2
  have hl2 := hl.ext hX2
  refine (IndexSv ⟨F.conf_of_1, #[], #[.pointer (some ⟨w.heap.size, 0, none⟩)]⟩ (fun x => decide (s = x.s)) hl2 (by have := hl.lim; omega) ⟨_, (Option.some_get (show (Try.prog.funcs[F.conf_of_1]?).isSome = true by kernel_rfl)).symm, by kernel_rfl, by kernel_rfl⟩ (fun w3 hx3 x _ => conf_of_1 x.s x.k ((hs.ext hx2).ext hx3))).use ?_
  rintro _ w3 ⟨rfl, hx3⟩
  have hz3 := hz.ext hx3
  have hX3 := Ext.trans hX2 hx3
  have fin : ∀ (vs : List Value) (b : Bool), vs.length = 23 → (∀ v ∈ vs, Plain v) → (ofC (ofL X s) = vs ∧ (ofL X s).isSome = b) →
      StoreOk w3 ⟨w1.heap.size, 0, none⟩ vs ∧ ∀ K : World → Prop, (∀ w', rdCells w' ⟨w1.heap.size, 0, none⟩ 0 23 = some vs → Ext w w' → K w') → Nx (setCells w3 ⟨w1.heap.size, 0, none⟩ 0 vs) K := by
    intro vs b hv hp _
    refine ⟨hz3.storeOk (by rw [hv, Sv.c_length]) hp, fun K hK => nxPut hz3 (us := vs) (by rw [hv, Sv.c_length]) rfl fun w7 h7 hc7 _ => hK _ (h7.rd hv) (Ext.of_chg hX3 hc7 (by have := hx1.size; omega))⟩
  refine ⟨_, rfl, ?_⟩
  rcases idxG_cases (fun x : SM => decide (s = x.s)) X with ⟨i, hi, he, hf⟩ | ⟨he, hf⟩
  · rw [he]
    have hof : ofL X s = some X[i] := hf
    obtain ⟨A, hA, hbd, hr⟩ := (hl2.ext hx3).get hi
    refine ⟨fun h => by have := of_decide_eq_true h; omega, fun _ => ⟨A, hA, hbd, _, hr, ?_⟩⟩
    obtain ⟨f1, f2⟩ := fin _ true (Sv.c_length (X[i]).s (X[i]).k) (Sv.plain _ _) ⟨by rw [hof]; rfl, by rw [hof]; rfl⟩
    exact ⟨f1, by simp [Sv.c_length], f2 _ fun w7 h7 hX7 => ⟨_, h7, by rw [hof]; rfl, hX7⟩⟩
  · rw [he]
    have hof : ofL X s = none := hf
    refine ⟨fun _ => ⟨_, mkSv0 _, ?_⟩, fun h => by simp at h⟩
    obtain ⟨f1, f2⟩ := fin _ false (Sv.c_length Sv.zero nilS) (Sv.plain _ _) ⟨by rw [hof]; rfl, by rw [hof]; rfl⟩
    exact ⟨f1, by simp [Sv.c_length], f2 _ fun w7 h7 hX7 => ⟨_, h7, by rw [hof]; rfl, hX7⟩⟩

/-- Two backends at one place. -/
def sameAt (c b : Bk) : Bool := ((c.id == b.id) && decide (c.addr = b.addr)) && (c.port == b.port)
theorem conf_at_1 {b : Nat} {x : Bk} (c : Bk) (hx : Var w b x.c Ty.api_Backend) : Ret Try.prog F.conf_at_1 #[.agg c.c.toArray, .pointer (some ⟨b, 0, none⟩)] w (fun v w' => v = .bool (sameAt c x) ∧ Ext w w') := by
  refine W.conf_at_1_ok _ _ w _ ?_
  unfold W.conf_at_1
  refine nxVar (vs := c.c) rfl fun w1 hc hx1 _ => ?_
  have hx := hx.ext hx1
  refine ⟨_, (bcell hc).1, _, (bcell hx).1, jnAnd (decide (c.addr = x.addr)) (fun _ q hq => ⟨_, brd hc, _, brd hx, _, eqAd _ _, hq _ (.refl _ _)⟩) fun w3 hx3 => ?_⟩
  have hc3 := hc.ext hx3; have hx4 := hx.ext hx3
  exact jnAnd (c.port == x.port) (fun _ q hq => ⟨_, (bcell hc3).2.2.1, _, (bcell hx4).2.2.1, hq _ (.refl _ _)⟩) fun w4 hx5 => ⟨rfl, Ext.trans hx1 (Ext.trans hx3 hx5)⟩
def atL (l : List Bk) (b : Bk) : Option Bk := l.find? fun c => sameAt c b
def atC (o : Option Bk) : Bk := o.getD Bk.zero
theorem conf_at {t : Sl} {l : List Bk} (b : Bk) (hl : BR w t l) (hn : l.length ≤ 1000) : Ret Try.prog F.conf_at #[.slice t.a t.len t.cap, .agg b.c.toArray] w (fun v w' => v = .tuple #[.agg (atC (atL l b)).c.toArray, .bool (atL l b).isSome] ∧ Ext w w') := by
  refine W.conf_at_ok t _ w _ ?_
  unfold W.conf_at
  refine nxVar (vs := b.c) rfl fun w1 hs hx1 hs1 => nxVar (vs := Bk.zero.c) (by kernel_rfl) fun w2 hz hx2 _ => ?_
  have hX2 := Ext.trans hx1 hx2
  have hl2 : BR w2 t l := hl.ext hX2
  refine (IndexBk ⟨F.conf_at_1, #[], #[.pointer (some ⟨w.heap.size, 0, none⟩)]⟩ (fun c => sameAt c b) hl2 (by omega) ⟨_, (Option.some_get (show (Try.prog.funcs[F.conf_at_1]?).isSome = true by kernel_rfl)).symm, by kernel_rfl, by kernel_rfl⟩ (fun w3 hx3 x _ => conf_at_1 x ((hs.ext hx2).ext hx3))).use ?_
  rintro _ w3 ⟨rfl, hx3⟩
  have hz3 := hz.ext hx3
  have hX3 := Ext.trans hX2 hx3
  have fin : ∀ (x : Bk), StoreOk w3 ⟨w1.heap.size, 0, none⟩ x.c ∧ ∀ K : World → Prop, (∀ w', rdCells w' ⟨w1.heap.size, 0, none⟩ 0 21 = some x.c → Ext w w' → K w') → Nx (setCells w3 ⟨w1.heap.size, 0, none⟩ 0 x.c) K := by
    intro x
    refine ⟨hz3.storeOk (by rw [x.c_length, Bk.c_length]) x.plain, fun K hK => nxPut hz3 (us := x.c) (by rw [x.c_length, Bk.c_length]) rfl fun w7 h7 hc7 _ => hK _ (h7.rd x.c_length) (Ext.of_chg hX3 hc7 (by have := hx1.size; omega))⟩
  refine ⟨_, rfl, ?_⟩
  rcases idxG_cases (fun c : Bk => sameAt c b) l with ⟨i, hi, he, hf⟩ | ⟨he, hf⟩
  · rw [he]
    have hof : atL l b = some l[i] := hf
    obtain ⟨A, hA, hbd, hr⟩ := BR.get (hl2.ext hx3) hi
    refine ⟨fun h => by have := of_decide_eq_true h; omega, fun _ => ⟨A, hA, hbd, _, hr, ?_⟩⟩
    obtain ⟨f1, f2⟩ := fin l[i]
    exact ⟨f1, by simp [Bk.c_length], f2 _ fun w7 h7 hX7 => ⟨_, h7, by rw [hof]; rfl, hX7⟩⟩
  · rw [he]
    have hof : atL l b = none := hf
    refine ⟨fun _ => ⟨_, mkBk0 _, ?_⟩, fun h => by simp at h⟩
    obtain ⟨f1, f2⟩ := fin Bk.zero
    exact ⟨f1, by simp [Bk.c_length], f2 _ fun w7 h7 hX7 => ⟨_, h7, by rw [hof]; rfl, hX7⟩⟩

/-! ### Steps in memory -/
structure OpM where
  kind : Int
  data : Sl
  id : Int
  bid : Int
  n : Int
  on : Bool
  s : Sv
  k : Sl
  to : Bk
  l : Sl
def OpM.c (o : OpM) : List Value := [.int .i64 o.kind, .slice o.data.a o.data.len o.data.cap, .int .i64 o.id, .int .i64 o.bid, .int .u64 o.n, .bool o.on] ++ (o.s.c o.k ++ (o.to.c ++ [.slice o.l.a o.l.len o.l.cap]))
theorem OpM.c_length (o : OpM) : o.c.length = 51 := by simp [OpM.c, Sv.c_length, Bk.c_length]
theorem OpM.plain (o : OpM) : ∀ v ∈ o.c, Plain v := by
  intro v hv
  rcases List.mem_append.1 hv with hv | hv
  · simp only [List.mem_cons, List.not_mem_nil, or_false] at hv
    rcases hv with rfl | rfl | rfl | rfl | rfl | rfl <;> trivial
  rcases List.mem_append.1 hv with hv | hv
  · exact o.s.plain _ v hv
  rcases List.mem_append.1 hv with hv | hv
  · exact o.to.plain v hv
  · rw [List.mem_singleton.1 hv]; trivial
def opsC (O : List OpM) : List Value := (O.map OpM.c).flatten
theorem opsC_length : ∀ O : List OpM, (opsC O).length = O.length * 51
  | [] => rfl
  | o :: O => by
    show (o.c ++ opsC O).length = _
    rw [List.length_append, opsC_length O, OpM.c_length, List.length_cons]; omega
theorem opsC_app (a b : List OpM) : opsC (a ++ b) = opsC a ++ opsC b := by simp [opsC]
theorem opsC_one (o : OpM) : opsC [o] = o.c := by simp [opsC]
theorem opsC_drop : ∀ (X : List OpM) (i : Nat), (opsC X).drop (i * 51) = opsC (X.drop i)
  | [], i => by simp [opsC]
  | x :: X, 0 => by simp
  | x :: X, i + 1 => by
    show (x.c ++ opsC X).drop _ = opsC (X.drop i)
    rw [List.drop_append, List.drop_of_length_le (by rw [OpM.c_length]; omega), OpM.c_length, show (i + 1) * 51 - 51 = i * 51 by omega, opsC_drop X i]; rfl
theorem appOp : AppT Try.prog Ty.Sl_api_Op Ty.api_Op 51 208 := ⟨by kernel_rfl⟩

def opZ : OpM := ⟨0, nilS, 0, 0, 0, false, Sv.zero, nilS, Bk.zero, nilS⟩
def oAddS (s : Sv) : OpM := { opZ with kind := 3, s := s }
def oDropS (id : Int) : OpM := { opZ with kind := 4, id := id }
def oAddB (id : Int) (b : Bk) : OpM := { opZ with kind := 5, id := id, to := b }
def oDropB (id bid : Int) : OpM := { opZ with kind := 6, id := id, bid := bid }
def oDrain (id bid : Int) (on : Bool) : OpM := { opZ with kind := 7, id := id, bid := bid, on := on }
def oWeigh (id bid n : Int) : OpM := { opZ with kind := 8, id := id, bid := bid, n := n }
theorem mkAddS (w : World) (s : Sv) : Sem.run Try.prog (Instr.build Ty.api_Op #[(0, .int .i64 3), (6, .agg (s.c nilS).toArray)]) w = .ok (.agg (oAddS s).c.toArray) w := by
  obtain ⟨id, ⟨six, b, h⟩, port, proto, bits, lasts⟩ := s
  obtain ⟨x0, x1, x2, x3, x4, x5, x6, x7, x8, x9, x10, x11, x12, x13, x14, x15, rfl⟩ := list16 b h
  kernel_rfl
theorem mkDropS (w : World) (id : Int) : Sem.run Try.prog (Instr.build Ty.api_Op #[(0, .int .i64 4), (2, .int .i64 id)]) w = .ok (.agg (oDropS id).c.toArray) w := by kernel_rfl
theorem mkAddB (w : World) (id : Int) (b : Bk) : Sem.run Try.prog (Instr.build Ty.api_Op #[(0, .int .i64 5), (2, .int .i64 id), (7, .agg b.c.toArray)]) w = .ok (.agg (oAddB id b).c.toArray) w := by
  obtain ⟨bid, ⟨six, b, h⟩, port, weight, drained⟩ := b
  obtain ⟨x0, x1, x2, x3, x4, x5, x6, x7, x8, x9, x10, x11, x12, x13, x14, x15, rfl⟩ := list16 b h
  kernel_rfl
theorem mkDropB (w : World) (id bid : Int) : Sem.run Try.prog (Instr.build Ty.api_Op #[(0, .int .i64 6), (2, .int .i64 id), (3, .int .i64 bid)]) w = .ok (.agg (oDropB id bid).c.toArray) w := by kernel_rfl
theorem mkDrain (w : World) (id bid : Int) (on : Bool) : Sem.run Try.prog (Instr.build Ty.api_Op #[(0, .int .i64 7), (2, .int .i64 id), (3, .int .i64 bid), (5, .bool on)]) w = .ok (.agg (oDrain id bid on).c.toArray) w := by kernel_rfl
theorem mkWeigh (w : World) (id bid n : Int) : Sem.run Try.prog (Instr.build Ty.api_Op #[(0, .int .i64 8), (2, .int .i64 id), (3, .int .i64 bid), (4, .int .u64 n)]) w = .ok (.agg (oWeigh id bid n).c.toArray) w := by kernel_rfl
theorem buildOp (o : OpM) (w : World) : Sem.run Try.prog (Instr.buildSlice Ty.Sl_api_Op 1 #[(0, .agg o.c.toArray)]) w = .ok (.slice (some ⟨w.heap.size, 0, none⟩) 1 1) (w.alloc (.cells o.c.toArray Ty.api_Op)) := by
  obtain ⟨kind, data, id, bid, n, on, ⟨sid, ⟨six, b, h⟩, port, proto, bits, lasts⟩, k, ⟨tid, ⟨six2, b2, h2⟩, tport, weight, drained⟩, l⟩ := o
  obtain ⟨x0, x1, x2, x3, x4, x5, x6, x7, x8, x9, x10, x11, x12, x13, x14, x15, rfl⟩ := list16 b h
  obtain ⟨y0, y1, y2, y3, y4, y5, y6, y7, y8, y9, y10, y11, y12, y13, y14, y15, rfl⟩ := list16 b2 h2
  kernel_rfl

/-- The differ, and the steps that it has. -/
structure DfAt (w : World) (d : Nat) (s : Sl) (O : List OpM) : Prop where
  v : Var w d [.slice s.a s.len s.cap] Ty.conf_differ
  o : OwnS 51 Ty.api_Op w s (opsC O)
variable {d : Nat} {s : Sl} {O : List OpM}
def dfB (d : Nat) (s : Sl) (q : Nat) : Prop := q = d ∨ ownB s q
theorem DfAt.chg {W : Nat → Prop} (h : DfAt w d s O) (hc : Chg W w w') (hn : ∀ q, dfB d s q → ¬ W q) : DfAt w' d s O := ⟨h.v.chg hc (hn _ (.inl rfl)), h.o.chg hc fun q hq => hn q (.inr hq)⟩
theorem DfAt.ext (h : DfAt w d s O) (hc : Ext w w') : DfAt w' d s O := h.chg hc fun _ _ h => h
theorem DfAt.lt (h : DfAt w d s O) {q : Nat} (hq : dfB d s q) : q < w.heap.size := hq.elim (fun e => by rw [e]; exact h.v.lt) (h.o.lt q)

/-- What a call does that lays steps. -/
def Lays (d : Nat) (s : Sl) (O O' : List OpM) (w w' : World) : Prop := ∃ s', DfAt w' d s' O' ∧ Chg (dfB d s) w w' ∧ ∀ q, ownB s' q → ownB s q ∨ w.heap.size ≤ q
theorem Lays.refl (h : DfAt w d s O) (hx : Ext w w') : Lays d s O O w w' := ⟨s, h.ext hx, Chg.of_ext hx, fun _ h => .inl h⟩
theorem differ_put (h : DfAt w d s O) (o : OpM) (hn : O.length ≤ 1000000000) : Ret Try.prog F.conf_differ_put #[.pointer (some ⟨d, 0, none⟩), .agg o.c.toArray] w (fun v w' => v = .tuple #[] ∧ Lays d s O (O ++ [o]) w w') := by
  refine W.conf_differ_put_ok (some ⟨d, 0, none⟩) _ w _ ?_
  unfold W.conf_differ_put
  refine nxVar (vs := o.c) rfl fun w1 ho hx1 hs1 => ?_
  have hd : Ext w1 w1.drew := Chg.drew (.refl _ _)
  have hX2 := Ext.trans hx1 hd
  have h2 := h.ext hX2
  have ho2 := ho.ext hd
  have hdn : ¬ ownB s d := fun hq => absurd (h.o.notVar hq h.v) (by decide)
  have hon : ¬ ownB s w.heap.size := fun hq => by have := h.o.lt _ hq; omega
  have hlen : s.len = O.length := by have := h.o.1; rw [opsC_length] at this; omega
  have hxa : Ext w1.drew (w1.drew.alloc (.cells o.c.toArray Ty.api_Op)) := Chg.alloc (.refl _ _) _
  obtain ⟨s', w', g1, g2, g3, g4', g5⟩ := appOp.append (oT := Ty.Sl_api_Op) (Src.new (T := Ty.api_Op) w1.drew o.c 1 (by rw [o.c_length])) (h2.o.ext hxa) o.plain (by show (2 * (s.len + 1) + 1000) * 208 ≤ _; omega)
  have g4 : Chg (ownB s) w1.drew w' := (Chg.of_ext hxa).trans g4'
  refine nx ⟨ownB s, _, rfl, hdn, s, h2.v.cell, hon, _, ho2.rd o.c_length, ⟨some ⟨w1.drew.heap.size, 0, none⟩, 1, 1⟩, _, buildOp o _, Chg.of_ext hxa, s', w', g1, g4', _, rfl, ?_⟩
  have hv' : Var w' d [.slice s.a s.len s.cap] Ty.conf_differ := h2.v.chg g4 hdn
  refine ⟨⟨_, hv'.cell⟩, Blk.frozen hv' _ rfl, nxSet hv' fun w12 hv12 hc12 hs12 => ⟨rfl, s', ⟨hv12, ?_⟩, ?_, ?_⟩⟩
  · have hds' : ¬ ownB s' d := fun hq => by
      rcases g5 d hq with h3 | h3
      · exact hdn h3
      · have := (h2.v.ext hxa).lt; omega
    rw [opsC_app, opsC_one]
    exact g2.chg hc12 fun q hq e => by subst e; exact hds' hq
  · exact (Chg.of_ext hX2).trans ((Chg.mono g4 fun _ _ h => .inr h).trans (Chg.mono hc12 fun _ _ h => .inl h))
  · intro q hq
    rcases g5 q hq with h3 | h3
    · exact .inl h3
    · exact .inr (Nat.le_trans (Ext.trans hX2 hxa).size h3)

end Go.Proofs.Ytldeegpcldhjaaa
