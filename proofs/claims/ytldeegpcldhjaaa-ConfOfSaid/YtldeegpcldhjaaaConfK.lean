/- The steps from some services to others: a backend's, a service's, all. -/
import Derived.Test.YtldeegpcldhjaaaConfJ
namespace Go.Proofs.Ytldeegpcldhjaaa
open Go Gx

variable {w w' : World} {d : Nat} {s : Sl} {O : List OpM}

def u64w (n : Int) : Int := IntKind.wrap .u64 n
def bkOps (was : List Bk) (id : Int) (b : Bk) : List OpM :=
  ((if (atL was b).isSome then [] else [oAddB id (undr b)]) ++ if ((atL was b).getD (undr b)).weight != b.weight then [oWeigh id b.id (u64w b.weight)] else []) ++ if !(((atL was b).getD (undr b)).drained == b.drained) then [oDrain id b.id b.drained] else []
def svOps (was : List Bk) (there : Bool) (x : SB) : List OpM :=
  ((if there then [] else [oAddS x.1]) ++ (was.filter fun b => (atL x.2 b).isNone).map fun b => oDropB x.1.id b.id) ++ x.2.flatMap (bkOps was x.1.id)
def ofSB (A : List SB) (s : Sv) : Option SB := A.find? fun x => decide (s = x.1)
def wasB (A : List SB) (s : Sv) : List Bk := ((ofSB A s).map (·.2)).getD []
def diffL (A B : List SB) : List OpM := ((A.filter fun x => (ofSB B x.1).isNone).map fun x => oDropS x.1.id) ++ B.flatMap fun y => svOps (wasB A y.1) (ofSB A y.1).isSome y

theorem bkOps_len (was : List Bk) (id : Int) (b : Bk) : (bkOps was id b).length ≤ 3 := by
  unfold bkOps
  simp only [List.length_append]
  split <;> split <;> split <;> simp
theorem flatMap_len {α β : Type} (f : α → List β) (c : Nat) : ∀ l : List α, (∀ x ∈ l, (f x).length ≤ c) → (l.flatMap f).length ≤ l.length * c
  | [], _ => by simp
  | x :: l, h => by
    rw [List.flatMap_cons, List.length_append, List.length_cons, Nat.add_mul]
    have h1 := h x (by simp)
    have h2 := flatMap_len f c l fun y hy => h y (by simp [hy])
    omega
theorem svOps_len {was : List Bk} {there : Bool} {x : SB} (h1 : was.length ≤ 1000) (h2 : x.2.length ≤ 1000) : (svOps was there x).length ≤ 4001 := by
  unfold svOps
  simp only [List.length_append, List.length_map]
  have h3 := flatMap_len (bkOps was x.1.id) 3 x.2 fun b _ => bkOps_len _ _ b
  have h4 := List.length_filter_le (fun b => (atL x.2 b).isNone) was
  have h5 : (if there then [] else [oAddS x.1] : List OpM).length ≤ 1 := by split <;> simp
  omega

theorem dfB_type (h : DfAt w d s O) {q : Nat} {c : Array Value} {T : TypeId} (hq : dfB d s q) (hB : Blk w q c T) : T = Ty.conf_differ ∨ T = Ty.api_Op :=
  hq.elim (fun e => .inl (by subst e; exact (Blk.inj hB h.v).2)) fun hq => .inr (h.o.notVar hq hB).symm
theorem DfAt.keeps (h : DfAt w d s O) {b : Nat} {vs : List Value} {T : TypeId} (hv : Var w b vs T) (h1 : T ≠ Ty.conf_differ) (h2 : T ≠ Ty.api_Op) (hc : Chg (dfB d s) w w') : Var w' b vs T :=
  hv.chg hc fun hq => (dfB_type h hq hv).elim h1 h2
theorem Lays.step {w1 w2 : World} {s1 : Sl} {O1 O2 : List OpM} (c1 : Chg (dfB d s) w w1) (f1 : ∀ q, ownB s1 q → ownB s q ∨ w.heap.size ≤ q) (L : Lays d s1 O1 O2 w1 w2) : Lays d s O O2 w w2 := by
  obtain ⟨s2, h2, c2, f2⟩ := L
  have hsub : ∀ q, dfB d s1 q → dfB d s q ∨ w.heap.size ≤ q := fun q hq => hq.elim (fun e => .inl (.inl e)) fun hq => (f1 q hq).imp .inr id
  refine ⟨s2, h2, chgThen c1 c2 hsub, fun q hq => (f2 q hq).elim (f1 q) fun h => .inr (Nat.le_trans c1.size h)⟩

theorem differ_backend (h : DfAt w d s O) (ws : Sv) (wk : Sl) {wbs : List Bk} (hw : BR w wk wbs) (hwn : wbs.length ≤ 1000) (id : Int) (b : Bk) (hn : O.length ≤ 900000000) :
    Ret Try.prog F.conf_differ_backend #[.pointer (some ⟨d, 0, none⟩), .agg (ws.c wk).toArray, .int .i64 id, .agg b.c.toArray] w (fun v w' => v = .tuple #[] ∧ Lays d s O (O ++ bkOps wbs id b) w w') := by
  refine W.conf_differ_backend_ok (some ⟨d, 0, none⟩) _ id _ w _ ?_
  unfold W.conf_differ_backend
  refine nxVar (vs := ws.c wk) rfl fun w1 hv1 hx1 hs1 => nxVar (vs := b.c) rfl fun w2 hb2 hx2 hs2 => ?_
  have hX2 := Ext.trans hx1 hx2
  refine ⟨wk, (scell (hv1.ext hx2)).2.2.2.2.2.2, _, hb2.rd b.c_length, (conf_at (w := w2) b (hw.ext hX2) hwn).use ?_⟩
  rintro _ w5 ⟨rfl, hx5⟩
  obtain ⟨o, ho⟩ : ∃ o, o = atL wbs b := ⟨_, rfl⟩
  rw [← ho]
  have hX5 := Ext.trans hX2 hx5
  refine ⟨_, _, rfl, nxVar (vs := Bk.zero.c) (by kernel_rfl) fun w9 hz9 hx9 hs9 => ⟨hz9.storeOk (by simp [Bk.c_length]) (Bk.plain _), by simp [Bk.c_length], nxPut hz9 (us := (atC o).c) (by simp [Bk.c_length]) rfl fun w10 hz10 hc10 hs10 => ?_⟩⟩
  have hx10 : Ext w5 w10 := Ext.of_chg hx9 hc10 (Nat.le_refl _)
  have hX10 := Ext.trans hX5 hx10
  have hb10 := (hb2.ext hx5).ext hx10
  have h10 := h.ext hX10
  obtain ⟨ob, hob⟩ : ∃ ob, ob = o.getD (undr b) := ⟨_, rfl⟩
  obtain ⟨P1, hP1⟩ : ∃ P1, P1 = if o.isSome then [] else [oAddB id (undr b)] := ⟨_, rfl⟩
  obtain ⟨P2, hP2⟩ : ∃ P2, P2 = if ob.weight != b.weight then [oWeigh id b.id (u64w b.weight)] else [] := ⟨_, rfl⟩
  have hall : bkOps wbs id b = (P1 ++ P2) ++ if !(ob.drained == b.drained) then [oDrain id b.id b.drained] else [] := by rw [hP1, hP2, hob, ho]; rfl
  have hl1 : P1.length ≤ 1 := by rw [hP1]; split <;> simp
  have hl2 : P2.length ≤ 1 := by rw [hP2]; split <;> simp
  rw [hall]
  refine Jn0 (fun w' => Lays d s O (O ++ P1) w w' ∧ Var w' w5.heap.size ob.c Ty.api_Backend ∧ Var w' w1.heap.size b.c Ty.api_Backend) (fun q hq => ⟨fun hn1 => ?_, fun hn1 => ?_⟩) ?_
  · have ho1 : o = none := by cases o with
      | none => rfl
      | some _ => simp at hn1
    have hP : P1 = [oAddB id (undr b)] := by rw [hP1, ho1]; rfl
    have hobe : ob = undr b := by rw [hob, ho1]; rfl
    refine ⟨_, hb10.rd b.c_length, hz10.storeOk (by simp [Bk.c_length]) b.plain, by simp [Bk.c_length], nxPut hz10 (us := b.c) (by simp [Bk.c_length]) rfl fun w13 hz13 hc13 hs13 => ?_⟩
    refine ⟨⟨_, (bcell hz13).2.2.2.2⟩, by rw [add_mk]; exact Blk.frozen hz13 _ rfl, ?_⟩
    rw [add_mk]
    refine nxSet hz13 fun w14 hz14 hc14 hs14 => ?_
    have ev : b.c.set (0 + 20) (.bool false) = (undr b).c := Bk.setD b false
    rw [ev] at hz14
    have hX13 : Ext w w13 := Ext.of_chg hX10 hc13 hX5.size
    have hX14 : Ext w w14 := Ext.of_chg hX13 hc14 hX5.size
    have hb14 : Var w14 w1.heap.size b.c Ty.api_Backend := (hb10.chg hc13 (by have := hb2.lt; have := hx5.size; omega)).chg hc14 (by have := hb2.lt; have := hx5.size; omega)
    have h14 := h.ext hX14
    refine ⟨_, hz14.rd (Bk.c_length _), _, mkAddB _ id (undr b), (differ_put h14 (oAddB id (undr b)) (by omega)).use ?_⟩
    rintro _ w17 ⟨rfl, L⟩
    obtain ⟨s2, h17, c17, f17⟩ := L
    refine ⟨rfl, hq _ ⟨?_, ?_, ?_⟩⟩
    · rw [hP]
      exact Lays.step (s1 := s) (O1 := O) (Chg.of_ext hX14) (fun _ h => .inl h) ⟨s2, h17, c17, f17⟩
    · rw [hobe]; exact h14.keeps hz14 (by decide) (by decide) c17
    · exact h14.keeps hb14 (by decide) (by decide) c17
  · have ho1 : ∃ x, o = some x := by cases o with
      | none => simp at hn1
      | some x => exact ⟨x, rfl⟩
    obtain ⟨x, rfl⟩ := ho1
    have hP : P1 = [] := by rw [hP1]; rfl
    have hobe : ob = x := hob
    exact hq _ ⟨by rw [hP, List.append_nil]; exact Lays.refl h hX10, by rw [hobe]; exact hz10, hb10⟩
  rintro w19 ⟨L19, ho19, hb19⟩
  obtain ⟨s1, h19, c19, f19⟩ := L19
  refine Jn0 (fun w' => Lays d s O (O ++ (P1 ++ P2)) w w' ∧ Var w' w5.heap.size ob.c Ty.api_Backend ∧ Var w' w1.heap.size b.c Ty.api_Backend) (fun q hq => ⟨_, (bcell ho19).2.2.2.1, _, (bcell hb19).2.2.2.1, fun hne => ?_, fun hne => ?_⟩) ?_
  · have hP : P2 = [oWeigh id b.id (u64w b.weight)] := by rw [hP2, if_pos hne]
    refine ⟨_, (bcell hb19).1, _, (bcell hb19).2.2.2.1, _, mkWeigh _ id b.id (u64w b.weight), (differ_put h19 (oWeigh id b.id (u64w b.weight)) (by rw [List.length_append]; omega)).use ?_⟩
    rintro _ w26 ⟨rfl, L⟩
    obtain ⟨s2, h26, c26, f26⟩ := L
    refine ⟨rfl, hq _ ⟨?_, h19.keeps ho19 (by decide) (by decide) c26, h19.keeps hb19 (by decide) (by decide) c26⟩⟩
    rw [hP, ← List.append_assoc]
    exact Lays.step (O1 := O) c19 f19 ⟨s2, h26, c26, f26⟩
  · have hP : P2 = [] := by rw [hP2, if_neg (by rw [hne]; decide)]
    exact hq _ ⟨by rw [hP, List.append_nil]; exact ⟨s1, h19, c19, f19⟩, ho19, hb19⟩
  rintro w28 ⟨L28, ho28, hb28⟩
  obtain ⟨s2, h28, c28, f28⟩ := L28
  refine ⟨_, (bcell ho28).2.2.2.2, _, (bcell hb28).2.2.2.2, fun hne => ?_, fun hne => ?_⟩
  · refine ⟨_, (bcell hb28).1, _, (bcell hb28).2.2.2.2, _, mkDrain _ id b.id b.drained, (differ_put h28 (oDrain id b.id b.drained) (by simp only [List.length_append]; omega)).use ?_⟩
    rintro _ w34 ⟨rfl, L⟩
    refine ⟨rfl, rfl, ?_⟩
    rw [if_pos hne, ← List.append_assoc]
    exact Lays.step c28 f28 L
  · rw [if_neg (by rw [hne]; decide), List.append_nil]
    exact ⟨rfl, s2, h28, c28, f28⟩

theorem differ_service (h : DfAt w d s O) (ws : Sv) (wk : Sl) {wbs : List Bk} (hw : ∀ w', Chg (dfB d s) w w' → BR w' wk wbs) (hwn : wbs.length ≤ 1000) (there : Bool) (x : SM) (hb : ∀ w', Chg (dfB d s) w w' → BR w' x.k x.bs) (hbn : x.bs.length ≤ 1000) (hn : O.length ≤ 800000000) :
    Ret Try.prog F.conf_differ_service #[.pointer (some ⟨d, 0, none⟩), .agg (ws.c wk).toArray, .bool there, .agg (x.s.c x.k).toArray] w (fun v w' => v = .tuple #[] ∧ Lays d s O (O ++ svOps wbs there x.ab) w w') := by
  refine W.conf_differ_service_ok (some ⟨d, 0, none⟩) _ there _ w _ ?_
  unfold W.conf_differ_service
  refine nxVar (vs := ws.c wk) rfl fun w1 hv1 hx1 hs1 => nxVar (vs := x.s.c x.k) rfl fun w2 hs2 hx2 hsz2 => ?_
  have hX2 := Ext.trans hx1 hx2
  have hv2 := hv1.ext hx2
  have h2 := h.ext hX2
  have hwl := BR.len (hw w (.refl _ _))
  have hbl := BR.len (hb w (.refl _ _))
  obtain ⟨P1, hP1⟩ : ∃ P1, P1 = if there then [] else [oAddS x.s] := ⟨_, rfl⟩
  have hl1 : P1.length ≤ 1 := by rw [hP1]; split <;> simp
  obtain ⟨P2, hP2⟩ : ∃ P2 : Nat → List OpM, P2 = fun i => ((wbs.take i).filter fun b => (atL x.bs b).isNone).map fun b => oDropB x.s.id b.id := ⟨_, rfl⟩
  have hl2 : ∀ i, (P2 i).length ≤ 1000 := fun i => by
    rw [hP2]; simp only [List.length_map]
    have h1 := List.length_filter_le (fun b => (atL x.bs b).isNone) (wbs.take i)
    rw [List.length_take] at h1
    omega
  obtain ⟨P3, hP3⟩ : ∃ P3 : Nat → List OpM, P3 = fun i => (x.bs.take i).flatMap (bkOps wbs x.s.id) := ⟨_, rfl⟩
  have hl3 : ∀ i, (P3 i).length ≤ 3000 := fun i => by
    rw [hP3]
    have h1 := flatMap_len (bkOps wbs x.s.id) 3 (x.bs.take i) fun b _ => bkOps_len _ _ b
    rw [List.length_take] at h1
    simp only; omega
  have hall : svOps wbs there x.ab = (P1 ++ P2 wbs.length) ++ P3 x.bs.length := by
    rw [hP1, hP2, hP3]; simp only [List.take_length]; rfl
  rw [hall]
  refine Jn0 (fun w' => Lays d s O (O ++ P1) w w' ∧ Var w' w.heap.size (ws.c wk) Ty.api_Service ∧ Var w' w1.heap.size (x.s.c x.k) Ty.api_Service) (fun q hq => ⟨fun ht => ?_, fun ht => ?_⟩) ?_
  · have ht : there = false := by simpa using ht
    refine ⟨_, hs2.rd (Sv.c_length _ _), (conf_bare x.s x.k w2).use ?_⟩
    rintro _ w5 ⟨rfl, hx5⟩
    have hX5 := Ext.trans hX2 hx5
    have h5 := h.ext hX5
    refine ⟨_, rfl, _, mkAddS _ x.s, (differ_put h5 (oAddS x.s) (by omega)).use ?_⟩
    rintro _ w9 ⟨rfl, L⟩
    obtain ⟨s2, h9, c9, f9⟩ := L
    refine ⟨rfl, hq _ ⟨?_, h5.keeps (hv2.ext hx5) (by decide) (by decide) c9, h5.keeps (hs2.ext hx5) (by decide) (by decide) c9⟩⟩
    rw [hP1, ht]
    exact Lays.step (s1 := s) (O1 := O) (Chg.of_ext hX5) (fun _ h => .inl h) ⟨s2, h9, c9, f9⟩
  · have ht : there = true := by simpa using ht
    have hP : P1 = [] := by rw [hP1, ht]; rfl
    exact hq _ ⟨by rw [hP, List.append_nil]; exact Lays.refl h hX2, hv2, hs2⟩
  rintro w11 ⟨L11, hv11, hs11⟩
  refine ⟨wk, (scell hv11).2.2.2.2.2.2, fun n w' => ∃ i : Nat, n = i ∧ i ≤ wbs.length ∧ Lays d s O (O ++ (P1 ++ P2 i)) w w' ∧ Var w' w.heap.size (ws.c wk) Ty.api_Service ∧ Var w' w1.heap.size (x.s.c x.k) Ty.api_Service, fun n _ => (wk.len - n).toNat,
    ⟨0, rfl, Nat.zero_le _, by rw [show P2 0 = [] by rw [hP2]; rfl, List.append_nil]; exact L11, hv11, hs11⟩, ?_⟩
  rintro _ w16 ⟨i, rfl, hi, L16, hv16, hs16⟩
  obtain ⟨s1, h16, c16, f16⟩ := L16
  refine ⟨fun hlt => ?_, fun hge => ?_⟩
  · have hlt : (i : Int) < ((wk.len : Nat) : Int) := of_decide_eq_true hlt
    have hlt : i < wbs.length := by omega
    obtain ⟨A, hA, hbd, hrd⟩ := BR.get (hw w16 c16) hlt
    obtain ⟨b, hbe⟩ : ∃ b, b = wbs[i] := ⟨_, rfl⟩
    rw [← hbe] at hrd
    have ew : IntKind.wrap .i64 ((i : Int) + 1) = ((i + 1 : Nat) : Int) := by rw [wrapi (by omega) (by omega)]; rfl
    have hms : (((wk.len : Nat) : Int) - ((i + 1 : Nat) : Int)).toNat < (((wk.len : Nat) : Int) - (i : Int)).toNat := by omega
    have hPs : P2 (i + 1) = P2 i ++ if (atL x.bs b).isNone then [oDropB x.s.id b.id] else [] := by
      rw [hP2]; simp only
      rw [List.take_succ_eq_append_getElem hlt, List.filter_append, List.map_append, ← hbe]
      congr 1
      simp only [List.filter_cons, List.filter_nil]
      split <;> rfl
    refine Jn0 (fun w' => Lays d s O (O ++ (P1 ++ P2 (i + 1))) w w' ∧ Var w' w.heap.size (ws.c wk) Ty.api_Service ∧ Var w' w1.heap.size (x.s.c x.k) Ty.api_Service) (fun q hq => ?_) (fun w35 hw35 => by rw [ew]; exact ⟨⟨i + 1, rfl, hlt, hw35⟩, hms⟩)
    refine ⟨A, hA, hbd, _, hrd, nxVar (vs := Bk.zero.c) (by kernel_rfl) fun w20 hz20 hx20 hs20 => ⟨hz20.storeOk (by simp [Bk.c_length]) (Bk.plain _), by simp [Bk.c_length], nxPut hz20 (us := b.c) (by simp [Bk.c_length]) rfl fun w21 hb21 hc21 hs21 => ?_⟩⟩
    have hx21 : Ext w16 w21 := Ext.of_chg hx20 hc21 (Nat.le_refl _)
    have c21 : Chg (dfB d s) w w21 := c16.trans (Chg.of_ext hx21)
    refine ⟨x.k, (scell (hs16.ext hx21)).2.2.2.2.2.2, _, hb21.rd b.c_length, (conf_at b (hb w21 c21) hbn).use ?_⟩
    rintro _ w24 ⟨rfl, hx24⟩
    refine ⟨_, _, rfl, nxVar (vs := Bk.zero.c) (by kernel_rfl) fun w28 hz28 hx28 hs28 => ⟨hz28.storeOk (by simp [Bk.c_length]) (Bk.plain _), by simp [Bk.c_length], nxPut hz28 (us := (atC (atL x.bs b)).c) (by simp [Bk.c_length]) rfl fun w29 hz29 hc29 hs29 => ?_⟩⟩
    have hx29 : Ext w16 w29 := Ext.trans (Ext.trans hx21 hx24) (Ext.of_chg hx28 hc29 (Nat.le_refl _))
    have hb29 : Var w29 w16.heap.size b.c Ty.api_Backend := (hb21.ext hx24).ext (Ext.of_chg hx28 hc29 (Nat.le_refl _))
    have h29 := h16.ext hx29
    have c29 : Chg (dfB d s) w w29 := c16.trans (Chg.of_ext hx29)
    refine ⟨fun hi2 => ?_, fun hi2 => ?_⟩
    · have hi2 : (atL x.bs b).isNone = true := by cases hat : atL x.bs b with
        | none => rfl
        | some _ => rw [hat] at hi2; simp at hi2
      refine ⟨_, (scell (hs16.ext hx29)).1, _, (bcell hb29).1, _, mkDropB _ x.s.id b.id, (differ_put h29 (oDropB x.s.id b.id) (by have := hl2 i; simp only [List.length_append]; omega)).use ?_⟩
      rintro _ w33 ⟨rfl, L⟩
      obtain ⟨s2, h33, c33, f33⟩ := L
      refine ⟨rfl, hq _ ⟨?_, h29.keeps (hv16.ext hx29) (by decide) (by decide) c33, h29.keeps (hs16.ext hx29) (by decide) (by decide) c33⟩⟩
      rw [hPs, if_pos hi2, ← List.append_assoc P1, ← List.append_assoc O]
      exact Lays.step (O1 := O) c29 f16 ⟨s2, h33, c33, f33⟩
    · have hi2 : (atL x.bs b).isNone = false := by cases hat : atL x.bs b with
        | none => rw [hat] at hi2; simp at hi2
        | some _ => rfl
      have hPe : P2 (i + 1) = P2 i := by rw [hPs, hi2]; simp
      exact hq _ ⟨by rw [hPe]; exact ⟨s1, h29, c29, f16⟩, hv16.ext hx29, hs16.ext hx29⟩
  · have hge : ¬ (i : Int) < ((wk.len : Nat) : Int) := of_decide_eq_false hge
    have hie : i = wbs.length := by omega
    subst hie
    refine ⟨x.k, (scell hs16).2.2.2.2.2.2, fun n w' => ∃ i : Nat, n = i ∧ i ≤ x.bs.length ∧ Lays d s O (O ++ ((P1 ++ P2 wbs.length) ++ P3 i)) w w' ∧ Var w' w.heap.size (ws.c wk) Ty.api_Service ∧ Var w' w1.heap.size (x.s.c x.k) Ty.api_Service, fun n _ => (x.k.len - n).toNat,
      ⟨0, rfl, Nat.zero_le _, by rw [show P3 0 = [] by rw [hP3]; rfl, List.append_nil]; exact ⟨s1, h16, c16, f16⟩, hv16, hs16⟩, ?_⟩
    rintro _ w40 ⟨i, rfl, hi, L40, hv40, hs40⟩
    obtain ⟨s2, h40, c40, f40⟩ := L40
    refine ⟨fun hlt => ?_, fun hge => ?_⟩
    · have hlt : (i : Int) < ((x.k.len : Nat) : Int) := of_decide_eq_true hlt
      have hlt : i < x.bs.length := by omega
      obtain ⟨A, hA, hbd, hrd⟩ := BR.get (hb w40 c40) hlt
      obtain ⟨b, hbe⟩ : ∃ b, b = x.bs[i] := ⟨_, rfl⟩
      rw [← hbe] at hrd
      have ew : IntKind.wrap .i64 ((i : Int) + 1) = ((i + 1 : Nat) : Int) := by rw [wrapi (by omega) (by omega)]; rfl
      have hms : (((x.k.len : Nat) : Int) - ((i + 1 : Nat) : Int)).toNat < (((x.k.len : Nat) : Int) - (i : Int)).toNat := by omega
      have hPs : P3 (i + 1) = P3 i ++ bkOps wbs x.s.id b := by
        rw [hP3]; simp only
        rw [List.take_succ_eq_append_getElem hlt, List.flatMap_append, ← hbe]
        simp
      refine ⟨A, hA, hbd, _, hrd, nxVar (vs := Bk.zero.c) (by kernel_rfl) fun w43 hz43 hx43 hs43 => ⟨hz43.storeOk (by simp [Bk.c_length]) (Bk.plain _), by simp [Bk.c_length], nxPut hz43 (us := b.c) (by simp [Bk.c_length]) rfl fun w44 hb44 hc44 hs44 => ?_⟩⟩
      have hx44 : Ext w40 w44 := Ext.of_chg hx43 hc44 (Nat.le_refl _)
      have c44 : Chg (dfB d s) w w44 := c40.trans (Chg.of_ext hx44)
      have h44 := h40.ext hx44
      refine ⟨_, (hv40.ext hx44).rd (Sv.c_length _ _), _, (scell (hs40.ext hx44)).1, _, hb44.rd b.c_length, (differ_backend h44 ws wk (hw w44 c44) hwn x.s.id b (by have := hl2 wbs.length; have := hl3 i; simp only [List.length_append]; omega)).use ?_⟩
      rintro _ w48 ⟨rfl, L⟩
      obtain ⟨s3, h48, c48, f48⟩ := L
      rw [ew]
      refine ⟨rfl, ⟨i + 1, rfl, hlt, ?_, h44.keeps (hv40.ext hx44) (by decide) (by decide) c48, h44.keeps (hs40.ext hx44) (by decide) (by decide) c48⟩, hms⟩
      rw [hPs, ← List.append_assoc (P1 ++ P2 wbs.length), ← List.append_assoc O]
      exact Lays.step (O1 := O) c44 f40 ⟨s3, h48, c48, f48⟩
    · have hge : ¬ (i : Int) < ((x.k.len : Nat) : Int) := of_decide_eq_false hge
      have hie : i = x.bs.length := by omega
      subst hie
      exact ⟨rfl, s2, h40, c40, f40⟩

theorem ofSB_abs (X : List SM) (s : Sv) : ofSB (X.map SM.ab) s = (ofL X s).map SM.ab := by unfold ofSB ofL; rw [List.find?_map]; rfl

/-- What Diff tells: the steps, where both lists are good. -/
def diffE (A B : List SB) : Int := if goodL A && goodL B then 0 else 1
theorem conf_diff {t u : Sl} {X Y : List SM} (hX : SvL w t X) (hY : SvL w u Y) : Ret Try.prog F.conf_diff #[.slice t.a t.len t.cap, .slice u.a u.len u.cap] w
    (fun v w' => ∃ (s : Sl) (O : List OpM), v = .tuple #[.slice s.a s.len s.cap, .int .i64 (diffE (X.map SM.ab) (Y.map SM.ab))] ∧ O = (if diffE (X.map SM.ab) (Y.map SM.ab) = 0 then diffL (X.map SM.ab) (Y.map SM.ab) else []) ∧ OwnS 51 Ty.api_Op w' s (opsC O) ∧ Ext w w' ∧ ∀ q, ownB s q → w.heap.size ≤ q) := by
  refine W.conf_diff_ok t u w _ ?_
  unfold W.conf_diff
  refine (conf_good hX).use ?_
  rintro _ w1 ⟨rfl, hx1⟩
  refine ⟨_, rfl, Jn1 (fun b w' => Ext w w' ∧ b = !(goodL (X.map SM.ab) && goodL (Y.map SM.ab))) (fun q hq => ⟨fun hg => hq _ _ ⟨hx1, ?_⟩, fun hg => (conf_good (hY.ext hx1)).use ?_⟩) ?_⟩
  · have hg : goodL (X.map SM.ab) = false := by simpa using hg
    rw [hg]; rfl
  · have hg : goodL (X.map SM.ab) = true := by simpa using hg
    rintro _ w5 ⟨rfl, hx5⟩
    refine ⟨_, rfl, hq _ _ ⟨Ext.trans hx1 hx5, ?_⟩⟩
    rw [hg, Bool.true_and]
  rintro _ w9 ⟨hx9, rfl⟩
  refine ⟨fun hb => ?_, fun hb => ?_⟩
  · have e : diffE (X.map SM.ab) (Y.map SM.ab) = 1 := by unfold diffE; rw [if_neg (by intro h; rw [h] at hb; cases hb)]
    rw [e]
    exact ⟨nilS, [], rfl, rfl, OwnS.none _ _ _, hx9, fun q hq => (ownB_none q hq).elim⟩
  have e0 : diffE (X.map SM.ab) (Y.map SM.ab) = 0 := by unfold diffE; rw [if_pos (by simpa using hb)]
  rw [e0]
  refine nxVar (vs := [.slice none 0 0]) rfl fun w10 hd10 hx10 hs10 => ?_
  have hX10 := Ext.trans hx9 hx10
  have hX0 : DfAt w10 w9.heap.size nilS [] := ⟨hd10, OwnS.none _ _ _⟩
  have hXl := hX.len; have hYl := hY.len; have hXm := hX.lim; have hYm := hY.lim
  have hnew : ∀ (sl : Sl) q, (∀ q, ownB sl q → w.heap.size ≤ q) → dfB w9.heap.size sl q → w.heap.size ≤ q := fun sl q hs hq => hq.elim (fun e => by have := hx9.size; omega) (hs q)
  obtain ⟨P1, hP1⟩ : ∃ P1 : Nat → List OpM, P1 = fun i => (((X.map SM.ab).take i).filter fun x => (ofSB (Y.map SM.ab) x.1).isNone).map fun x => oDropS x.1.id := ⟨_, rfl⟩
  obtain ⟨P2, hP2⟩ : ∃ P2 : Nat → List OpM, P2 = fun i => ((Y.map SM.ab).take i).flatMap fun y => svOps (wasB (X.map SM.ab) y.1) (ofSB (X.map SM.ab) y.1).isSome y := ⟨_, rfl⟩
  have hwn : ∀ s : Sv, (wasB (X.map SM.ab) s).length ≤ 1000 := fun s => by
    unfold wasB
    rw [ofSB_abs]
    cases hf : ofL X s with
    | none => simp
    | some x => exact hX.few x (List.mem_of_find?_eq_some hf)
  have hl1 : ∀ i, (P1 i).length ≤ 1000 := fun i => by
    rw [hP1]; simp only [List.length_map]
    have h1 := List.length_filter_le (fun x : SB => (ofSB (Y.map SM.ab) x.1).isNone) ((X.map SM.ab).take i)
    rw [List.length_take, List.length_map] at h1
    omega
  have hl2 : ∀ i, (P2 i).length ≤ 4001000 := fun i => by
    rw [hP2]
    have h1 := flatMap_len (fun y : SB => svOps (wasB (X.map SM.ab) y.1) (ofSB (X.map SM.ab) y.1).isSome y) 4001 ((Y.map SM.ab).take i) fun y hy => by
      obtain ⟨z, hz, rfl⟩ := List.mem_map.1 (List.mem_of_mem_take hy)
      exact svOps_len (hwn _) (hY.few z hz)
    rw [List.length_take, List.length_map] at h1
    simp only; omega
  have hall : diffL (X.map SM.ab) (Y.map SM.ab) = P1 X.length ++ P2 Y.length := by
    rw [hP1, hP2]; simp only
    rw [List.take_of_length_le (by simp : (X.map SM.ab).length ≤ X.length), List.take_of_length_le (by simp : (Y.map SM.ab).length ≤ Y.length)]; rfl
  refine ⟨fun n w' => ∃ (i : Nat) (sl : Sl), n = i ∧ i ≤ X.length ∧ DfAt w' w9.heap.size sl (P1 i) ∧ Ext w w' ∧ ∀ q, ownB sl q → w.heap.size ≤ q, fun n _ => (t.len - n).toNat,
    ⟨0, nilS, rfl, Nat.zero_le _, by rw [show P1 0 = [] by rw [hP1]; rfl]; exact hX0, hX10, fun q hq => (ownB_none q hq).elim⟩, ?_⟩
  rintro _ w14 ⟨i, sl, rfl, hi, h14, hx14, hf14⟩
  refine ⟨fun hlt => ?_, fun hge => ?_⟩
  · have hlt : (i : Int) < ((t.len : Nat) : Int) := of_decide_eq_true hlt
    have hlt : i < X.length := by omega
    obtain ⟨A, hA, hbd, hrd⟩ := (hX.ext hx14).get hlt
    obtain ⟨x, hxe⟩ : ∃ x, x = X[i] := ⟨_, rfl⟩
    rw [← hxe] at hrd
    have ew : IntKind.wrap .i64 ((i : Int) + 1) = ((i + 1 : Nat) : Int) := by rw [wrapi (by omega) (by omega)]; rfl
    have hms : (((t.len : Nat) : Int) - ((i + 1 : Nat) : Int)).toNat < (((t.len : Nat) : Int) - (i : Int)).toNat := by omega
    have hPs : P1 (i + 1) = P1 i ++ if (ofSB (Y.map SM.ab) x.s).isNone then [oDropS x.s.id] else [] := by
      rw [hP1]; simp only
      rw [List.take_succ_eq_append_getElem (by simpa using hlt), List.filter_append, List.map_append]
      congr 1
      simp only [List.getElem_map, ← hxe, List.filter_cons, List.filter_nil]
      show List.map _ (if (ofSB (Y.map SM.ab) x.s).isNone = true then _ else _) = _
      split <;> rfl
    refine Jn0 (fun w' => ∃ sl : Sl, DfAt w' w9.heap.size sl (P1 (i + 1)) ∧ Ext w w' ∧ ∀ q, ownB sl q → w.heap.size ≤ q) (fun q hq => ?_) (fun w31 ⟨sl, g1, g2, g3⟩ => by rw [ew]; exact ⟨⟨i + 1, sl, rfl, hlt, g1, g2, g3⟩, hms⟩)
    refine ⟨A, hA, hbd, _, hrd, nxVar (vs := Sv.zero.c nilS) (by kernel_rfl) fun w18 hz18 hx18 hs18 => ⟨hz18.storeOk (by simp [Sv.c_length]) (Sv.plain _ _), by simp [Sv.c_length], nxPut hz18 (us := x.s.c x.k) (by simp [Sv.c_length]) rfl fun w19 hv19 hc19 hs19 => ?_⟩⟩
    have hx19 : Ext w14 w19 := Ext.of_chg hx18 hc19 (Nat.le_refl _)
    have hX19 := Ext.trans hx14 hx19
    refine ⟨_, hv19.rd (Sv.c_length _ _), (conf_of x.s x.k (hY.ext hX19)).use ?_⟩
    rintro _ w21 ⟨rfl, hx21⟩
    obtain ⟨o, hoe⟩ : ∃ o, o = ofL Y x.s := ⟨_, rfl⟩
    rw [← hoe]
    have hoc : (ofC o).length = 23 ∧ ∀ v ∈ ofC o, Plain v := by
      cases o with
      | none => exact ⟨Sv.c_length _ _, Sv.plain _ _⟩
      | some z => exact ⟨Sv.c_length _ _, Sv.plain _ _⟩
    refine ⟨_, _, rfl, nxVar (vs := Sv.zero.c nilS) (by kernel_rfl) fun w25 hz25 hx25 hs25 => ⟨hz25.storeOk (by simp [Sv.c_length, hoc.1]) hoc.2, by simp [hoc.1], nxPut hz25 (us := ofC o) (by simp [Sv.c_length, hoc.1]) rfl fun w26 hz26 hc26 hs26 => ?_⟩⟩
    have hx26 : Ext w19 w26 := Ext.trans hx21 (Ext.of_chg hx25 hc26 (Nat.le_refl _))
    have hX26 := Ext.trans hX19 hx26
    have h26 := h14.ext (Ext.trans hx19 hx26)
    have hob : ofSB (Y.map SM.ab) x.s = o.map SM.ab := by rw [ofSB_abs, hoe]
    refine ⟨fun hno => ?_, fun hno => ?_⟩
    · have hno : o = none := by cases o with
        | none => rfl
        | some _ => simp at hno
      refine ⟨_, (scell (hv19.ext hx26)).1, _, mkDropS _ x.s.id, (differ_put h26 (oDropS x.s.id) (by have := hl1 i; omega)).use ?_⟩
      rintro _ w29 ⟨rfl, s2, h29, c29, f29⟩
      refine ⟨rfl, hq _ ⟨s2, ?_, Ext.of_new hX26 c29 (fun q hq => hnew sl q hf14 hq), fun q hq => ?_⟩⟩
      · rw [hPs, hob, hno]; exact h29
      · rcases f29 q hq with h1 | h1
        · exact hf14 q h1
        · exact Nat.le_trans hX26.size h1
    · have hno : o.isNone = false := by cases o with
        | none => simp at hno
        | some _ => rfl
      refine hq _ ⟨sl, ?_, hX26, hf14⟩
      rw [hPs, hob]
      cases o with
      | none => cases hno
      | some z => simpa using h26
  · have hge : ¬ (i : Int) < ((t.len : Nat) : Int) := of_decide_eq_false hge
    have hie : i = X.length := by omega
    subst hie
    refine ⟨fun n w' => ∃ (i : Nat) (sl : Sl), n = i ∧ i ≤ Y.length ∧ DfAt w' w9.heap.size sl (P1 X.length ++ P2 i) ∧ Ext w w' ∧ ∀ q, ownB sl q → w.heap.size ≤ q, fun n _ => (u.len - n).toNat,
      ⟨0, sl, rfl, Nat.zero_le _, by rw [show P2 0 = [] by rw [hP2]; rfl, List.append_nil]; exact h14, hx14, hf14⟩, ?_⟩
    rintro _ w35 ⟨i, sl, rfl, hi, h35, hx35, hf35⟩
    refine ⟨fun hlt => ?_, fun hge => ?_⟩
    · have hlt : (i : Int) < ((u.len : Nat) : Int) := of_decide_eq_true hlt
      have hlt : i < Y.length := by omega
      obtain ⟨A, hA, hbd, hrd⟩ := (hY.ext hx35).get hlt
      obtain ⟨y, hye⟩ : ∃ y, y = Y[i] := ⟨_, rfl⟩
      have hym : y ∈ Y := by rw [hye]; exact List.getElem_mem _
      rw [← hye] at hrd
      have ew : IntKind.wrap .i64 ((i : Int) + 1) = ((i + 1 : Nat) : Int) := by rw [wrapi (by omega) (by omega)]; rfl
      have hms : (((u.len : Nat) : Int) - ((i + 1 : Nat) : Int)).toNat < (((u.len : Nat) : Int) - (i : Int)).toNat := by omega
      have hPs : P2 (i + 1) = P2 i ++ svOps (wasB (X.map SM.ab) y.s) (ofSB (X.map SM.ab) y.s).isSome y.ab := by
        rw [hP2]; simp only
        rw [List.take_succ_eq_append_getElem (by simpa using hlt), List.flatMap_append]
        simp [← hye, SM.ab]
      refine ⟨A, hA, hbd, _, hrd, nxVar (vs := Sv.zero.c nilS) (by kernel_rfl) fun w38 hz38 hx38 hs38 => ⟨hz38.storeOk (by simp [Sv.c_length]) (Sv.plain _ _), by simp [Sv.c_length], nxPut hz38 (us := y.s.c y.k) (by simp [Sv.c_length]) rfl fun w39 hv39 hc39 hs39 => ?_⟩⟩
      have hx39 : Ext w35 w39 := Ext.of_chg hx38 hc39 (Nat.le_refl _)
      have hX39 := Ext.trans hx35 hx39
      refine ⟨_, hv39.rd (Sv.c_length _ _), (conf_of y.s y.k (hX.ext hX39)).use ?_⟩
      rintro _ w41 ⟨rfl, hx41⟩
      obtain ⟨o, hoe⟩ : ∃ o, o = ofL X y.s := ⟨_, rfl⟩
      rw [← hoe]
      obtain ⟨z, hz⟩ : ∃ z : SM, z = o.getD ⟨Sv.zero, nilS, []⟩ := ⟨_, rfl⟩
      have hoc : ofC o = z.s.c z.k := by rw [hz]; cases o <;> rfl
      have hzb : z.bs = wasB (X.map SM.ab) y.s := by unfold wasB; rw [ofSB_abs, ← hoe, hz]; cases o <;> rfl
      have hzr : ∀ w', Ext w w' → BR w' z.k z.bs := fun w' hx => by
        rw [hz]
        cases ho : o with
        | none => exact (OwnS.none 21 Ty.api_Backend w').src
        | some a =>
          have h1 : X.find? (fun x => decide (y.s = x.s)) = some a := by rw [← ho, hoe]; rfl
          exact (hX.bk a (List.mem_of_find?_eq_some h1)).ext hx
      rw [hoc]
      refine ⟨_, _, rfl, nxVar (vs := Sv.zero.c nilS) (by kernel_rfl) fun w45 hz45 hx45 hs45 => ⟨hz45.storeOk (by simp [Sv.c_length]) (Sv.plain _ _), by simp [Sv.c_length], nxPut hz45 (us := z.s.c z.k) (by simp [Sv.c_length]) rfl fun w46 hz46 hc46 hs46 => ?_⟩⟩
      have hx46 : Ext w39 w46 := Ext.trans hx41 (Ext.of_chg hx45 hc46 (Nat.le_refl _))
      have hX46 := Ext.trans hX39 hx46
      have h46 := h35.ext (Ext.trans hx39 hx46)
      refine ⟨_, hz46.rd (Sv.c_length _ _), _, (hv39.ext hx46).rd (Sv.c_length _ _), (differ_service h46 z.s z.k (fun w2 hc2 => hzr w2 (Ext.of_new hX46 hc2 fun q hq => hnew sl q hf35 hq)) (by rw [hzb]; exact hwn _) o.isSome y (fun w2 hc2 => (hY.bk y hym).ext (Ext.of_new hX46 hc2 fun q hq => hnew sl q hf35 hq)) (hY.few y hym) (by have := hl1 X.length; have := hl2 i; rw [List.length_append]; omega)).use ?_⟩
      rintro _ w49 ⟨rfl, s2, h49, c49, f49⟩
      rw [ew]
      refine ⟨rfl, ⟨i + 1, s2, rfl, hlt, ?_, Ext.of_new hX46 c49 (fun q hq => hnew sl q hf35 hq), fun q hq => ?_⟩, hms⟩
      · rw [hPs, ← List.append_assoc, ← hzb, ofSB_abs, ← hoe, Option.isSome_map]
        exact h49
      · rcases f49 q hq with h1 | h1
        · exact hf35 q h1
        · exact Nat.le_trans hX46.size h1
    · have hge : ¬ (i : Int) < ((u.len : Nat) : Int) := of_decide_eq_false hge
      have hie : i = Y.length := by omega
      subst hie
      exact ⟨_, rfl, sl, h35.v.cell, sl, _, rfl, by rw [if_pos rfl, hall], h35.o, hx35, hf35⟩

end Go.Proofs.Ytldeegpcldhjaaa
