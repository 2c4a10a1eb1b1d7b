/- The farm: Service; the services of a farm; steps that are done. -/
import Derived.Test.YtldeegpcldhjaaaConfK
namespace Go.Proofs.Ytldeegpcldhjaaa
open Go Gx

variable {w w' : World} {fm : Fm} {R : List Rec} {r : Rec}

theorem farm_Service (h : FarmAt w fm R) (hr : r ∈ R) : Ret Try.prog F.farm_Farm_Service #[.pointer (some ⟨fm.p, 0, none⟩), .int .i64 r.s.id] w
    (fun v w' => ∃ k : Sl, v = .tuple #[.agg (r.s.c k).toArray, .bool true] ∧ OwnS 21 Ty.api_Backend w' k (bksC r.bs) ∧ Ext w w' ∧ ∀ q, ownB k q → w.heap.size ≤ q) := by
  refine W.farm_Farm_Service_ok (some ⟨fm.p, 0, none⟩) _ w _ ?_
  unfold W.farm_Farm_Service
  refine nxVar (vs := Sv.zero.c nilS) (by kernel_rfl) fun w1 hz1 hx1 hs1 => ⟨fun hn => by simp at hn, fun _ => ?_⟩
  have h1 := h.ext hx1
  obtain ⟨p7, hl, hp7⟩ := h1.look r.s.id
  have hid : hasId R r.s.id = true := hasId_true.2 ⟨r, hr, rfl⟩
  have hsv1 := h1.sv r hr
  refine ⟨_, rfl, _, h1.cells.1, p7, _, w1, hl, fun hb => (by rw [hid] at hb; cases hb), fun _ => ⟨_, hp7 r hr rfl, _, hsv1.rd (Sv.c_length _ _), nxVar (vs := Sv.zero.c nilS) (by kernel_rfl) fun w15 hz15 hx15 hs15 => ⟨hz15.storeOk (by simp [Sv.c_length]) (Sv.plain _ _), by simp [Sv.c_length], nxPut hz15 (us := r.s.c r.k) (by simp [Sv.c_length]) rfl fun w16 hv16 hc16 hs16 => ?_⟩⟩⟩
  have hx16 : Ext w1 w16 := Ext.of_chg hx15 hc16 (Nat.le_refl _)
  have h16 := h1.ext hx16
  refine ⟨_, hp7 r hr rfl, r.k, (scell (h16.sv r hr)).2.2.2.2.2.2, (bk_Clone (h16.bk r hr).src (by have := h.few r hr; omega)).use ?_⟩
  rintro _ w19 ⟨k, rfl, ho, hkl, hx19, hfr⟩
  have hv19 := hv16.ext hx19
  refine ⟨k, rfl, ⟨_, (scell hv19).2.2.2.2.2.2⟩, by rw [add_mk]; exact Blk.frozen hv19 _ rfl, ?_⟩
  rw [add_mk]
  refine nxSet hv19 fun w22 hv22 hc22 hs22 => ?_
  have ev : (r.s.c r.k).set (0 + 22) (.slice k.a k.len k.cap) = r.s.c k := r.s.set22 r.k k
  rw [ev] at hv22
  have hz22 : Var w22 w.heap.size (Sv.zero.c nilS) Ty.api_Service := ((hz1.ext hx16).ext hx19).chg hc22 (by have := hz1.lt; omega)
  refine ⟨_, hv22.rd (Sv.c_length _ _), hz22.storeOk (by simp [Sv.c_length]) (Sv.plain _ _), by simp [Sv.c_length], nxPut hz22 (us := r.s.c k) (by simp [Sv.c_length]) rfl fun w24 hv24 hc24 hs24 => ⟨_, hv24.rd (Sv.c_length _ _), k, rfl, ?_, ?_, fun q hq => ?_⟩⟩
  · refine (ho.chg hc22 fun q hq e => ?_).chg hc24 fun q hq e => ?_
    · subst e; have := hfr _ hq; have := hv16.lt; omega
    · subst e; have := hfr _ hq; have := hx16.size; have := hz1.lt; omega
  · have hX19 : Ext w w19 := Ext.trans hx1 (Ext.trans hx16 hx19)
    exact Ext.of_chg (Ext.of_chg hX19 hc22 hx1.size) hc24 (Nat.le_refl _)
  · have := hfr q hq; have := (Ext.trans hx1 hx16).size; omega

theorem appSv : AppT Try.prog Ty.Sl_api_Service Ty.api_Service 23 72 := ⟨by kernel_rfl⟩
theorem buildSv (s : Sv) (k : Sl) (w : World) : Sem.run Try.prog (Instr.buildSlice Ty.Sl_api_Service 1 #[(0, .agg (s.c k).toArray)]) w = .ok (.slice (some ⟨w.heap.size, 0, none⟩) 1 1) (w.alloc (.cells (s.c k).toArray Ty.api_Service)) := by
  obtain ⟨id, ⟨six, b, h⟩, port, proto, bits, lasts⟩ := s
  obtain ⟨x0, x1, x2, x3, x4, x5, x6, x7, x8, x9, x10, x11, x12, x13, x14, x15, rfl⟩ := list16 b h
  kernel_rfl

/-- Services that the call laid itself. -/
structure OwnSv (w : World) (t : Sl) (X : List SM) : Prop where
  o : OwnS 23 Ty.api_Service w t (smC X)
  k : ∀ x ∈ X, OwnS 21 Ty.api_Backend w x.k (bksC x.bs)
theorem OwnSv.svL {t : Sl} {X : List SM} (h : OwnSv w t X) (hf : ∀ x ∈ X, x.bs.length ≤ 1000) (hl : X.length ≤ 1000) : SvL w t X := ⟨h.o.src, fun x hx => (h.k x hx).src, hf, hl⟩
theorem OwnSv.chg {t : Sl} {X : List SM} {W : Nat → Prop} (h : OwnSv w t X) (hc : Chg W w w') (hn : ∀ q, svB t X q → ¬ W q) : OwnSv w' t X :=
  ⟨h.o.chg hc fun q hq => hn q (.inl hq), fun x hx => (h.k x hx).chg hc fun q hq => hn q (.inr ⟨x, hx, hq⟩)⟩
theorem OwnSv.ext {t : Sl} {X : List SM} (h : OwnSv w t X) (hc : Ext w w') : OwnSv w' t X := h.chg hc fun _ _ h => h
theorem OwnSv.lt {t : Sl} {X : List SM} (h : OwnSv w t X) {q : Nat} (hq : svB t X q) : q < w.heap.size := hq.elim (h.o.lt q) fun ⟨x, hx, hq⟩ => (h.k x hx).lt q hq
theorem OwnSv.nil (w : World) : OwnSv w nilS [] := ⟨OwnS.none _ _ _, by simp⟩
/-- One service more. -/
theorem OwnSv.push {oT : TypeId} {t : Sl} {X : List SM} (h : OwnSv w t X) (x : SM) (hk : OwnS 21 Ty.api_Backend w x.k (bksC x.bs)) (hl : X.length ≤ 100000000) :
    ∃ (t' : Sl) (w' : World), Sem.run Try.prog (Builtin.append_ #[Ty.Sl_api_Service, Ty.Sl_api_Service] oT #[.slice t.a t.len t.cap, .slice (some ⟨w.heap.size, 0, none⟩) 1 1]) (w.alloc (.cells (x.s.c x.k).toArray Ty.api_Service)) = .ok (.slice t'.a t'.len t'.cap) w' ∧
      OwnSv w' t' (X ++ [x]) ∧ Chg (ownB t) w w' ∧ ∀ q, svB t' (X ++ [x]) q → svB t X q ∨ ownB x.k q ∨ w.heap.size ≤ q := by
  have hlen : t.len = X.length := by have := h.o.1; rw [smC_length] at this; omega
  obtain ⟨t', w', g1, g2, g3, g4, g5⟩ := appSv.push (oT := oT) (xs := x.s.c x.k) (Sv.c_length _ _) h.o (Sv.plain _ _) (by omega)
  refine ⟨t', w', g1, ⟨by rw [smC_app, smC_one]; exact g2, fun y hy => ?_⟩, g4, fun q hq => ?_⟩
  · have key : ∀ z : SM, OwnS 21 Ty.api_Backend w z.k (bksC z.bs) → OwnS 21 Ty.api_Backend w' z.k (bksC z.bs) := fun z hz => hz.chg g4 fun q hq hq2 => by
      obtain ⟨c, hB⟩ := OwnS.blk h.o hq2
      exact absurd (hz.notVar hq hB) (by decide)
    rcases List.mem_append.1 hy with hy | hy
    · exact key y (h.k y hy)
    · rw [List.mem_singleton.1 hy]; exact key x hk
  · rcases hq with hq | ⟨y, hy, hq⟩
    · exact (g5 q hq).elim (fun h => .inl (.inl h)) fun h => .inr (.inr h)
    · rcases List.mem_append.1 hy with hy | hy
      · exact .inl (.inr ⟨y, hy, hq⟩)
      · rw [List.mem_singleton.1 hy] at hq; exact .inr (.inl hq)

theorem conf_Of (h : FarmAt w fm R) (hok : ∀ r ∈ R, idOk r.s.id = true) : Ret Try.prog F.conf_Of #[.pointer (some ⟨fm.p, 0, none⟩)] w
    (fun v w' => ∃ (t : Sl) (X : List SM), v = .slice t.a t.len t.cap ∧ X.map SM.ab = absR R ∧ OwnSv w' t X ∧ Ext w w' ∧ ∀ q, svB t X q → w.heap.size ≤ q) := by
  refine W.conf_Of_ok (some ⟨fm.p, 0, none⟩) w _ ?_
  unfold W.conf_Of
  refine (farm_IDs h hok).use ?_
  rintro _ w1 ⟨s3, rfl, ho3, hl3, hx1, hf3⟩
  have hR := h.len
  refine ⟨s3, rfl, fun s6 n w' => ∃ (i : Nat) (X : List SM), n = i ∧ i ≤ R.length ∧ X.map SM.ab = (absR R).take i ∧ OwnSv w' s6 X ∧ Ext w1 w' ∧ ∀ q, svB s6 X q → w1.heap.size ≤ q, fun _ n _ => (s3.len - n).toNat,
    ⟨0, [], rfl, Nat.zero_le _, by simp, OwnSv.nil _, .refl _ _, fun q hq => hq.elim (fun hq => (ownB_none q hq).elim) fun ⟨x, hx, _⟩ => by cases hx⟩, ?_⟩
  rintro s6 _ w8 ⟨i, X, rfl, hi, hX, ho, hx8, hf8⟩
  refine ⟨fun hlt => ?_, fun hge => ?_⟩
  · have hlt : (i : Int) < ((s3.len : Nat) : Int) := of_decide_eq_true hlt
    have hlt : i < R.length := by omega
    have hXl : X.length = i := by have := congrArg List.length hX; rw [List.length_map, List.length_take] at this; unfold absR at this; rw [List.length_map] at this; omega
    obtain ⟨r, hre⟩ : ∃ r, r = R[i] := ⟨_, rfl⟩
    have hr : r ∈ R := by rw [hre]; exact List.getElem_mem _
    obtain ⟨A, hA, hbd, hcell, _⟩ := (ho3.ext hx8).at (i := i) (v := .int .i64 r.s.id) (by rw [List.getElem?_map, List.getElem?_map, List.getElem?_eq_getElem hlt, ← hre]; rfl)
    refine ⟨A, hA, hbd, _, hcell, (farm_Service (h.ext (Ext.trans hx1 hx8)) hr).use ?_⟩
    rintro _ w11 ⟨k, rfl, hok11, hx11, hf11⟩
    refine ⟨_, _, rfl, nxVar (vs := Sv.zero.c nilS) (by kernel_rfl) fun w15 hz15 hx15 hs15 => ⟨hz15.storeOk (by simp [Sv.c_length]) (Sv.plain _ _), by simp [Sv.c_length], nxPut hz15 (us := r.s.c k) (by simp [Sv.c_length]) rfl fun w16 hv16 hc16 hs16 => ?_⟩⟩
    have hx16 : Ext w11 w16 := Ext.of_chg hx15 hc16 (Nat.le_refl _)
    have hX16 : Ext w8 w16 := Ext.trans hx11 hx16
    have ho16 := ho.ext hX16
    have hk16 := hok11.ext hx16
    obtain ⟨t', w21, g1, g2, g3, g4⟩ := ho16.push (oT := Ty.Sl_api_Service) ⟨r.s, k, r.bs⟩ hk16 (by omega)
    have ew : IntKind.wrap .i64 ((i : Int) + 1) = ((i + 1 : Nat) : Int) := by rw [wrapi (by omega) (by omega)]; rfl
    have hms : (((s3.len : Nat) : Int) - ((i + 1 : Nat) : Int)).toNat < (((s3.len : Nat) : Int) - (i : Int)).toNat := by omega
    refine ⟨_, hv16.rd (Sv.c_length _ _), ⟨some ⟨w16.heap.size, 0, none⟩, 1, 1⟩, _, buildSv r.s k w16, t', w21, g1, ?_⟩
    rw [ew]
    refine ⟨⟨i + 1, X ++ [⟨r.s, k, r.bs⟩], rfl, hlt, ?_, g2, Ext.of_new (Ext.trans hx8 hX16) g3 (fun q hq => hf8 q (.inl hq)), fun q hq => ?_⟩, hms⟩
    · have hla : i < (absR R).length := by unfold absR; rw [List.length_map]; exact hlt
      have hge : (absR R)[i] = (r.s, r.bs) := by
        have h1 : (absR R)[i]? = some (r.s, r.bs) := by unfold absR; rw [List.getElem?_map, List.getElem?_eq_getElem hlt, ← hre]; rfl
        exact (List.getElem?_eq_some_iff.1 h1).2
      rw [List.map_append, hX, List.take_succ_eq_append_getElem hla, hge]
      rfl
    · rcases g4 q hq with h1 | h1 | h1
      · exact hf8 q h1
      · have := hf11 q h1; have := hx8.size; omega
      · have := (Ext.trans hx8 hX16).size; omega
  · have hge : ¬ (i : Int) < ((s3.len : Nat) : Int) := of_decide_eq_false hge
    have hie : i = R.length := by omega
    subst hie
    have e : (absR R).take R.length = absR R := List.take_of_length_le (by unfold absR; simp)
    rw [e] at hX
    exact ⟨s6, X, rfl, hX, ho, Ext.trans hx1 hx8, fun q hq => Nat.le_trans hx1.size (hf8 q hq)⟩

/-! ### Steps done -/
def doL (L : List SB) (o : OpM) : Int × List SB :=
  if o.kind = 3 then addService L o.s o.k else if o.kind = 4 then dropService L o.id else if o.kind = 5 then addBackend L o.id o.to else if o.kind = 6 then dropBackend L o.id o.bid else
  if o.kind = 7 then drain L o.id o.bid o.on else if o.kind = 8 then weigh L o.id o.bid (IntKind.wrap .i64 o.n) else (1, L)
theorem ocell {b : Nat} {T : TypeId} {o : OpM} (h : Var w b o.c T) : w.cell? ⟨b, 0, none⟩ = some (.int .i64 o.kind) ∧ w.cell? (Addr.add ⟨b, 0, none⟩ 2) = some (.int .i64 o.id) ∧ w.cell? (Addr.add ⟨b, 0, none⟩ 3) = some (.int .i64 o.bid) ∧ w.cell? (Addr.add ⟨b, 0, none⟩ 4) = some (.int .u64 o.n) ∧ w.cell? (Addr.add ⟨b, 0, none⟩ 5) = some (.bool o.on) := by
  simp only [add_mk, h.cell]
  exact ⟨rfl, rfl, rfl, rfl, rfl⟩
theorem ords {b : Nat} {T : TypeId} {o : OpM} (h : Var w b o.c T) : rdCells w (Addr.add ⟨b, 0, none⟩ 6) 0 23 = some (o.s.c o.k) := by
  rw [add_mk, h.rdAt (by rw [OpM.c_length]; decide)]
  show some ((o.s.c o.k ++ _).take 23) = _
  rw [List.take_left' (Sv.c_length _ _)]
theorem ordt {b : Nat} {T : TypeId} {o : OpM} (h : Var w b o.c T) : rdCells w (Addr.add ⟨b, 0, none⟩ 29) 0 21 = some o.to.c := by
  rw [add_mk, h.rdAt (by rw [OpM.c_length]; decide)]
  have e : o.c.drop (0 + 29) = o.to.c ++ [.slice o.l.a o.l.len o.l.cap] := by
    show (o.s.c o.k ++ _).drop 23 = _
    exact List.drop_left' (Sv.c_length _ _)
  rw [e, List.take_left' (Bk.c_length _)]
theorem conf_does (h : FarmAt w fm R) (o : OpM) : Ret Try.prog F.conf_does #[.pointer (some ⟨fm.p, 0, none⟩), .agg o.c.toArray] w (fun v w' => Step fm R w (doL (absR R) o) v w') := by
  refine W.conf_does_ok (some ⟨fm.p, 0, none⟩) _ w _ ?_
  unfold W.conf_does
  refine nxVar (vs := o.c) rfl fun w1 hv hx1 hs1 => ?_
  have h1 := h.ext hx1
  obtain ⟨c0, c2, c3, c4, c5⟩ := ocell hv
  have fin : ∀ {x : Int × List SB} {v : Value} {w2 : World}, doL (absR R) o = x → Step fm R w1 x v w2 → v = .int .i64 x.1 ∧ Step fm R w (doL (absR R) o) (.int .i64 x.1) w2 := by
    intro x v w2 he hs
    have hv := hs.1
    subst hv
    refine ⟨rfl, ?_⟩
    rw [he]
    exact Step.trans_ext hx1 hs
  refine ⟨_, c0, fun k3 => ?_, fun k3 => ⟨fun k4 => ?_, fun k4 => ⟨fun k5 => ?_, fun k5 => ⟨fun k6 => ?_, fun k6 => ⟨fun k7 => ?_, fun k7 => ⟨fun k8 => ?_, fun k8 => ?_⟩⟩⟩⟩⟩⟩
  all_goals simp only [beq_iff_eq, beq_eq_false_iff_ne, ne_eq] at *
  · refine ⟨_, ords hv, (farm_AddService' h1 o.s o.k).use ?_⟩
    intro v w2 hs
    obtain ⟨rfl, hf⟩ := fin (by unfold doL; rw [if_pos k3]) hs
    exact ⟨_, rfl, hf⟩
  · refine ⟨_, c2, (farm_DropService h1 o.id).use ?_⟩
    intro v w2 hs
    obtain ⟨rfl, hf⟩ := fin (by unfold doL; rw [if_neg k3, if_pos k4]) hs
    exact ⟨_, rfl, hf⟩
  · refine ⟨_, c2, _, ordt hv, (farm_AddBackend h1 o.id o.to).use ?_⟩
    intro v w2 hs
    obtain ⟨rfl, hf⟩ := fin (by unfold doL; rw [if_neg k3, if_neg k4, if_pos k5]) hs
    exact ⟨_, rfl, hf⟩
  · refine ⟨_, c2, _, c3, (farm_DropBackend h1 o.id o.bid).use ?_⟩
    intro v w2 hs
    obtain ⟨rfl, hf⟩ := fin (by unfold doL; rw [if_neg k3, if_neg k4, if_neg k5, if_pos k6]) hs
    exact ⟨_, rfl, hf⟩
  · refine ⟨_, c2, _, c3, _, c5, (farm_Drain h1 o.id o.bid o.on).use ?_⟩
    intro v w2 hs
    obtain ⟨rfl, hf⟩ := fin (by unfold doL; rw [if_neg k3, if_neg k4, if_neg k5, if_neg k6, if_pos k7]) hs
    exact ⟨_, rfl, hf⟩
  · refine ⟨_, c2, _, c3, _, c4, (farm_Weigh h1 o.id o.bid (IntKind.wrap .i64 o.n)).use ?_⟩
    intro v w2 hs
    obtain ⟨rfl, hf⟩ := fin (by unfold doL; rw [if_neg k3, if_neg k4, if_neg k5, if_neg k6, if_neg k7, if_pos k8]) hs
    exact ⟨_, rfl, hf⟩
  · have e : doL (absR R) o = (1, absR R) := by unfold doL; rw [if_neg k3, if_neg k4, if_neg k5, if_neg k6, if_neg k7, if_neg k8]
    rw [e]
    exact Step.same h hx1 rfl

/-- How many steps are done, which error ends that, and the farm behind it. -/
def applyL : List SB → List OpM → Nat → Nat × Int × List SB
  | L, [], i => (i, 0, L)
  | L, o :: O, i => if (doL L o).1 = 0 then applyL (doL L o).2 O (i + 1) else (i, (doL L o).1, (doL L o).2)
theorem OpM.get {t : Sl} {O : List OpM} (h : Src 51 w t (opsC O)) {i : Nat} (hi : i < O.length) : ∃ A, t.a = some A ∧ ((0 : Int) ≤ (i : Int) ∧ (i : Int) < ((t.len : Nat) : Int)) ∧ rdCells w (A.add (Int.toNat (i : Int) * 51)) 0 51 = some (O[i]).c := by
  have hl : t.len = O.length := by have := h.len; rw [opsC_length] at this; omega
  cases ha : t.a with
  | none =>
    have := congrArg List.length (h.nil ha)
    rw [opsC_length, List.length_nil] at this
    omega
  | some A =>
    refine ⟨A, rfl, ⟨by omega, by omega⟩, ?_⟩
    rw [Int.toNat_natCast, rdPart (h.rd A ha) (by rw [hl]; omega), opsC_drop, List.drop_eq_getElem_cons hi]
    show some (((O[i]).c ++ opsC _).take 51) = _
    rw [List.take_left' (OpM.c_length _)]

theorem conf_Apply (h : FarmAt w fm R) {t : Sl} {O : List OpM} (hO : ∀ w', Chg (foot fm R) w w' → Src 51 w' t (opsC O)) (hn : O.length ≤ 1000000000) : Ret Try.prog F.conf_Apply #[.pointer (some ⟨fm.p, 0, none⟩), .slice t.a t.len t.cap] w
    (fun v w' => v = .tuple #[.int .i64 (((applyL (absR R) O 0).1 : Nat) : Int), .int .i64 (applyL (absR R) O 0).2.1] ∧ ∃ R', FarmAt w' fm R' ∧ absR R' = (applyL (absR R) O 0).2.2 ∧ Chg (foot fm R) w w' ∧ ∀ q, foot fm R' q → foot fm R q ∨ w.heap.size ≤ q) := by
  refine W.conf_Apply_ok (some ⟨fm.p, 0, none⟩) t w _ ?_
  unfold W.conf_Apply
  have hl : t.len = O.length := by have := (hO w (.refl _ _)).len; rw [opsC_length] at this; omega
  refine ⟨fun hn => by simp at hn, fun _ => ⟨fun n w' => ∃ (i : Nat) (Ri : List Rec), n = i ∧ i ≤ O.length ∧ FarmAt w' fm Ri ∧ applyL (absR R) O 0 = applyL (absR Ri) (O.drop i) i ∧ Chg (foot fm R) w w' ∧ ∀ q, foot fm Ri q → foot fm R q ∨ w.heap.size ≤ q, fun n _ => (t.len - n).toNat,
    ⟨0, R, rfl, Nat.zero_le _, h, rfl, .refl _ _, fun _ h => .inl h⟩, ?_⟩⟩
  rintro _ w4 ⟨i, Ri, rfl, hi, h4, hap, hc4, hf4⟩
  refine ⟨fun hlt => ?_, fun hge => ?_⟩
  · have hlt : (i : Int) < ((t.len : Nat) : Int) := of_decide_eq_true hlt
    have hlt : i < O.length := by omega
    obtain ⟨A, hA, hbd, hrd⟩ := OpM.get (hO w4 hc4) hlt
    obtain ⟨o, hoe⟩ : ∃ o, o = O[i] := ⟨_, rfl⟩
    rw [← hoe] at hrd
    rw [List.drop_eq_getElem_cons hlt, ← hoe] at hap
    refine ⟨A, hA, hbd, _, hrd, nxVar (vs := opZ.c) (by kernel_rfl) fun w7 hz7 hx7 hs7 => ⟨hz7.storeOk (by simp [OpM.c_length]) (OpM.plain _), by simp [OpM.c_length], nxPut hz7 (us := o.c) (by simp [OpM.c_length]) rfl fun w8 hv8 hc8 hs8 => ?_⟩⟩
    have hx8 : Ext w4 w8 := Ext.of_chg hx7 hc8 (Nat.le_refl _)
    have h8 := h4.ext hx8
    refine ⟨_, hv8.rd o.c_length, (conf_does h8 o).use ?_⟩
    rintro _ w10 ⟨rfl, R2, h10, hab, hc10, hf10⟩
    have hC10 : Chg (foot fm R) w w10 := chgThen (hc4.trans (Chg.of_ext hx8)) hc10 hf4
    have hF10 : ∀ q, foot fm R2 q → foot fm R q ∨ w.heap.size ≤ q := fun q hq => (hf10 q hq).elim (hf4 q) fun h => .inr (by have := hc4.size; have := hx8.size; omega)
    obtain ⟨e, he⟩ : ∃ e, e = (doL (absR Ri) o).1 := ⟨_, rfl⟩
    rw [← he]
    have ew : IntKind.wrap .i64 ((i : Int) + 1) = ((i + 1 : Nat) : Int) := by rw [wrapi (by omega) (by omega)]; rfl
    have hms : (((t.len : Nat) : Int) - ((i + 1 : Nat) : Int)).toNat < (((t.len : Nat) : Int) - (i : Int)).toNat := by omega
    refine ⟨_, rfl, fun hne => ?_, fun hz => ?_⟩
    · have hne : e ≠ 0 := by simpa using hne
      have e2 : applyL (absR R) O 0 = (i, (doL (absR Ri) o).1, (doL (absR Ri) o).2) := by rw [hap, applyL, if_neg (by rw [← he]; exact hne)]
      rw [e2, ← he]
      exact ⟨rfl, R2, h10, hab, hC10, hF10⟩
    · have hz : e = 0 := by simpa using hz
      rw [ew]
      refine ⟨⟨i + 1, R2, rfl, hlt, h10, ?_, hC10, hF10⟩, hms⟩
      rw [hap, applyL, if_pos (by rw [← he]; exact hz), hab]
  · have hge : ¬ (i : Int) < ((t.len : Nat) : Int) := of_decide_eq_false hge
    have hie : i = O.length := by omega
    subst hie
    rw [List.drop_length] at hap
    rw [hap, hl]
    exact ⟨rfl, Ri, h4, rfl, hc4, hf4⟩

end Go.Proofs.Ytldeegpcldhjaaa
