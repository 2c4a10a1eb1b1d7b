/- ConfOf: the farm and the reference's, after any acts; its services are good, and their steps make them again. -/
import Derived.Test.YtldeegpcldhjaaaConfY
namespace Go.Proofs.Ytldeegpcldhjaaa
open Go Gx
variable {w w' : World} {fm : Fm} {R : List Rec} {p : Nat} {t : Sl} {X : List SM}

/-- The farm and the reference's farm, alike. -/
structure Two (w : World) (fm : Fm) (R : List Rec) (p : Nat) (t : Sl) (X : List SM) : Prop where
  f : FarmAt w fm R
  x : RefAt w p t X
  ab : X.map SM.ab = absR R
  g : GoodF (absR R)
  dis : ∀ q, foot fm R q → ¬ rfoot p t X q
def twoF (fm : Fm) (R : List Rec) (p : Nat) (t : Sl) (X : List SM) (q : Nat) : Prop := foot fm R q ∨ rfoot p t X q
theorem Two.ext (h : Two w fm R p t X) (hx : Ext w w') : Two w' fm R p t X := ⟨h.f.ext hx, h.x.ext hx, h.ab, h.g, h.dis⟩
theorem Two.lt (h : Two w fm R p t X) {q : Nat} (hq : twoF fm R p t X q) : q < w.heap.size := hq.elim h.f.lt h.x.lt
theorem Two.good (h : Two w fm R p t X) : GoodSB (absR R) := h.f.good h.g
theorem Two.small (h : Two w fm R p t X) : Small X := Small.of (by rw [h.ab]; exact h.good)
def TwoStep (fm : Fm) (R : List Rec) (p : Nat) (t : Sl) (X : List SM) (w w' : World) : Prop :=
  ∃ R' t' X', Two w' fm R' p t' X' ∧ Chg (twoF fm R p t X) w w' ∧ ∀ q, twoF fm R' p t' X' q → twoF fm R p t X q ∨ w.heap.size ≤ q
theorem Two.at (h : Two w fm R p t X) {w1 : World} (hc : Chg (foot fm R) w w1) : RefAt w1 p t X := h.x.chg hc fun q hq hq2 => h.dis q hq2 hq
theorem Two.step {w0 w1 w2 : World} (h : Two w fm R p t X) (hx : Ext w0 w) (hlt : ∀ q, twoF fm R p t X q → q < w0.heap.size) {y : Int × List SB} (hy : GoodF y.2) {v1 v2 : Value} (s1 : Step fm R w y v1 w1) (s2 : RStep p t X w1 y v2 w2) : TwoStep fm R p t X w0 w2 := by
  obtain ⟨_, R', f1, a1, c1, n1⟩ := s1
  obtain ⟨_, t', X', x2, a2, c2, n2⟩ := s2
  have hn : ∀ q, foot fm R' q → ¬ rfoot p t X q := fun q hq hr => by
    rcases n1 q hq with h1 | h1
    · exact h.dis q h1 hr
    · have := h.x.lt hr; omega
  refine ⟨R', t', X', ⟨f1.chg c2 hn, x2, by rw [a1, a2], by rw [a1]; exact hy, fun q hq hr => ?_⟩, ?_, fun q hq => ?_⟩
  · rcases n2 q hr with h2 | h2
    · exact hn q hq h2
    · have := f1.lt hq; omega
  · refine Chg.trans (Chg.of_ext hx) (Chg.trans (c1.mono fun q _ hq => .inl hq) (c2.mono fun q _ hq => .inr hq))
  · have hs1 := hx.size; have hs2 := c1.size
    rcases hq with hq | hq
    · exact (n1 q hq).imp .inl fun h => Nat.le_trans hs1 h
    · exact (n2 q hq).imp .inr fun h => by omega

theorem law20_Do (h : Two w fm R p t X) {a : AcM} (ha : AcIn w a) : Ret Try.prog F.law20_Do #[.pointer (some ⟨fm.p, 0, none⟩), .pointer (some ⟨p, 0, none⟩), .agg a.c.toArray] w (fun v w' => v = .bool true ∧ TwoStep fm R p t X w w') := by
  refine W.law20_Do_ok (some ⟨fm.p, 0, none⟩) (some ⟨p, 0, none⟩) _ w _ ?_
  unfold W.law20_Do
  refine nxVar (vs := a.c) rfl fun w1 hv hx1 hs1 => ⟨_, hv.rd (AcM.c_length _), (law20_Few (ha.ext hx1)).use ?_⟩
  rintro _ w3 ⟨k, bs, rfl, hx3⟩
  obtain ⟨d, hd⟩ : ∃ d : AcM, d = { a with x := ⟨a.x.s, k, bs⟩ } := ⟨_, rfl⟩
  have hdp : 0 ≤ d.b.port := by rw [hd]; exact ha.port
  rw [← hd]
  have hv3 := hv.ext hx3
  refine ⟨_, rfl, hv3.storeOk (by simp [AcM.c_length]) (by simpa using d.plain), by simp [AcM.c_length], nxPut hv3 (us := d.c) (by simp [AcM.c_length]) (by simp) fun w6 hv6 hc6 hs6 => ?_⟩
  have hX6 : Ext w w6 := Ext.of_chg (Ext.trans hx1 hx3) hc6 (Nat.le_refl _)
  have hd8 : Ext w6 w6.drew := Chg.drew (.refl _ _)
  have hX8 := Ext.trans hX6 hd8
  have h8 := h.ext hX8
  have hv8 := hv6.ext hd8
  have hlt : ∀ q, twoF fm R p t X q → q < w.heap.size := fun q hq => h.lt hq
  have nf : ∀ o : Nat, ¬ foot fm R (Addr.add ⟨w.heap.size, 0, none⟩ o).block := fun o hq => by
    rw [addBlk] at hq
    have := h.f.lt hq
    simp at this
  have sm := h.small
  refine ⟨_, (acell hv6).1, fun _ => nx ?_, fun _ => ⟨fun _ => nx ?_, fun _ => ⟨fun _ => nx ?_, fun _ => ⟨fun _ => nx ?_, fun _ => ⟨fun _ => nx ?_, fun _ => ⟨fun _ => nx ?_, fun _ => nx ?_⟩⟩⟩⟩⟩⟩
  · refine ⟨foot fm R, nf 1, _, (acell hv8).2.1, nf 1, _, (acell hv8).2.1, (farm_DropService h8.f d.id).use ?_⟩
    rintro _ w12 s1
    have c1 : Chg (foot fm R) w6.drew w12 := by obtain ⟨_, _, _, _, c, _⟩ := s1; exact c
    refine ⟨_, by rw [s1.1], c1, (ref20_DropService (h8.at c1) sm d.id).use ?_⟩
    rintro _ w15 s2
    rw [h.ab] at s2
    exact ⟨_, by rw [s2.1], by simp, h8.step hX8 hlt (h.g.dropService _) s1 s2⟩
  · refine ⟨foot fm R, nf 1, _, (acell hv8).2.1, nf 27, _, ardb hv8, nf 1, _, (acell hv8).2.1, nf 27, _, ardb hv8, (farm_AddBackend h8.f d.id d.b).use ?_⟩
    rintro _ w12 s1
    have c1 : Chg (foot fm R) w6.drew w12 := by obtain ⟨_, _, _, _, c, _⟩ := s1; exact c
    refine ⟨_, by rw [s1.1], c1, (ref20_AddBackend (h8.at c1) sm d.id d.b hdp).use ?_⟩
    rintro _ w15 s2
    rw [h.ab] at s2
    exact ⟨_, by rw [s2.1], by simp, h8.step hX8 hlt (h.g.addBackend h.good.ids _ _) s1 s2⟩
  · refine ⟨foot fm R, nf 1, _, (acell hv8).2.1, nf 2, _, (acell hv8).2.2.1, nf 1, _, (acell hv8).2.1, nf 2, _, (acell hv8).2.2.1, (farm_DropBackend h8.f d.id d.bid).use ?_⟩
    rintro _ w12 s1
    have c1 : Chg (foot fm R) w6.drew w12 := by obtain ⟨_, _, _, _, c, _⟩ := s1; exact c
    refine ⟨_, by rw [s1.1], c1, (ref20_Turn (h8.at c1) sm d.id d.bid 0 0).use ?_⟩
    rintro _ w15 s2
    rw [h.ab, turn_drop] at s2
    exact ⟨_, by rw [s2.1], by simp, h8.step hX8 hlt (h.g.dropBackend _ _) s1 s2⟩
  · refine ⟨foot fm R, nf 1, _, (acell hv8).2.1, nf 2, _, (acell hv8).2.2.1, nf 1, _, (acell hv8).2.1, nf 2, _, (acell hv8).2.2.1, (farm_Drain h8.f d.id d.bid true).use ?_⟩
    rintro _ w12 s1
    have c1 : Chg (foot fm R) w6.drew w12 := by obtain ⟨_, _, _, _, c, _⟩ := s1; exact c
    refine ⟨_, by rw [s1.1], c1, (ref20_Turn (h8.at c1) sm d.id d.bid 1 0).use ?_⟩
    rintro _ w15 s2
    rw [h.ab, turn_on] at s2
    exact ⟨_, by rw [s2.1], by simp, h8.step hX8 hlt (h.g.drain _ _ _) s1 s2⟩
  · refine ⟨foot fm R, nf 1, _, (acell hv8).2.1, nf 2, _, (acell hv8).2.2.1, nf 1, _, (acell hv8).2.1, nf 2, _, (acell hv8).2.2.1, (farm_Drain h8.f d.id d.bid false).use ?_⟩
    rintro _ w12 s1
    have c1 : Chg (foot fm R) w6.drew w12 := by obtain ⟨_, _, _, _, c, _⟩ := s1; exact c
    refine ⟨_, by rw [s1.1], c1, (ref20_Turn (h8.at c1) sm d.id d.bid 2 0).use ?_⟩
    rintro _ w15 s2
    rw [h.ab, turn_off] at s2
    exact ⟨_, by rw [s2.1], by simp, h8.step hX8 hlt (h.g.drain _ _ _) s1 s2⟩
  · refine ⟨foot fm R, nf 1, _, (acell hv8).2.1, nf 2, _, (acell hv8).2.2.1, nf 3, _, (acell hv8).2.2.2.1, nf 1, _, (acell hv8).2.1, nf 2, _, (acell hv8).2.2.1, nf 3, _, (acell hv8).2.2.2.1, (farm_Weigh h8.f d.id d.bid d.weight).use ?_⟩
    rintro _ w12 s1
    have c1 : Chg (foot fm R) w6.drew w12 := by obtain ⟨_, _, _, _, c, _⟩ := s1; exact c
    refine ⟨_, by rw [s1.1], c1, (ref20_Turn (h8.at c1) sm d.id d.bid 3 d.weight).use ?_⟩
    rintro _ w15 s2
    rw [h.ab, turn_weigh] at s2
    exact ⟨_, by rw [s2.1], by simp, h8.step hX8 hlt (h.g.weigh _ _ _) s1 s2⟩
  · refine ⟨foot fm R, nf 4, _, ards hv8, nf 4, _, ards hv8, (farm_AddService' h8.f d.x.s d.x.k).use ?_⟩
    rintro _ w12 s1
    have c1 : Chg (foot fm R) w6.drew w12 := by obtain ⟨_, _, _, _, c, _⟩ := s1; exact c
    refine ⟨_, by rw [s1.1], c1, (ref20_AddService (h8.at c1) sm d.x.s d.x.k).use ?_⟩
    rintro _ w15 s2
    rw [h.ab] at s2
    exact ⟨_, by rw [s2.1], by simp, h8.step hX8 hlt (h.g.addService h.good.ids _ _) s1 s2⟩

theorem fewL_good {A : List SB} (h : GoodSB A) : fewL A = A := by
  unfold fewL
  rw [List.take_of_length_le (by have := h.len; omega)]
  conv => rhs; rw [← List.map_id A]
  refine List.map_congr_left fun x hx => ?_
  unfold cutSB
  rw [List.take_of_length_le (by have := h.few x hx; omega)]; rfl
theorem conf_Good {t : Sl} {X : List SM} (hl : SvL w t X) : Ret Try.prog F.conf_Good #[.slice t.a t.len t.cap] w (fun v w' => v = .bool (goodL (X.map SM.ab)) ∧ Ext w w') := by
  refine W.conf_Good_ok t w _ ?_
  unfold W.conf_Good
  refine (conf_good hl).use ?_
  rintro _ w1 ⟨rfl, hx⟩
  exact ⟨_, rfl, rfl, hx⟩

theorem law_ConfOf {l : Sl} {O : List AcM} (hO : AcsIn w l O) : Ret Try.prog F.law39_ConfOf #[.slice l.a l.len l.cap] w (fun v w' => v = .bool true ∧ Ext w w') := by
  refine W.law39_ConfOf_ok l w _ ?_
  unfold W.law39_ConfOf
  have hl := hO.len
  refine (farm_New w).use ?_
  rintro _ w1 ⟨fm, rfl, hf1, hx1, hff⟩
  refine ⟨_, rfl, nxVar (vs := [.slice nilS.a nilS.len nilS.cap]) rfl fun w4 hv4 hx4 hs4 => ?_⟩
  have T4 : Two w4 fm [] w1.heap.size nilS [] := ⟨hf1.ext hx4, ⟨hv4, OwnSv.nil _⟩, rfl, GoodF.nil, fun q hq hr => by
    have h1 := hf1.lt hq
    rcases hr with rfl | hr
    · omega
    · rcases hr with hr | ⟨x, hx, _⟩
      · exact ownB_none q hr
      · cases hx⟩
  have F4 : ∀ q, twoF fm [] w1.heap.size nilS [] q → w.heap.size ≤ q := fun q hq => by
    rcases hq with hq | rfl | hr | ⟨x, hx, _⟩
    · exact hff q hq
    · exact hx1.size
    · exact (ownB_none q hr).elim
    · cases hx
  refine ⟨fun n w' => ∃ (i : Nat) (R : List Rec) (t : Sl) (X : List SM), n = i ∧ i ≤ O.length ∧ i ≤ 50 ∧ Two w' fm R w1.heap.size t X ∧ (∀ q, twoF fm R w1.heap.size t X q → w.heap.size ≤ q) ∧ Ext w w', fun n _ => (50 - n).toNat,
    ⟨0, [], nilS, [], rfl, Nat.zero_le _, Nat.zero_le _, T4, F4, Ext.trans hx1 hx4⟩, ?_⟩
  rintro _ w8 ⟨i, R, t, X, rfl, hi, hi50, T, hF, hx8⟩
  refine ⟨fun hlt => ?_, fun _ => ?_⟩
  · simp only [Bool.and_eq_true, decide_eq_true_eq] at hlt
    have hlt1 : i < O.length := by omega
    obtain ⟨A, hA, hbd, hrd⟩ := (hO.ext hx8).get hlt1
    refine ⟨A, hA, hbd, _, hrd, (law20_Do T ((hO.ext hx8).each _ (List.getElem_mem hlt1))).use ?_⟩
    rintro _ w11 ⟨rfl, R', t', X', T', c', n'⟩
    have ew : IntKind.wrap .i64 ((i : Int) + 1) = ((i + 1 : Nat) : Int) := by rw [wrapi (by omega) (by omega)]; rfl
    have hms : ((50 : Int) - ((i + 1 : Nat) : Int)).toNat < ((50 : Int) - (i : Int)).toNat := by omega
    refine ⟨_, rfl, fun h => by simp at h, fun _ => ?_⟩
    rw [ew]
    exact ⟨⟨i + 1, R', t', X', rfl, hlt1, by omega, T', fun q hq => (n' q hq).elim (hF q) fun h => Nat.le_trans hx8.size h, Ext.of_new hx8 c' hF⟩, hms⟩
  obtain ⟨A, hA⟩ : ∃ A, A = absR R := ⟨_, rfl⟩
  have gA : GoodSB A := by rw [hA]; exact T.good
  have gL := good_goodL gA
  refine (conf_Of T.f T.good.idOk).use ?_
  rintro _ w14 ⟨s16, X16, rfl, hX16, o16, hx14, _⟩
  rw [← hA] at hX16
  have l16 := fun q hq => o16.lt (q := q) hq
  refine ⟨s16, rfl, (farm_New w14).use ?_⟩
  rintro _ w17 ⟨fn, rfl, hn17, hx17, hnf⟩
  have o16 := o16.ext hx17
  refine ⟨_, rfl, (law39_Few o16.in).use ?_⟩
  rintro _ w20 ⟨s22, X22, rfl, hX22, o22, hx20, _⟩
  rw [hX16, fewL_good gA] at hX22
  have o16 := o16.ext hx20
  refine ⟨s22, rfl, (conf_Steps (o22.abs hX22 gA)).use ?_⟩
  rw [hX22, diffE_of (A := []) (B := A) (by decide) gL, if_pos rfl]
  rintro _ w23 ⟨s25, _, rfl, rfl, p25, hx23, hf25⟩
  have o16 := o16.ext hx23
  have hX8 : Ext w8 w23 := Ext.trans hx14 (Ext.trans hx17 (Ext.trans hx20 hx23))
  have n23 := hn17.ext (Ext.trans hx20 hx23)
  have a25 : ∀ q, ownB s25 q → ¬ foot fn [] q := fun q hq hfq => by
    have := hn17.lt hfq; have := hf25 q hq; have := hx20.size; omega
  refine ⟨s25, _, rfl, (conf_Apply n23 (t := s25) (O := diffL [] A) (fun w' hc => (p25.chg hc a25).src) (by have := diffL_few GoodSB.nil gA; omega)).use ?_⟩
  rw [show absR [] = [] from rfl, applyL_run 0 (run_diff GoodSB.nil gA)]
  rintro _ w27 ⟨rfl, R2, f27, hR2, c27, hf27⟩
  have T23 := T.ext hX8
  have e27 : ∀ q, foot fn [] q → w14.heap.size ≤ q := hnf
  have hd : Ext w27 w27.drew := Chg.drew (.refl _ _)
  have s14 := hx14.size
  have T31 : RefAt w27.drew w1.heap.size t X := (T23.x.chg c27 fun q hq hq2 => by have := T.x.lt hq; have := e27 q hq2; omega).ext hd
  have hX27 : Ext w w27 := Ext.of_new (Ext.trans hx8 hX8) c27 fun q hq => by have := e27 q hq; have := hx8.size; omega
  have hXA : X.map SM.ab = A := by rw [T.ab, hA]
  have o16 := (o16.chg c27 fun q hq hq2 => by have := l16 q hq; have := e27 q hq2; omega).ext hd
  refine ⟨_, _, rfl, nx ⟨fun _ => False, _, rfl, id, t, T31.v.cell, (ref39_Same (o16.abs hX16 gA) (T31.o.abs hXA gA)).use ?_⟩⟩
  rintro _ w35 ⟨rfl, hx35⟩
  have o16 := o16.ext hx35
  refine ⟨_, rfl, fun _ => False, fun _ => (law39_Few o16.in).use ?_, fun hb => ?_⟩
  rotate_left
  · rw [hX16, hXA] at hb; simp at hb
  rintro _ w39 ⟨s41, X41, rfl, hX41, o41, hx39, _⟩
  rw [hX16, fewL_good gA] at hX41
  refine ⟨s41, rfl, hx39, (conf_Good (o41.abs hX41 gA)).use ?_⟩
  rw [hX41, gL]
  rintro _ w42 ⟨rfl, hx42⟩
  have hx3142 : Ext w27.drew w42 := Ext.trans hx35 (Ext.trans hx39 hx42)
  have T42 := T31.ext hx3142
  have f42 := f27.ext (Ext.trans hd hx3142)
  have gR2 : GoodSB (absR R2) := by rw [hR2]; exact gA
  refine ⟨_, rfl, hx42, fun _ => ⟨fun _ => ⟨fun _ => ⟨fun _ => ⟨_, rfl, id, t, T42.v.cell, (conf_Of f42 gR2.idOk).use ?_⟩, fun hb => by simp at hb⟩, fun hb => ?_⟩, fun hb => absurd hb (by decide)⟩, fun hb => absurd hb (by decide)⟩
  rotate_left
  · rw [opsLen p25] at hb; simp at hb
  rintro _ w47 ⟨s49, X49, rfl, hX49, o49, hx47, _⟩
  rw [hR2] at hX49
  refine ⟨s49, rfl, hx47, (ref39_Same (o49.abs hX49 gA) ((T42.ext hx47).o.abs hXA gA)).use ?_⟩
  rintro _ w50 ⟨rfl, hx50⟩
  have hXl : Ext w w50 := Ext.trans hX27 (Ext.trans hd (Ext.trans hx3142 (Ext.trans hx47 hx50)))
  refine ⟨_, rfl, Jn1 (fun b w' => b = true ∧ Ext w50 w') (fun q hq => ⟨fun _ => (law39_lives w50).use ?_, fun hb => ?_⟩) fun b w58 hb => ?_⟩
  · rintro _ w54 ⟨rfl, hx54⟩
    exact ⟨_, rfl, hq _ _ ⟨rfl, hx54⟩⟩
  · rw [hX49, hXA] at hb; simp at hb
  · obtain ⟨rfl, hx58⟩ := hb
    exact ⟨rfl, Ext.trans hXl hx58⟩

end Go.Proofs.Ytldeegpcldhjaaa
