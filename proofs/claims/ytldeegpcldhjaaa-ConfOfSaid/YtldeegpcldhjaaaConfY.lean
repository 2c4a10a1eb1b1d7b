/- Acts: what they are in the heap, how they come in, and how they are cut. -/
import Derived.Test.YtldeegpcldhjaaaConfX
namespace Go.Proofs.Ytldeegpcldhjaaa
open Go Gx
variable {w w' : World}

structure AcM where
  kind : Int
  id : Int
  bid : Int
  weight : Int
  x : SM
  b : Bk
def AcM.c (a : AcM) : List Value := [.int .i64 a.kind, .int .i64 a.id, .int .i64 a.bid, .int .i64 a.weight] ++ (a.x.s.c a.x.k ++ a.b.c)
theorem AcM.c_length (a : AcM) : a.c.length = 48 := by simp [AcM.c, Sv.c_length, Bk.c_length]
theorem AcM.plain (a : AcM) : ∀ v ∈ a.c, Plain v := by
  intro v hv
  rcases List.mem_append.1 hv with hv | hv
  · simp only [List.mem_cons, List.not_mem_nil, or_false] at hv
    rcases hv with rfl | rfl | rfl | rfl <;> trivial
  rcases List.mem_append.1 hv with hv | hv
  · exact a.x.s.plain _ v hv
  · exact a.b.plain v hv
def AcM.zero : AcM := ⟨0, 0, 0, 0, ⟨Sv.zero, nilS, []⟩, Bk.zero⟩
theorem acell {b : Nat} {T : TypeId} {a : AcM} (h : Var w b a.c T) : w.cell? ⟨b, 0, none⟩ = some (.int .i64 a.kind) ∧ w.cell? (Addr.add ⟨b, 0, none⟩ 1) = some (.int .i64 a.id) ∧ w.cell? (Addr.add ⟨b, 0, none⟩ 2) = some (.int .i64 a.bid) ∧
    w.cell? (Addr.add ⟨b, 0, none⟩ 3) = some (.int .i64 a.weight) ∧ w.cell? ((Addr.add ⟨b, 0, none⟩ 4).add 22) = some (.slice a.x.k.a a.x.k.len a.x.k.cap) := by
  simp only [add_mk, h.cell]
  refine ⟨rfl, rfl, rfl, rfl, ?_⟩
  simp [AcM.c, Sv.c, List.getElem?_append, Ad.c_length]
theorem ards {b : Nat} {T : TypeId} {a : AcM} (h : Var w b a.c T) : rdCells w (Addr.add ⟨b, 0, none⟩ 4) 0 23 = some (a.x.s.c a.x.k) := by
  rw [add_mk, h.rdAt (by rw [AcM.c_length]; decide)]
  show some ((a.x.s.c a.x.k ++ _).take 23) = _
  rw [List.take_left' (Sv.c_length _ _)]
theorem ardb {b : Nat} {T : TypeId} {a : AcM} (h : Var w b a.c T) : rdCells w (Addr.add ⟨b, 0, none⟩ 27) 0 21 = some a.b.c := by
  rw [add_mk, h.rdAt (by rw [AcM.c_length]; decide)]
  have e : a.c.drop (0 + 27) = a.b.c := by
    show (a.x.s.c a.x.k ++ _).drop 23 = _
    rw [List.drop_left' (Sv.c_length _ _)]
  rw [e, List.take_of_length_le (by rw [Bk.c_length]; decide)]
theorem AcM.set26 (a : AcM) (k : Sl) (bs : List Bk) : a.c.set 26 (.slice k.a k.len k.cap) = ({ a with x := ⟨a.x.s, k, bs⟩ } : AcM).c := by
  unfold AcM.c
  rw [List.set_append_right _ _ (by show 4 ≤ 26; omega)]
  show _ ++ (a.x.s.c a.x.k ++ a.b.c).set 22 _ = _
  rw [List.set_append_left _ _ (by rw [Sv.c_length]; decide), Sv.set22]

theorem Bk.ofRs' {cs : List Value} (h : okRs lfB cs) : ∃ b : Bk, cs = b.c ∧ 0 ≤ b.port := by
  obtain ⟨_, us, rfl, ⟨id, rfl, _⟩, h⟩ := h
  obtain ⟨u1, t1, rfl, h1, h2⟩ := okRs_app h
  obtain ⟨a, rfl⟩ := Ad.ofRs h1
  obtain ⟨_, _, rfl, ⟨p, rfl, hp, _⟩, _, _, rfl, ⟨n, rfl, _⟩, _, _, rfl, ⟨d, rfl⟩, rfl⟩ := h2
  exact ⟨⟨id, a, p, n, d⟩, rfl, hp⟩
/-- What is asked of an act that came in. -/
structure AcIn (w : World) (a : AcM) : Prop where
  bk : BR w a.x.k a.x.bs
  cap : a.x.k.len ≤ a.x.k.cap
  port : 0 ≤ a.b.port
theorem AcIn.ext {a : AcM} (h : AcIn w a) (hx : Ext w w') : AcIn w' a := ⟨h.bk.ext hx, h.cap, h.port⟩
set_option maxRecDepth 100000 in
theorem ac_of {fuel : Nat} {vs : List Value} (h : okT Try.prog w fuel Ty.law20_Act vs) : ∃ a : AcM, vs = a.c ∧ AcIn w a := by
  have hu : Try.prog.underlying Ty.law20_Act = some (.struct (fieldsOf Try.prog Ty.law20_Act)) := by kernel_rfl
  have hlen : vs.length = 48 := by
    have := (okT_struct h hu).1
    rwa [show Try.prog.cellsOf Ty.law20_Act = 48 by kernel_rfl] at this
  obtain ⟨_, f0⟩ := okT_field h hu 0 (t := Ty.int) (o := 0) (n := 1) (by kernel_rfl) (by kernel_rfl)
  obtain ⟨_, f1⟩ := okT_field h hu 1 (t := Ty.int) (o := 1) (n := 1) (by kernel_rfl) (by kernel_rfl)
  obtain ⟨_, f2⟩ := okT_field h hu 2 (t := Ty.int) (o := 2) (n := 1) (by kernel_rfl) (by kernel_rfl)
  obtain ⟨_, f3⟩ := okT_field h hu 3 (t := Ty.int) (o := 3) (n := 1) (by kernel_rfl) (by kernel_rfl)
  obtain ⟨_, f4⟩ := okT_field h hu 4 (t := Ty.api_Service) (o := 4) (n := 23) (by kernel_rfl) (by kernel_rfl)
  obtain ⟨_, f5⟩ := okT_field h hu 5 (t := Ty.api_Backend) (o := 27) (n := 21) (by kernel_rfl) (by kernel_rfl)
  obtain ⟨n0, e0, _⟩ := okT_int f0 (k := .i64) (by kernel_rfl)
  obtain ⟨n1, e1, _⟩ := okT_int f1 (k := .i64) (by kernel_rfl)
  obtain ⟨n2, e2, _⟩ := okT_int f2 (k := .i64) (by kernel_rfl)
  obtain ⟨n3, e3, _⟩ := okT_int f3 (k := .i64) (by kernel_rfl)
  obtain ⟨x, e4, hx1, hx2⟩ := sm_of f4
  obtain ⟨b, e5, hb⟩ := Bk.ofRs' (okT_flat 8 (ls := lfB) (by kernel_rfl) (by kernel_rfl) f5)
  refine ⟨⟨n0, n1, n2, n3, x, b⟩, ?_, hx1, hx2, hb⟩
  have h0 := part_next vs 0 1
  have h1 := part_next vs 1 1
  have h2 := part_next vs 2 1
  have h3 := part_next vs 3 1
  have h4 := part_next vs 4 23
  have h5 := part_next vs 27 21
  have h6 : vs.drop 48 = [] := List.drop_of_length_le (by omega)
  rw [e0] at h0; rw [e1] at h1; rw [e2] at h2; rw [e3] at h3; rw [e4] at h4; rw [e5, h6, List.append_nil] at h5
  rw [List.drop_zero] at h0
  rw [h0, h1, h2, h3, h4, h5]
  rfl
def acC (O : List AcM) : List Value := (O.map AcM.c).flatten
theorem acC_length : ∀ O : List AcM, (acC O).length = O.length * 48
  | [] => rfl
  | o :: O => by
    show (o.c ++ acC O).length = _
    rw [List.length_append, acC_length O, AcM.c_length, List.length_cons]; omega
theorem acC_drop : ∀ (X : List AcM) (i : Nat), (acC X).drop (i * 48) = acC (X.drop i)
  | [], i => by simp [acC]
  | x :: X, 0 => by simp
  | x :: X, i + 1 => by
    show (x.c ++ acC X).drop _ = _
    rw [List.drop_append, List.drop_of_length_le (by rw [AcM.c_length]; omega), AcM.c_length, show (i + 1) * 48 - 48 = i * 48 by omega, acC_drop X i]; rfl
/-- Acts that came in. -/
structure AcsIn (w : World) (l : Sl) (O : List AcM) : Prop where
  src : Src 48 w l (acC O)
  each : ∀ a ∈ O, AcIn w a
theorem AcsIn.ext {l : Sl} {O : List AcM} (h : AcsIn w l O) (hx : Ext w w') : AcsIn w' l O := ⟨h.src.ext hx, fun a ha => (h.each a ha).ext hx⟩
set_option maxRecDepth 100000 in
theorem AcsIn.of {v : Value} (h : OkV Try.prog w Ty.Sl_law20_Act v) : ∃ (l : Sl) (O : List AcM), v = .slice l.a l.len l.cap ∧ AcsIn w l O := by
  obtain ⟨t, rfl, ht⟩ := SliceAt.of h (e := Ty.law20_Act) (by kernel_rfl)
  obtain ⟨X, h1, _, h2⟩ := ht.src (c := AcM.c) (sz := 48) (by kernel_rfl) (AcIn w) fun fuel vs hvs => ac_of hvs
  exact ⟨t, X, rfl, h1, h2⟩
theorem AcsIn.len {l : Sl} {O : List AcM} (h : AcsIn w l O) : l.len = O.length := by have := h.src.len; rw [acC_length] at this; omega
theorem AcsIn.get {l : Sl} {O : List AcM} (h : AcsIn w l O) {i : Nat} (hi : i < O.length) : ∃ A, l.a = some A ∧ ((0 : Int) ≤ (i : Int) ∧ (i : Int) < ((l.len : Nat) : Int)) ∧ rdCells w (A.add (Int.toNat (i : Int) * 48)) 0 48 = some (O[i]).c := by
  have hl := h.len
  cases ha : l.a with
  | none =>
    have := congrArg List.length (h.src.nil ha)
    rw [acC_length, List.length_nil] at this
    omega
  | some A =>
    refine ⟨A, rfl, ⟨by omega, by omega⟩, ?_⟩
    rw [Int.toNat_natCast, rdPart (h.src.rd A ha) (by rw [hl]; omega), acC_drop, List.drop_eq_getElem_cons hi]
    congr 1
    show ((O[i]).c ++ acC _).take 48 = _
    exact List.take_left' (AcM.c_length _)

theorem law20_Few {a : AcM} (ha : AcIn w a) : Ret Try.prog F.law20_Few #[.agg a.c.toArray] w (fun v w' => ∃ (k : Sl) (bs : List Bk), v = .agg ({ a with x := ⟨a.x.s, k, bs⟩ } : AcM).c.toArray ∧ Ext w w') := by
  refine W.law20_Few_ok _ w _ ?_
  unfold W.law20_Few
  refine nxVar (vs := a.c) rfl fun w1 hv hx1 hs1 => nxVar (vs := AcM.zero.c) (by kernel_rfl) fun w2 hz hx2 hs2 => ?_
  have hv2 := hv.ext hx2
  have hX2 := Ext.trans hx1 hx2
  have hbk := ha.bk.ext hX2
  have hkl := BR.len hbk
  have hkc := ha.cap
  refine ⟨_, (acell hv2).2.2.2.2, Jn1 (fun (s : Sl) w' => w2 = w' ∧ ∃ bs : List Bk, BR w2 s bs ∧ s.len ≤ 2) (fun q hq => ⟨fun hg => ?_, fun hg => ?_⟩) ?_⟩
  · have hg := of_decide_eq_true hg
    refine ⟨⟨by decide, by omega⟩, hq _ _ ⟨rfl, a.x.bs.take 2, ?_, Nat.le_refl _⟩⟩
    have := Src.cut hbk hkc (lo := 0) (hi := 2) (by omega) (by omega)
    rw [Nat.zero_mul, List.drop_zero, Nat.sub_zero, bksC_take] at this
    exact this
  · have hg := of_decide_eq_false hg
    exact hq _ _ ⟨rfl, a.x.bs, hbk, by omega⟩
  rintro s5 _ ⟨rfl, bs, hs5, hl5⟩
  obtain ⟨k', w10, g1, g2, g3, g4, g5, _⟩ := appBk.clone (oT := Ty.Sl_api_Backend) hs5 (bksC_plain _) (by omega)
  have hv10 := hv2.ext g4
  refine ⟨⟨some ⟨w2.heap.size, 0, none⟩, 0, 0⟩, _, buildBk0 w2, k', w10, g1, ⟨_, (acell hv10).2.2.2.2⟩, by rw [add_mk, add_mk]; exact Blk.frozen hv10 _ rfl, ?_⟩
  rw [add_mk, add_mk]
  refine nxSet hv10 fun w11 hv11 hc11 hs11 => ?_
  have ev : a.c.set (0 + 4 + 22) (.slice k'.a k'.len k'.cap) = ({ a with x := ⟨a.x.s, k', bs⟩ } : AcM).c := a.set26 k' bs
  rw [ev] at hv11
  have hX11 : Ext w w11 := Ext.of_chg (Ext.trans hX2 g4) hc11 (Nat.le_refl _)
  have hz11 := (hz.ext g4).chg hc11 (by omega)
  refine ⟨_, hv11.rd (AcM.c_length _), hz11.storeOk (by simp [AcM.c_length]) (by simpa using AcM.plain _), by simp [AcM.c_length], nxPut hz11 (us := ({ a with x := ⟨a.x.s, k', bs⟩ } : AcM).c) (by simp [AcM.c_length]) (by simp) fun w13 hv13 hc13 _ => ⟨_, hv13.rd (AcM.c_length _), k', bs, rfl, ?_⟩⟩
  exact Ext.of_chg hX11 hc13 (by omega)

end Go.Proofs.Ytldeegpcldhjaaa
