/- The law's helpers: services that come in, Few, the references' Same, At, Has; lives. -/
import Derived.Test.YtldeegpcldhjaaaConfL
import Derived.Test.YtldeegpcldhjaaaGv
namespace Go.Proofs.Ytldeegpcldhjaaa
open Go Gx

variable {w w' : World} {fm : Fm} {R : List Rec} {r : Rec}

/-! ### What comes in -/
theorem Ad.ofRs {cs : List Value} (h : okRs (.bool :: bytesL 16) cs) : ∃ a : Ad, cs = a.c := by
  obtain ⟨_, us, rfl, ⟨b, rfl⟩, h2⟩ := h
  obtain ⟨l, hl, rfl⟩ := okRs_bytes h2
  exact ⟨⟨b, l, hl⟩, rfl⟩
def lfB : List Lf := .int .i64 :: ((.bool :: bytesL 16) ++ [.int .u16, .int .i64, .bool])
theorem Bk.ofRs {cs : List Value} (h : okRs lfB cs) : ∃ b : Bk, cs = b.c := by
  obtain ⟨_, us, rfl, ⟨id, rfl, _⟩, h⟩ := h
  obtain ⟨u1, t1, rfl, h1, h2⟩ := okRs_app h
  obtain ⟨a, rfl⟩ := Ad.ofRs h1
  obtain ⟨_, _, rfl, ⟨p, rfl, _⟩, _, _, rfl, ⟨n, rfl, _⟩, _, _, rfl, ⟨d, rfl⟩, rfl⟩ := h2
  exact ⟨⟨id, a, p, n, d⟩, rfl⟩
theorem part_next (cs : List Value) (a n : Nat) : cs.drop a = (cs.drop a).take n ++ cs.drop (a + n) := by
  rw [← List.drop_drop, List.take_append_drop]
set_option maxRecDepth 100000 in
/-- A service that came in. -/
theorem sm_of {fuel : Nat} {vs : List Value} (h : okT Try.prog w fuel Ty.api_Service vs) : ∃ x : SM, vs = x.s.c x.k ∧ BR w x.k x.bs ∧ x.k.len ≤ x.k.cap := by
  have hu : Try.prog.underlying Ty.api_Service = some (.struct (fieldsOf Try.prog Ty.api_Service)) := by kernel_rfl
  have hlen : vs.length = 23 := by
    have := (okT_struct h hu).1
    rwa [show Try.prog.cellsOf Ty.api_Service = 23 by kernel_rfl] at this
  obtain ⟨_, f0⟩ := okT_field h hu 0 (t := Ty.int) (o := 0) (n := 1) (by kernel_rfl) (by kernel_rfl)
  obtain ⟨_, f1⟩ := okT_field h hu 1 (t := Ty.api_Addr) (o := 1) (n := 17) (by kernel_rfl) (by kernel_rfl)
  obtain ⟨_, f2⟩ := okT_field h hu 2 (t := Ty.uint16) (o := 18) (n := 1) (by kernel_rfl) (by kernel_rfl)
  obtain ⟨_, f3⟩ := okT_field h hu 3 (t := Ty.uint8) (o := 19) (n := 1) (by kernel_rfl) (by kernel_rfl)
  obtain ⟨_, f4⟩ := okT_field h hu 4 (t := Ty.int) (o := 20) (n := 1) (by kernel_rfl) (by kernel_rfl)
  obtain ⟨_, f5⟩ := okT_field h hu 5 (t := Ty.uint64) (o := 21) (n := 1) (by kernel_rfl) (by kernel_rfl)
  obtain ⟨_, f6⟩ := okT_field h hu 6 (t := Ty.Sl_api_Backend) (o := 22) (n := 1) (by kernel_rfl) (by kernel_rfl)
  obtain ⟨n0, e0, _⟩ := okT_int f0 (k := .i64) (by kernel_rfl)
  obtain ⟨a, e1⟩ := Ad.ofRs (okT_flat 8 (ls := .bool :: bytesL 16) (by kernel_rfl) (by kernel_rfl) f1)
  obtain ⟨n2, e2, _⟩ := okT_int f2 (k := .u16) (by kernel_rfl)
  obtain ⟨n3, e3, _⟩ := okT_int f3 (k := .u8) (by kernel_rfl)
  obtain ⟨n4, e4, _⟩ := okT_int f4 (k := .i64) (by kernel_rfl)
  obtain ⟨n5, e5, _⟩ := okT_int f5 (k := .u64) (by kernel_rfl)
  obtain ⟨k, e6, hk⟩ := okT_slice f6 (e := Ty.api_Backend) (by kernel_rfl)
  obtain ⟨bs, hbs, _, _⟩ := hk.src (c := Bk.c) (sz := 21) (by kernel_rfl) (fun _ => True) fun fuel us hus => by
    obtain ⟨b, hb⟩ := Bk.ofRs (okT_flat 8 (ls := lfB) (by kernel_rfl) (by kernel_rfl) hus)
    exact ⟨b, hb, trivial⟩
  refine ⟨⟨⟨n0, a, n2, n3, n4, n5⟩, k, bs⟩, ?_, hbs, hk.le⟩
  have h0 := part_next vs 0 1
  have h1 := part_next vs 1 17
  have h2 := part_next vs 18 1
  have h3 := part_next vs 19 1
  have h4 := part_next vs 20 1
  have h5 := part_next vs 21 1
  have h6 := part_next vs 22 1
  have h7 : vs.drop 23 = [] := List.drop_of_length_le (by omega)
  rw [e0] at h0; rw [e1] at h1; rw [e2] at h2; rw [e3] at h3; rw [e4] at h4; rw [e5] at h5; rw [e6, h7] at h6
  rw [List.drop_zero] at h0
  rw [h0, h1, h2, h3, h4, h5, h6]
  rfl
/-- Services that came in. -/
structure SvIn (w : World) (t : Sl) (X : List SM) : Prop where
  src : Src 23 w t (smC X)
  bk : ∀ x ∈ X, BR w x.k x.bs ∧ x.k.len ≤ x.k.cap
set_option maxRecDepth 100000 in
theorem SvIn.of {v : Value} (h : OkV Try.prog w Ty.Sl_api_Service v) : ∃ (t : Sl) (X : List SM), v = .slice t.a t.len t.cap ∧ SvIn w t X := by
  obtain ⟨t, rfl, ht⟩ := SliceAt.of h (e := Ty.api_Service) (by kernel_rfl)
  obtain ⟨X, h1, _, h2⟩ := ht.src (c := fun x : SM => x.s.c x.k) (sz := 23) (by kernel_rfl) (fun x => BR w x.k x.bs ∧ x.k.len ≤ x.k.cap) fun fuel vs hvs => sm_of hvs
  exact ⟨t, X, rfl, h1, h2⟩
theorem SvIn.ext {t : Sl} {X : List SM} (h : SvIn w t X) (hx : Ext w w') : SvIn w' t X := ⟨h.src.ext hx, fun x hx2 => ⟨(h.bk x hx2).1.ext hx, (h.bk x hx2).2⟩⟩
theorem OwnSv.in {t : Sl} {X : List SM} (h : OwnSv w t X) : SvIn w t X := ⟨h.o.src, fun x hx => ⟨(h.k x hx).src, (h.k x hx).2.1⟩⟩
theorem SvIn.get {t : Sl} {X : List SM} (h : SvIn w t X) {i : Nat} (hi : i < X.length) : ∃ A, t.a = some A ∧ ((0 : Int) ≤ (i : Int) ∧ (i : Int) < ((t.len : Nat) : Int)) ∧ rdCells w (A.add (Int.toNat (i : Int) * 23)) 0 23 = some ((X[i]).s.c (X[i]).k) := by
  have hl : t.len = X.length := by have := h.src.len; rw [smC_length] at this; omega
  cases ha : t.a with
  | none =>
    have := congrArg List.length (h.src.nil ha)
    rw [smC_length, List.length_nil] at this
    omega
  | some A =>
    refine ⟨A, rfl, ⟨by omega, by omega⟩, ?_⟩
    rw [Int.toNat_natCast, rdPart (h.src.rd A ha) (by rw [hl]; omega), smC_drop, List.drop_eq_getElem_cons hi, smC_cons]
    congr 1
    exact List.take_left' (Sv.c_length _ _)

/-! ### Few -/
def cutSB (x : SB) : SB := (x.1, x.2.take 18)
def fewL (A : List SB) : List SB := (A.take 10).map cutSB
theorem fewL_idem (A : List SB) : fewL (fewL A) = fewL A := by
  unfold fewL
  rw [List.take_of_length_le (by simp; omega), List.map_map]
  refine List.map_congr_left fun x _ => ?_
  show (x.1, (x.2.take 18).take 18) = (x.1, x.2.take 18)
  rw [List.take_take, Nat.min_self]
theorem buildSv0 (w : World) : Sem.run Try.prog (Instr.buildSlice Ty.Sl_api_Service 0 #[]) w = .ok (.slice (some ⟨w.heap.size, 0, none⟩) 0 0) (w.alloc (.cells #[] Ty.api_Service)) := by kernel_rfl
theorem buildBk0 (w : World) : Sem.run Try.prog (Instr.buildSlice Ty.Sl_api_Backend 0 #[]) w = .ok (.slice (some ⟨w.heap.size, 0, none⟩) 0 0) (w.alloc (.cells #[] Ty.api_Backend)) := by kernel_rfl

theorem law39_Few {t : Sl} {X : List SM} (hl : SvIn w t X) : Ret Try.prog F.law39_Few #[.slice t.a t.len t.cap] w
    (fun v w' => ∃ (u : Sl) (Y : List SM), v = .slice u.a u.len u.cap ∧ Y.map SM.ab = fewL (X.map SM.ab) ∧ OwnSv w' u Y ∧ Ext w w' ∧ ∀ q, svB u Y q → w.heap.size ≤ q) := by
  refine W.law39_Few_ok t w _ ?_
  unfold W.law39_Few
  have hlen : t.len = X.length := by have := hl.src.len; rw [smC_length] at this; omega
  have hx0 : Ext w (w.alloc (.cells #[] Ty.api_Service)) := Chg.alloc (.refl _ _) _
  have ho0 : OwnSv (w.alloc (.cells #[] Ty.api_Service)) ⟨some ⟨w.heap.size, 0, none⟩, 0, 0⟩ [] := ⟨OwnS.new w [] 0 rfl (by decide), by simp⟩
  refine ⟨⟨some ⟨w.heap.size, 0, none⟩, 0, 0⟩, _, buildSv0 w, fun s n w' => ∃ (i : Nat) (Y : List SM), n = i ∧ i ≤ X.length ∧ i ≤ 10 ∧ Y.map SM.ab = ((X.map SM.ab).take i).map cutSB ∧ OwnSv w' s Y ∧ Ext w w' ∧ ∀ q, svB s Y q → w.heap.size ≤ q, fun _ n _ => (10 - n).toNat,
    ⟨0, [], rfl, Nat.zero_le _, Nat.zero_le _, by simp, ho0, hx0, fun q hq => hq.elim (fun ⟨A, hA, e⟩ => by cases hA; subst e; exact Nat.le_refl _) fun ⟨x, hx, _⟩ => by cases hx⟩, ?_⟩
  rintro s _ w7 ⟨i, Y, rfl, hi, hi10, hY, ho, hx7, hf⟩
  refine ⟨fun hlt => ?_, fun hge => ?_⟩
  · simp only [Bool.and_eq_true, decide_eq_true_eq] at hlt
    have hlt1 : i < X.length := by omega
    have hYl : Y.length = i := by have := congrArg List.length hY; rw [List.length_map, List.length_map, List.length_take, List.length_map] at this; omega
    obtain ⟨x, hxe⟩ : ∃ x, x = X[i] := ⟨_, rfl⟩
    have hxm : x ∈ X := by rw [hxe]; exact List.getElem_mem _
    obtain ⟨A, hA, hbd, hrd⟩ := (hl.ext hx7).get hlt1
    rw [← hxe] at hrd
    refine ⟨A, hA, hbd, _, hrd, nxVar (vs := Sv.zero.c nilS) (by kernel_rfl) fun w10 hz10 hx10 hs10 => ⟨hz10.storeOk (by simp [Sv.c_length]) (Sv.plain _ _), by simp [Sv.c_length], nxPut hz10 (us := x.s.c x.k) (by simp [Sv.c_length]) rfl fun w11 hv11 hc11 hs11 => ?_⟩⟩
    have hx11 : Ext w7 w11 := Ext.of_chg hx10 hc11 (Nat.le_refl _)
    have hbk := (hl.bk x hxm).1
    have hkc := (hl.bk x hxm).2
    have hkl := BR.len hbk
    refine Jn0 (fun w' => ∃ k : Sl, Var w' w7.heap.size (x.s.c k) Ty.api_Service ∧ Ext w7 w' ∧ Src 21 w' k (bksC (x.bs.take 18)) ∧ k.len ≤ 18) (fun q hq => ⟨x.k, (scell hv11).2.2.2.2.2.2, fun hg => ?_, fun hg => ?_⟩) ?_
    · have hg := of_decide_eq_true hg
      refine ⟨x.k, (scell hv11).2.2.2.2.2.2, ⟨by decide, by omega⟩, ⟨_, (scell hv11).2.2.2.2.2.2⟩, by rw [add_mk]; exact Blk.frozen hv11 _ rfl, ?_⟩
      rw [add_mk]
      refine nxSet hv11 fun w15 hv15 hc15 hs15 => hq _ ⟨⟨x.k.a, 18, x.k.cap⟩, ?_, Ext.of_chg hx11 hc15 (Nat.le_refl _), ?_, Nat.le_refl _⟩
      · have ev : (x.s.c x.k).set (0 + 22) (.slice (cutA x.k.a 21 0 x.k.cap) (Int.toNat 18 - 0) (x.k.cap - 0)) = x.s.c ⟨x.k.a, 18, x.k.cap⟩ := by rw [cut0']; exact x.s.set22 x.k ⟨x.k.a, 18, x.k.cap⟩
        rw [ev] at hv15; exact hv15
      · have h15 := hbk.ext (Ext.trans hx7 (Ext.of_chg hx11 hc15 (Nat.le_refl _)))
        refine ⟨by rw [bksC_length, List.length_take, Nat.min_eq_left (by omega)], fun hn => ?_, fun a ha => ?_⟩
        · have := h15.nil hn
          have h0 := congrArg List.length this
          rw [bksC_length, List.length_nil] at h0
          omega
        · have := rdPart (k := 0) (m := 18 * 21) (h15.rd a ha) (by show 0 + 18 * 21 ≤ x.k.len * 21; omega)
          rw [add_zero', List.drop_zero, bksC_take] at this
          exact this
    · have hg := of_decide_eq_false hg
      refine hq _ ⟨x.k, hv11, hx11, ?_, by omega⟩
      rw [List.take_of_length_le (by omega)]
      exact hbk.ext (Ext.trans hx7 hx11)
    rintro w16 ⟨k, hv16, hx16, hk16, hk18⟩
    have hxa : Ext w16 (w16.alloc (.cells #[] Ty.api_Backend)) := Chg.alloc (.refl _ _) _
    obtain ⟨k', w21, g1, g2, g3, g4, g5, _⟩ := appBk.clone (oT := Ty.Sl_api_Backend) hk16 (bksC_plain _) (by omega)
    have hv21 := hv16.ext g4
    refine ⟨⟨some ⟨w16.heap.size, 0, none⟩, 0, 0⟩, _, buildBk0 w16, k, (scell (hv16.ext hxa)).2.2.2.2.2.2, k', w21, g1, ⟨_, (scell hv21).2.2.2.2.2.2⟩, by rw [add_mk]; exact Blk.frozen hv21 _ rfl, ?_⟩
    rw [add_mk]
    refine nxSet hv21 fun w22 hv22 hc22 hs22 => ?_
    have ev : (x.s.c k).set (0 + 22) (.slice k'.a k'.len k'.cap) = x.s.c k' := x.s.set22 k k'
    rw [ev] at hv22
    have hX21 := Ext.trans hx16 g4
    have hx22 : Ext w7 w22 := Ext.of_chg hX21 hc22 (Nat.le_refl _)
    have hk22 : OwnS 21 Ty.api_Backend w22 k' (bksC (x.bs.take 18)) := g2.chg hc22 fun q hq e => by subst e; have := g5 _ hq; have := hv16.lt; omega
    have ho22 := ho.ext hx22
    obtain ⟨t', w27, j1, j2, j3, j4⟩ := ho22.push (oT := Ty.Sl_api_Service) ⟨x.s, k', x.bs.take 18⟩ hk22 (by omega)
    have ew : IntKind.wrap .i64 ((i : Int) + 1) = ((i + 1 : Nat) : Int) := by rw [wrapi (by omega) (by omega)]; rfl
    have hms : ((10 : Int) - ((i + 1 : Nat) : Int)).toNat < ((10 : Int) - (i : Int)).toNat := by omega
    refine ⟨_, hv22.rd (Sv.c_length _ _), ⟨some ⟨w22.heap.size, 0, none⟩, 1, 1⟩, _, buildSv x.s k' w22, t', w27, j1, ?_⟩
    rw [ew]
    refine ⟨⟨i + 1, Y ++ [⟨x.s, k', x.bs.take 18⟩], rfl, hlt1, by omega, ?_, j2, Ext.of_new (Ext.trans hx7 hx22) j3 (fun q hq => hf q (.inl hq)), fun q hq => ?_⟩, hms⟩
    · have hlm : i < (X.map SM.ab).length := by rw [List.length_map]; exact hlt1
      have hg : (X.map SM.ab)[i] = x.ab := by rw [List.getElem_map, hxe]
      rw [List.map_append, hY, List.take_succ_eq_append_getElem hlm, List.map_append, hg]
      rfl
    · rcases j4 q hq with h1 | h1 | h1
      · exact hf q h1
      · have := g5 q h1; have := (Ext.trans hx7 hx16).size; omega
      · have := (Ext.trans hx7 hx22).size; omega
  · refine ⟨s, Y, rfl, ?_, ho, hx7, hf⟩
    rw [hY]
    unfold fewL
    simp only [Bool.and_eq_false_iff, decide_eq_false_iff_not] at hge
    rcases hge with h1 | h1
    · have : i = X.length := by omega
      subst this
      rw [List.take_of_length_le (by simp), List.take_of_length_le (by simp; omega)]
    · have : i = 10 := by omega
      subst this; rfl

end Go.Proofs.Ytldeegpcldhjaaa
