/- Contracts of the functions that the statement reaches, and the plain laws over them; each theorem stands with its conditions. -/
import Derived.Lib.AppendStr
import Derived.Shelf.Vars
import Derived.SizedLaws
import Derived.Test.YtgljoledlhmhnaaGreatDoorBPrints2
namespace Go.Proofs.YtgljoledlhmhnaaGreatDoor
open Go Gx
variable {w w' : World}

/-- A step that came in. -/
structure OpIn (w : World) (o : OpM) (a : Stp) (bs : List Bk) : Prop where
  is : OpIs w o a
  dcap : o.data.len ≤ o.data.cap
  lcap : o.l.len ≤ o.l.cap
  bk : BR w o.k bs
  kcap : o.k.len ≤ o.k.cap
  vd : Vd a
theorem OpIn.ext {o : OpM} {a : Stp} {bs : List Bk} (h : OpIn w o a bs) (hx : Ext w w') : OpIn w' o a bs := ⟨h.is.ext hx, h.dcap, h.lcap, h.bk.ext hx, h.kcap, h.vd⟩
theorem okRs_u8 {cs : List Value} (h : ∃ n : Int, cs = [Value.int .u8 n] ∧ IntKind.u8.min ≤ n ∧ n ≤ IntKind.u8.max) : ∃ c : UInt8, cs = [Value.int .u8 ((c.toNat : Nat) : Int)] := by
  obtain ⟨n, rfl, h1, h2⟩ := h
  have := u8_range h1 h2
  refine ⟨UInt8.ofNat n.toNat, ?_⟩
  rw [ofNat_val (by omega)]
  congr 2; omega
theorem flat1 {α : Type} (f : α → Value) (l : List α) : (l.map fun x => [f x]).flatten = l.map f := by
  induction l with
  | nil => rfl
  | cons x l ih => simp [ih]
theorem u64_range {n : Int} (h0 : IntKind.u64.min ≤ n) (h1 : n ≤ IntKind.u64.max) : 0 ≤ n ∧ n ≤ 18446744073709551615 := by
  simpa [IntKind.min, IntKind.max, IntKind.signed, IntKind.bits] using And.intro h0 h1
theorem u16_range {n : Int} (h0 : IntKind.u16.min ≤ n) (h1 : n ≤ IntKind.u16.max) : 0 ≤ n ∧ n ≤ 65535 := by
  simpa [IntKind.min, IntKind.max, IntKind.signed, IntKind.bits] using And.intro h0 h1
theorem Bk.ofRs' {cs : List Value} (h : okRs lfB cs) : ∃ b : Bk, cs = b.c ∧ I64 b.id ∧ (0 ≤ b.port ∧ b.port ≤ 65535) ∧ I64 b.weight := by
  obtain ⟨_, us, rfl, ⟨id, rfl, q1, q2⟩, h⟩ := h
  obtain ⟨u1, t1, rfl, h1, h2⟩ := okRs_app h
  obtain ⟨a, rfl⟩ := Ad.ofRs h1
  obtain ⟨_, _, rfl, ⟨p, rfl, q3, q4⟩, _, _, rfl, ⟨n, rfl, q5, q6⟩, _, _, rfl, ⟨d, rfl⟩, rfl⟩ := h2
  exact ⟨⟨id, a, p, n, d⟩, rfl, i64_range q1 q2, u16_range q3 q4, i64_range q5 q6⟩
set_option maxRecDepth 100000 in
theorem sm_of' {fuel : Nat} {vs : List Value} (h : okT Tryz.prog w fuel Ty.api_Service vs) : ∃ (s : Sv) (k : Sl) (bs : List Bk), vs = s.c k ∧ BR w k bs ∧ k.len ≤ k.cap ∧ I64 s.id ∧ (0 ≤ s.port ∧ s.port ≤ 65535) ∧ (0 ≤ s.proto ∧ s.proto ≤ 255) ∧ I64 s.bits ∧ (0 ≤ s.lasts ∧ s.lasts ≤ 18446744073709551615) := by
  have hu : Tryz.prog.underlying Ty.api_Service = some (.struct (fieldsOf Tryz.prog Ty.api_Service)) := by kernel_rfl
  have hlen : vs.length = 23 := by
    have := (okT_struct h hu).1
    rwa [show Tryz.prog.cellsOf Ty.api_Service = 23 by kernel_rfl] at this
  obtain ⟨_, f0⟩ := okT_field h hu 0 (t := Ty.int) (o := 0) (n := 1) (by kernel_rfl) (by kernel_rfl)
  obtain ⟨_, f1⟩ := okT_field h hu 1 (t := Ty.api_Addr) (o := 1) (n := 17) (by kernel_rfl) (by kernel_rfl)
  obtain ⟨_, f2⟩ := okT_field h hu 2 (t := Ty.uint16) (o := 18) (n := 1) (by kernel_rfl) (by kernel_rfl)
  obtain ⟨_, f3⟩ := okT_field h hu 3 (t := Ty.uint8) (o := 19) (n := 1) (by kernel_rfl) (by kernel_rfl)
  obtain ⟨_, f4⟩ := okT_field h hu 4 (t := Ty.int) (o := 20) (n := 1) (by kernel_rfl) (by kernel_rfl)
  obtain ⟨_, f5⟩ := okT_field h hu 5 (t := Ty.uint64) (o := 21) (n := 1) (by kernel_rfl) (by kernel_rfl)
  obtain ⟨_, f6⟩ := okT_field h hu 6 (t := Ty.Sl_api_Backend) (o := 22) (n := 1) (by kernel_rfl) (by kernel_rfl)
  obtain ⟨n0, e0, q0, r0⟩ := okT_int f0 (k := .i64) (by kernel_rfl)
  obtain ⟨a, e1⟩ := Ad.ofRs (okT_flat 8 (ls := .bool :: bytesL 16) (by kernel_rfl) (by kernel_rfl) f1)
  obtain ⟨n2, e2, q2, r2⟩ := okT_int f2 (k := .u16) (by kernel_rfl)
  obtain ⟨n3, e3, q3, r3⟩ := okT_int f3 (k := .u8) (by kernel_rfl)
  obtain ⟨n4, e4, q4, r4⟩ := okT_int f4 (k := .i64) (by kernel_rfl)
  obtain ⟨n5, e5, q5, r5⟩ := okT_int f5 (k := .u64) (by kernel_rfl)
  obtain ⟨k, e6, hk⟩ := okT_slice f6 (e := Ty.api_Backend) (by kernel_rfl)
  obtain ⟨bs, hbs, _, _⟩ := hk.src (c := Bk.c) (sz := 21) (by kernel_rfl) (fun _ => True) fun fuel us hus => by
    obtain ⟨b, hb⟩ := Bk.ofRs (okT_flat 8 (ls := lfB) (by kernel_rfl) (by kernel_rfl) hus)
    exact ⟨b, hb, trivial⟩
  refine ⟨⟨n0, a, n2, n3, n4, n5⟩, k, bs, ?_, hbs, hk.le, i64_range q0 r0, u16_range q2 r2, u8_range q3 r3, i64_range q4 r4, u64_range q5 r5⟩
  have h0 := part_next vs 0 1
  have h1 := part_next vs 1 17
  have h2 := part_next vs 18 1
  have h3 := part_next vs 19 1
  have h4 := part_next vs 20 1
  have h5 := part_next vs 21 1
  have h6 := part_next vs 22 1
  have h7 : vs.drop 23 = [] := List.drop_of_length_le (by omega)
  rw [e0] at h0; rw [e1] at h1; rw [e2] at h2; rw [e3] at h3; rw [e4] at h4; rw [e5] at h5; rw [e6, h7] at h6
  rw [List.drop_zero] at h0
  rw [h0, h1, h2, h3, h4, h5, h6]
  rfl
set_option maxRecDepth 100000 in
/-- A step that came in, out of its cells. -/
theorem op_of {fuel : Nat} {vs : List Value} (h : okT Tryz.prog w fuel Ty.api_Op vs) : ∃ (o : OpM) (a : Stp) (bs : List Bk), vs = o.c ∧ OpIn w o a bs := by
  have hu : Tryz.prog.underlying Ty.api_Op = some (.struct (fieldsOf Tryz.prog Ty.api_Op)) := by kernel_rfl
  have hlen : vs.length = 51 := by
    have := (okT_struct h hu).1
    rwa [show Tryz.prog.cellsOf Ty.api_Op = 51 by kernel_rfl] at this
  obtain ⟨_, f0⟩ := okT_field h hu 0 (t := Ty.int) (o := 0) (n := 1) (by kernel_rfl) (by kernel_rfl)
  obtain ⟨_, f1⟩ := okT_field h hu 1 (t := Ty.Sl_uint8) (o := 1) (n := 1) (by kernel_rfl) (by kernel_rfl)
  obtain ⟨_, f2⟩ := okT_field h hu 2 (t := Ty.int) (o := 2) (n := 1) (by kernel_rfl) (by kernel_rfl)
  obtain ⟨_, f3⟩ := okT_field h hu 3 (t := Ty.int) (o := 3) (n := 1) (by kernel_rfl) (by kernel_rfl)
  obtain ⟨_, f4⟩ := okT_field h hu 4 (t := Ty.uint64) (o := 4) (n := 1) (by kernel_rfl) (by kernel_rfl)
  obtain ⟨_, f5⟩ := okT_field h hu 5 (t := Ty.bool) (o := 5) (n := 1) (by kernel_rfl) (by kernel_rfl)
  obtain ⟨_, f6⟩ := okT_field h hu 6 (t := Ty.api_Service) (o := 6) (n := 23) (by kernel_rfl) (by kernel_rfl)
  obtain ⟨_, f7⟩ := okT_field h hu 7 (t := Ty.api_Backend) (o := 29) (n := 21) (by kernel_rfl) (by kernel_rfl)
  obtain ⟨_, f8⟩ := okT_field h hu 8 (t := Ty.Sl_int) (o := 50) (n := 1) (by kernel_rfl) (by kernel_rfl)
  obtain ⟨n0, e0, _⟩ := okT_int f0 (k := .i64) (by kernel_rfl)
  obtain ⟨d, e1, hd⟩ := okT_slice f1 (e := Ty.uint8) (by kernel_rfl)
  obtain ⟨n2, e2, q2, r2⟩ := okT_int f2 (k := .i64) (by kernel_rfl)
  obtain ⟨n3, e3, q3, r3⟩ := okT_int f3 (k := .i64) (by kernel_rfl)
  obtain ⟨n4, e4, q4, r4⟩ := okT_int f4 (k := .u64) (by kernel_rfl)
  obtain ⟨b5, e5⟩ := okT_bool f5 (by kernel_rfl)
  obtain ⟨s, k, bs, e6, hbs, hkc, v1, v2, v3, v4, v5⟩ := sm_of' f6
  obtain ⟨t, e7, v6, v7, v8⟩ := Bk.ofRs' (okT_flat 8 (ls := lfB) (by kernel_rfl) (by kernel_rfl) f7)
  obtain ⟨l, e8, hl⟩ := okT_slice f8 (e := Ty.int) (by kernel_rfl)
  obtain ⟨dl, hdl, _, _⟩ := hd.src (c := fun c : UInt8 => [Value.int .u8 ((c.toNat : Nat) : Int)]) (sz := 1) (by kernel_rfl) (fun _ => True) fun fuel us hus => by
    obtain ⟨c, hc⟩ := okRs_u8 (okT_int hus (k := .u8) (by kernel_rfl))
    exact ⟨c, hc, trivial⟩
  obtain ⟨ll, hll, _, hlr⟩ := hl.src (c := fun n : Int => [Value.int .i64 n]) (sz := 1) (by kernel_rfl) (fun n => I64 n) fun fuel us hus => by
    obtain ⟨n, hn, q, r⟩ := okT_int hus (k := .i64) (by kernel_rfl)
    exact ⟨n, hn, i64_range q r⟩
  have hdl' : Src 1 w d (u8s dl) := by
    rw [flat1] at hdl; exact hdl
  have hll' : Src 1 w l (ll.map encI) := by
    rw [flat1] at hll; exact hll
  refine ⟨⟨n0, d, n2, n3, n4, b5, s, k, t, l⟩, ⟨n0, dl, n2, n3, n4, b5, s, k.len, t, ll⟩, bs, ?_, ⟨⟨rfl, hdl', rfl, rfl, rfl, rfl, rfl, rfl, rfl, hll'⟩, hd.le, hl.le, hbs, hkc, ⟨i64_range q2 r2, i64_range q3 r3, u64_range q4 r4, v1, v2, v3, v4, v5, v6, v7, v8, hlr⟩⟩⟩
  have h0 := part_next vs 0 1
  have h1 := part_next vs 1 1
  have h2 := part_next vs 2 1
  have h3 := part_next vs 3 1
  have h4 := part_next vs 4 1
  have h5 := part_next vs 5 1
  have h6 := part_next vs 6 23
  have h7 := part_next vs 29 21
  have h8 := part_next vs 50 1
  have h9 : vs.drop 51 = [] := List.drop_of_length_le (by omega)
  rw [e0] at h0; rw [e1] at h1; rw [e2] at h2; rw [e3] at h3; rw [e4] at h4; rw [e5] at h5; rw [e6] at h6; rw [e7] at h7; rw [e8, h9] at h8
  rw [List.drop_zero] at h0
  rw [h0, h1, h2, h3, h4, h5, h6, h7, h8]
  rfl

def fewS (a : Stp) : Stp := { a with data := a.data.take 2300, li := a.li.take 60, nb := min a.nb 2 }
theorem op_k (o : OpM) (k : Sl) : o.c.set 28 (.slice k.a k.len k.cap) = ({ o with k := k } : OpM).c := by
  have e1 : ∀ o : OpM, o.c = (hd6 o ++ (Value.int .i64 o.s.id :: (o.s.addr.c ++ [Value.int .u16 o.s.port, Value.int .u8 o.s.proto, Value.int .i64 o.s.bits, Value.int .u64 o.s.lasts]))) ++ (Value.slice o.k.a o.k.len o.k.cap :: (o.to.c ++ [Value.slice o.l.a o.l.len o.l.cap])) := fun o => by rw [op_c]; unfold Sv.c; simp
  have hl : (hd6 o ++ (Value.int .i64 o.s.id :: (o.s.addr.c ++ [Value.int .u16 o.s.port, Value.int .u8 o.s.proto, Value.int .i64 o.s.bits, Value.int .u64 o.s.lasts]))).length = 28 := by simp [Ad.c_length, hd6]
  rw [e1 o, e1, List.set_append_right (h := by rw [hl]; exact Nat.le_refl _), hl]
  rfl
theorem src_take {sz : Nat} {s : Sl} {vs : List Value} {n : Nat} (h : Src sz w s vs) (hn : n ≤ s.len) (hl : vs.length = s.len * sz) : Src sz w ⟨s.a, n, s.cap⟩ (vs.take (n * sz)) := by
  have hm : n * sz ≤ s.len * sz := Nat.mul_le_mul_right _ hn
  refine ⟨by rw [List.length_take, hl, Nat.min_eq_left hm], fun hnil => ?_, fun a ha => ?_⟩
  · rw [h.nil hnil, List.take_nil]
  · have := rdPart (k := 0) (m := n * sz) (h.rd a ha) (by omega)
    rw [add_zero', List.drop_zero] at this
    exact this
theorem fewB {s : Sl} {l : List UInt8} (hs : Src 1 w s (u8s l)) (hc : s.len ≤ s.cap) (most : Nat) (hm : most ≤ 100000) : Ret Tryz.prog F.law01_Few #[.slice s.a s.len s.cap, .int .i64 most] w (fun v w' => ∃ s' : Sl, v = .slice s'.a s'.len s'.cap ∧ OwnS 1 Ty.uint8 w' s' (u8s (l.take most)) ∧ Ext w w' ∧ ∀ q, ownB s' q → w.heap.size ≤ q) := by
  refine W.law01_Few_ok s most w _ ?_
  unfold W.law01_Few
  have hlen : s.len = l.length := by have := hs.len; rw [u8s_length] at this; omega
  refine Jn1 (fun s2 w' => w = w' ∧ Src 1 w s2 (u8s (l.take most)) ∧ s2.len ≤ most) (fun q hq => ⟨fun h => ?_, fun h => ?_⟩) ?_
  · have h : most < l.length := by have := of_decide_eq_true h; omega
    refine ⟨⟨by omega, by omega⟩, hq _ _ ⟨rfl, ?_, by simp⟩⟩
    have := src_take (n := most) hs (by omega) (by rw [u8s_length]; omega)
    rw [cut0']
    have e : (u8s l).take (most * 1) = u8s (l.take most) := by rw [Nat.mul_one]; simp [u8s]
    rw [e] at this
    exact this
  · have h : l.length ≤ most := by have := of_decide_eq_false h; omega
    rw [List.take_of_length_le h] at hq
    exact hq _ _ ⟨rfl, hs, by omega⟩
  rintro s2 _ ⟨rfl, h2, h3⟩
  obtain ⟨k', w21, g1, g2, g3, g4, g5, _⟩ := appU8s.clone (oT := Ty.Sl_uint8) h2 (u8s_plain _) (by omega)
  exact nx ⟨k', w21, g1, k', rfl, g2, g4, g5⟩

theorem law29_Few {o : OpM} {a : Stp} {bs : List Bk} (h : OpIn w o a bs) : Ret Tryz.prog F.law29_Few #[.agg o.c.toArray] w (fun v w' => ∃ (p : OpM) (bs' : List Bk), v = .agg p.c.toArray ∧ OpIn w' p (fewS a) bs' ∧ Ext w w' ∧ Fr w.heap.size p ∧ ∀ q, ownB p.k q → w.heap.size ≤ q) := by
  refine W.law29_Few_ok _ w _ ?_
  unfold W.law29_Few
  have hdl : o.data.len = a.data.length := by have := h.is.data.len; rw [u8s_length] at this; omega
  have hll := h.is.llen
  have hnb := h.is.nb
  have hkl := BR.len h.bk
  refine nxVar (vs := o.c) rfl fun w1 ho hx1 hs1 => nxVar (vs := opZ.c) (by kernel_rfl) fun w2 hz hx2 hs2 => ?_
  have hX2 := Ext.trans hx1 hx2
  refine ⟨o.data, (ocell2 (ho.ext hx2)).1, (fewB (h.is.data.ext hX2) h.dcap 2300 (by omega)).use ?_⟩
  rintro _ w4 ⟨s6, rfl, ho6, hx4, hf6⟩
  have ho4 := (ho.ext hx2).ext hx4
  have hX4 := Ext.trans hX2 hx4
  have hb2 : w.heap.size < w2.heap.size := (ho.ext hx2).lt
  refine ⟨s6, rfl, vset (o' := { o with data := s6 }) ho4 1 _ (addF _ _) (by omega) rfl fun w7 ho7 hc7 => ?_⟩
  have hX7 : Ext w w7 := Ext.of_chg hX4 hc7 (Nat.le_refl _)
  have hs7 := (ho6.chg hc7 (fun q hq e => by have := hf6 q hq; omega))
  refine Jn0 (fun w' => ∃ l : Sl, Var w' w.heap.size ({ o with data := s6, l := l } : OpM).c Ty.api_Op ∧ Chg (fun q => q = w.heap.size) w7 w' ∧ Src 1 w l ((a.li.take 60).map encI) ∧ l.len ≤ 60) (fun q hq => ⟨o.l, (ocell2 ho7).2.2, fun hg => ?_, fun hg => ?_⟩) ?_
  · have hg := of_decide_eq_true hg
    refine ⟨o.l, (ocell2 ho7).2.2, ⟨by decide, by have := h.lcap; omega⟩, vset (o' := { o with data := s6, l := ⟨o.l.a, 60, o.l.cap⟩ }) ho7 50 _ (addF _ _) (by omega) (by rw [cut0']; exact op_l { o with data := s6 } ⟨o.l.a, 60, o.l.cap⟩) fun w11 ho11 hc11 => hq _ ⟨⟨o.l.a, 60, o.l.cap⟩, ho11, hc11, ?_, Nat.le_refl _⟩⟩
    have := src_take (n := 60) h.is.li (by omega) (by rw [List.length_map]; omega)
    rw [Nat.mul_one] at this
    rw [List.map_take]; exact this
  · have hg := of_decide_eq_false hg
    refine hq _ ⟨o.l, ho7, .refl _ _, ?_, by omega⟩
    rw [List.take_of_length_le (by omega)]; exact h.is.li
  rintro w12 ⟨l, ho12, hc12, hl12, hl60⟩
  have hX12 : Ext w w12 := Ext.of_chg hX7 hc12 (Nat.le_refl _)
  have hxa : Ext w12 (w12.alloc (.cells #[] Ty.int)) := Chg.alloc (.refl _ _) _
  obtain ⟨l', w16, g1, g2, g3, g4, g5, _⟩ := appInt.clone (oT := Ty.Sl_int) (hl12.ext hX12) (fun v hv => by obtain ⟨n, _, rfl⟩ := List.mem_map.1 hv; trivial) (by omega)
  have ho16 := ho12.ext g4
  have hlt12 := ho12.lt
  refine nx ⟨l, (ocell2 (ho12.ext hxa)).2.2, l', w16, g1, vset (o' := { o with data := s6, l := l' }) ho16 50 _ (addF _ _) (by omega) (op_l _ _) fun w17 ho17 hc17 => ?_⟩
  have hX17 : Ext w w17 := Ext.of_chg (Ext.trans hX12 g4) hc17 (Nat.le_refl _)
  have hk17 : w17.cell? ((Addr.add ⟨w.heap.size, 0, none⟩ 6).add 22) = some (.slice o.k.a o.k.len o.k.cap) := by
    have := rdGet (i := 0) (ords ho17) (j := 22) (v := .slice o.k.a o.k.len o.k.cap) (by simp [Sv.c, List.getElem?_append, Ad.c_length])
    rwa [Nat.zero_add] at this
  refine ⟨o.k, hk17, Jn1 (fun k w' => w17 = w' ∧ Src 21 w k (bksC (bs.take 2)) ∧ k.len = min a.nb 2) (fun q hq => ⟨fun hg => ?_, fun hg => ?_⟩) ?_⟩
  · have hg := of_decide_eq_true hg
    refine ⟨⟨by decide, by have := h.kcap; omega⟩, ?_⟩
    rw [cut0']
    refine hq _ _ ⟨rfl, ?_, by show 2 = _; omega⟩
    have := src_take (n := 2) h.bk (by omega) (by rw [bksC_length, hkl])
    rw [bksC_take] at this
    exact this
  · have hg := of_decide_eq_false hg
    refine hq _ _ ⟨rfl, ?_, by omega⟩
    rw [List.take_of_length_le (by omega)]; exact h.bk
  rintro k _ ⟨rfl, hk, hkl2⟩
  obtain ⟨k', w25, j1, j2, j3, j4, j5, _⟩ := appBk.clone (oT := Ty.Sl_api_Backend) (hk.ext hX17) (bksC_plain _) (by omega)
  have ho25 := ho17.ext j4
  have hX25 := Ext.trans hX17 j4
  have hlt17 := ho17.lt
  refine ⟨⟨some ⟨w17.heap.size, 0, none⟩, 0, 0⟩, _, buildBk0 w17, k', w25, j1, vset (o' := { o with data := s6, l := l', k := k' }) ho25 28 _ (by rw [add_add, addF]) (by omega) (op_k _ _) fun w26 ho26 hc26 => ?_⟩
  have hX26 : Ext w w26 := Ext.of_chg hX25 hc26 (Nat.le_refl _)
  have hz4 := hz.ext hx4
  have hw1 : w1.heap.size < w2.heap.size := hz.lt
  have hz26 : Var w26 w1.heap.size opZ.c Ty.api_Op := ((((((hz4.chg hc7 (by omega)).chg hc12 (by omega)).ext g4).chg hc17 (by omega)).ext j4).chg hc26 (by omega))
  refine ⟨_, ho26.rd (OpM.c_length _), hz26.storeOk (by simp [OpM.c_length]) (by simpa using OpM.plain _), by simp [OpM.c_length], nxPut hz26 (us := ({ o with data := s6, l := l', k := k' } : OpM).c) (by simp [OpM.c_length]) (by simp) fun w28 hv28 hc28 _ => ⟨_, hv28.rd (OpM.c_length _), { o with data := s6, l := l', k := k' }, bs.take 2, rfl, ?_, Ext.of_chg hX26 hc28 (by omega), ⟨fun q hq => by have := hf6 q hq; omega, fun q hq => by have := g5 q hq; omega⟩, fun q hq => by have := j5 q hq; omega⟩⟩
  have d28 := (((((hs7.chg hc12 (fun q hq e => by have := hf6 q hq; omega)).ext g4).chg hc17 (fun q hq e => by have := hf6 q hq; omega)).ext j4).chg hc26 (fun q hq e => by have := hf6 q hq; omega)).chg hc28 (fun q hq e => by have := hf6 q hq; omega)
  have l28 := (((g2.chg hc17 (fun q hq e => by have := g5 q hq; omega)).ext j4).chg hc26 (fun q hq e => by have := g5 q hq; omega)).chg hc28 (fun q hq e => by have := g5 q hq; have a1 := hx4.size; have a2 := hc7.size; have a3 := hc12.size; omega)
  have k28 := (j2.chg hc26 (fun q hq e => by have := j5 q hq; omega)).chg hc28 (fun q hq e => by have := j5 q hq; have a1 := hx4.size; have a2 := hc7.size; have a3 := hc12.size; have a4 := g4.size; have a5 := hc17.size; omega)
  refine ⟨⟨h.is.kind, d28.src, h.is.id, h.is.bid, h.is.n, h.is.on, h.is.s, by show k'.len = _; rw [j3]; exact hkl2, h.is.to, l28.src⟩, d28.2.1, l28.2.1, k28.src, k28.2.1, ?_⟩
  have hv := h.vd
  exact ⟨hv.id, hv.bid, hv.n, hv.sid, hv.sport, hv.sproto, hv.sbits, hv.slasts, hv.tid, hv.tport, hv.tweight, fun n hn => hv.li n (List.mem_of_mem_take hn)⟩

end Go.Proofs.YtgljoledlhmhnaaGreatDoor


namespace Go.Proofs.YtgljoledlhmhnaaGreatDoor
open Go Gx
variable {w w' : World}

theorem fewS_len (a : Stp) : (fewS a).data.length ≤ 2300 ∧ (fewS a).li.length ≤ 60 := by
  unfold fewS
  simp only [List.length_take]
  omega
theorem showO_len (a : Stp) : (showO a).length ≤ 4200 := by
  unfold showO
  split
  · rename_i h; exact h.2
  · simp
theorem nilBA : ByteArray.mk #[] = S [] := rfl
theorem lives_end {w w0 : World} {Q : Value → World → Prop} (hX : Ext w0 w) (ht : ScT w) (hQ : ∀ w', Ext w0 w' → Q (.bool true) w') {b : Bool} (hb : b = true) {K : Bool → World → Prop} (hK : ∀ w', Ext w0 w' → K true w') :
    (b = true → Calls Tryz.prog F.law29_lives #[] w fun e w1 => ∃ c : Bool, e = .returned (.bool c) ∧ K c w1) ∧ (b = false → K false w) := by
  subst hb
  refine ⟨fun _ => (lives29 w ht).use ?_, fun h => (by cases h)⟩
  rintro _ w' ⟨rfl, hx⟩
  exact ⟨_, rfl, hK _ (Ext.trans hX hx)⟩

end Go.Proofs.YtgljoledlhmhnaaGreatDoor


namespace Go.Proofs.YtgljoledlhmhnaaGreatDoor
open Go Gx

theorem returnsInHanded_and_shaped {H : Type} {enc : TypeId × Value → H} {a : Assume} {C : Checked} {os : Os} {f : FuncId} {fn : Func} {s : ChangeSpec} {conds : List PathCond} {apart fresh handsOn again : Bool} {X : World → Array Value → Prop}
    (hX : ∀ (w w' : World) (args : Array Value), w.heap = w'.heap → X w args → X w' args)
    (own : ownKnob C.prog.godebug = none) (started : os.Started) (noInit : C.prog.inits.idxOf? f = none) (hfn : C.prog.funcs[f]? = some fn)
    (witness : ∃ (w : World) (tape : Tape) (i : Input), w.os = os ∧ (w.forCall tape i).Shaped C.prog ∧ i.vars = [] ∧ Input.okWide C.prog (w.forCall tape i) .any w.heap.size f i ∧
      ((s.pre enc C.prog fn conds apart (w.forCall tape i).memory i.args ∧ X (w.forCall tape i).memory i.args) ∧ sizedMet enc C.prog fn (OpenSpec.ofChange s) apart (w.forCall tape i).memory i.args) ∧ a.holds C.prog (lone (Frame.enter C.prog f i.args .normal) [] (w.forCall tape i)))
    (contract : ∀ (W : World) (base : Nat) (args : Array Value) (ds gs : List (DataW H)) (before : List MemPlace),
      (∀ (j : Nat) t v, fn.params[j]? = some t → args[j]? = some v → Value.okWide C.prog W .any base t v) →
      DataW.Whole enc C.prog fn.params.toList s.vars apart W args.toList ds gs before →
      conds.all (PathCond.test C.prog ⟨fn.params.toList, ds, s.plain.varTypes C.prog, gs⟩) = true →
      (DataW.weightsEach C.prog (fn.params.toList ++ s.plain.varTypes C.prog) (ds ++ gs)).all (· ≤ reachBytes) = true → X W args → W.ShapedOpen C.prog →
      a.holds C.prog (lone (Frame.enter C.prog f args .normal) [] W) →
      Calls C.prog f args W fun e W' => ∃ v, e = .returned v ∧ s.post enc C.prog fn apart fresh handsOn again W args v W') :
    ReturnsInHanded a C os f .any (fun w args => (s.pre enc C.prog fn conds apart w args ∧ X w args) ∧ sizedMet enc C.prog fn (OpenSpec.ofChange s) apart w args) (s.post enc C.prog fn apart fresh handsOn again) := by
  refine returnsInHanded_of_calls own started noInit witness ?_
  intro w tape i _ hsh _ hok hpre hholds
  obtain ⟨_, _, _, fn', hfn', _, _, _, _, hval⟩ := hok
  have e : fn' = fn := Option.some.inj (hfn'.symm.trans hfn)
  subst e
  obtain ⟨⟨⟨ds, gs, before, hw, hc⟩, hx⟩, hz⟩ := hpre
  have hw' := DataW.Whole.of_heap (w' := w.forCall tape i) (by rfl) hw
  refine (contract (w.forCall tape i) w.heap.size i.args ds gs before hval hw' hc (hz.weights hw) (hX _ _ _ (by rfl) hx) hsh hholds).mono fun e W' ⟨v, he, hp⟩ => ?_
  subst he
  exact ChangeSpec.post_blind hp

theorem maxAt_of {w : World} (h : w.ShapedOpen Tryz.prog) : MaxAt w :=
  Go.Proofs.cell_of_shapedOpen_int h (g := G.internal_bytealg_MaxLen) (t := Ty.int) (zero := #[.int .i64 0]) (of_decide_eq_true (by kernel_rfl)) (by kernel_rfl) rfl (by kernel_rfl) (by kernel_rfl) (by kernel_rfl)
def spZ : List Int := (List.range 256).map fun i => if i = 9 ∨ i = 10 ∨ i = 11 ∨ i = 12 ∨ i = 13 ∨ i = 32 then 1 else 0
theorem sp_of {w : World} {l : List (String × DataW Unit)} (h : laidMet Tryz.prog l w) (h1 : l[7]? = some ("strings.asciiSpace", Rows.laid_strings_asciiSpace)) : TabSp w := by
  have b := laid_ints h h1 (g := G.strings_asciiSpace) (k := .u8) (zs := spZ) (t := ((Tryz.prog.globals[G.strings_asciiSpace]?).map (·.type)).get (by kernel_rfl)) (e := Ty.uint8) (N := 256) (by kernel_rfl) (Option.some_get _).symm (by kernel_rfl) (by kernel_rfl) (by kernel_rfl) (by kernel_rfl)
  intro i hi
  rw [b i hi]
  congr 2
  simp [spZ, List.getD, hi]
theorem sct_of {w : World} {l : List (String × DataW Unit)} (h : laidMetH Tryz.prog l w) (hp : (l.all fun x => x.2.handleName?.isNone) = true) (h1 : l[1]? = some ("math/bits.deBruijn64tab", Rows.laid_math_bits_deBruijn64tab)) (h2 : l[2]? = some ("internal/strconv.uint64pow10", Rows.laid_internal_strconv_uint64pow10))
    (h3 : l[4]? = some ("strconv.ErrRange", Rows.laid_strconv_ErrRange)) (h4 : l[5]? = some ("strconv.ErrSyntax", Rows.laid_strconv_ErrSyntax)) (h5 : l[7]? = some ("strings.asciiSpace", Rows.laid_strings_asciiSpace)) (hM : MaxAt w) : ScT w := by
  refine ⟨tabs_of h hp h1 h2 h3 h4, ?_, hM⟩
  rw [MakeChecks.laidMetH_plain _ _ _ hp] at h
  exact sp_of h h5

end Go.Proofs.YtgljoledlhmhnaaGreatDoor


namespace Go.Proofs.YtgljoledlhmhnaaGreatDoor
open Go Gx
variable {w w' : World}

theorem strCells_S (m : List UInt8) : Lib.strCells (S m) = u8s m := rfl
set_option maxRecDepth 100000 in
theorem append_str_own {oT : TypeId} {s : Sl} {l : List UInt8} (m : List UInt8) (hown : OwnS 1 Ty.uint8 w s (u8s l)) (hsmall : l.length + m.length ≤ 1000000000) :
    ∃ (s' : Sl) (w' : World), Sem.run Tryz.prog (Builtin.append_ #[Ty.Sl_uint8, Ty.string] oT #[.slice s.a s.len s.cap, .string (S m)]) w = .ok (.slice s'.a s'.len s'.cap) w' ∧ OwnS 1 Ty.uint8 w' s' (u8s (l ++ m)) ∧ Chg (ownB s) w w' ∧ ∀ k, ownB s' k → ownB s k ∨ w.heap.size ≤ k := by
  obtain ⟨g1, g2, g3, g4⟩ := hown
  have hown : OwnS 1 Ty.uint8 w s (u8s l) := ⟨g1, g2, g3, g4⟩
  have hsl : s.len = l.length := by rw [u8s_length, Nat.mul_one] at g1; exact g1.symm
  by_cases hfit : s.len + m.length ≤ s.cap
  · have hst : ∀ a, s.a = some a → StoreOk w (a.add s.len) (u8s m) := by
      intro a ha
      rcases g4 with ⟨hn, _⟩ | ⟨b, c, hbb, hblk, hcs, hv⟩
      · rw [hn] at ha; cases ha
      · rw [hbb] at ha
        cases ha
        rw [add_mk]
        exact hblk.storeOk _ _ (by rw [hcs, u8s_length]; omega) (u8s_plain m)
    have hrun := append_str_fit (oT := oT) (w := w) (s := s) m hfit hst
    refine ⟨⟨s.a, s.len + m.length, s.cap⟩, _, hrun, ?_, ?_, fun k hk => .inl hk⟩
    · rcases g4 with ⟨hn2, hc0⟩ | ⟨b, c, hbb, hblk, hcs, hv⟩
      · exact ⟨by rw [u8s_length, List.length_append]; show _ = (s.len + m.length) * 1; omega, hfit, g3, .inl ⟨hn2, hc0⟩⟩
      · simp only [hbb, add_mk, Nat.zero_add]
        have hblk2 := Blk.sets (T := Ty.uint8) (u8s m) s.len 0 hblk
        refine ⟨by rw [u8s_length, List.length_append]; show _ = (s.len + m.length) * 1; omega, hfit, g3, .inr ⟨b, _, rfl, hblk2, by rw [spl_size]; exact hcs, ?_⟩⟩
        have := take_spl (u8s m) c s.len (by rw [hcs, u8s_length]; omega)
        rw [u8s_length] at this
        rw [u8s_append]
        show List.take ((s.len + m.length) * 1) _ = _
        rw [Nat.mul_one, Nat.add_zero, this, ← hv, Nat.mul_one]
    · cases hsa : s.a with
      | none => exact .refl _ _
      | some a =>
        refine Chg.setCells (fun _ => ?_) (u8s m) 0 (.refl _ _)
        exact ⟨a, hsa, by unfold Addr.add; split <;> rfl⟩
  · have hm0 : 0 < m.length := by omega
    obtain ⟨i, hi⟩ : ∃ i, i = (Tryz.prog.info? Ty.uint8).get (by kernel_rfl) := ⟨_, rfl⟩
    have hinf : Tryz.prog.info? Ty.uint8 = some i := by rw [hi]; exact (Option.some_get _).symm
    have hz : i.zero = some (.int .u8 0) := by rw [hi]; kernel_rfl
    have hb1 : i.bytes = 1 := by rw [hi]; kernel_rfl
    have hs1 : i.size = 1 := by rw [hi]; kernel_rfl
    have key : ∀ (cs : Array Value) (n : Nat), l.length + m.length ≤ n → n ≤ maxLen → cs.toList = u8s (l ++ m) ++ List.replicate (n - (l.length + m.length)) (.int .u8 0) → OwnS 1 Ty.uint8 (w.drew.alloc (.cells cs Ty.uint8)) ⟨some ⟨w.heap.size, 0, none⟩, l.length + m.length, n⟩ (u8s (l ++ m)) := by
      intro cs n hn hnm hcs
      refine ⟨by rw [u8s_length, List.length_append]; show _ = (l.length + m.length) * 1; omega, hn, hnm, .inr ⟨w.heap.size, cs, rfl, Blk.new w.drew _ _, ?_, ?_⟩⟩
      · have := congrArg List.length hcs
        rw [Array.length_toList, List.length_append, List.length_replicate, u8s_length, List.length_append] at this
        rw [this]; show _ = n * 1; omega
      · rw [hcs]
        show List.take ((l.length + m.length) * 1) _ = _
        rw [Nat.mul_one]
        exact List.take_left' (by rw [u8s_length, List.length_append])
    have hzc : ∀ k, (Builtin.zeroCells (Value.int .u8 0).cells k).toList = List.replicate k (Value.int .u8 0) := by
      intro k
      have h1 : (Builtin.zeroCells (Value.int .u8 0).cells k).size = k := by
        rw [size_zeroCells]; show k * 1 = k; omega
      apply List.ext_getElem
      · rw [Array.length_toList, h1, List.length_replicate]
      · intro j h2 h3
        simp [Builtin.zeroCells, Value.cells, Nat.mod_one]
    have hfits : Builtin.nextslicecap (l.length + m.length) s.cap * i.bytes ≤ 281474976710656 := by
      rw [hb1, Nat.mul_one]
      have := nextcap_le (need := l.length + m.length) (cap := s.cap) (by omega)
      omega
    rcases g4 with ⟨hn2, hc0⟩ | ⟨b, c, hbb, hblk, hcs, hv⟩
    · have hl0 : l = [] := List.length_eq_zero_iff.1 (by omega)
      subst hl0
      have hs0 : s.len = 0 := by simpa using hsl
      have hr := run_append_nil_string (P := Tryz.prog) w Ty.Sl_uint8 Ty.string oT Ty.uint8 i (.int .u8 0) (by kernel_rfl) (by kernel_rfl) hinf hz (S m) (by rw [S_size]; exact hm0) (by rw [S_size]; omega) (by rw [S_size, hb1]; simp at hsmall; omega)
      have hge := grownCap_ge w m.length 0 Ty.uint8
      have hle := grownCap_le_maxLen w m.length 0 Ty.uint8 (by show m.length ≤ 2 ^ 63 - 1; simp at hsmall; omega)
      obtain rfl : s = ⟨none, 0, 0⟩ := by cases s; simp_all
      refine ⟨⟨some ⟨w.heap.size, 0, none⟩, m.length, grownCap w m.length 0 Ty.uint8⟩, _, hr, ?_, Chg.alloc (Chg.drew (.refl _ _)) _, ?_⟩
      · have := key ((S m).data.map (fun b => Value.int .u8 b.toNat) ++ Builtin.zeroCells (Value.int .u8 0).cells (grownCap w (S m).size 0 Ty.uint8 - (S m).size)) (grownCap w m.length 0 Ty.uint8) (by simpa using hge) hle (by
          rw [Array.toList_append, hzc, S_size]
          simp [S, u8s])
        simpa using this
      · rintro k ⟨A, hA, hk⟩
        cases hA
        exact .inr (by simpa using hk ▸ Nat.le_refl _)
    · have hcell : ∀ j u, (u8s l)[j]? = some u → w.cell? ((⟨b, 0, none⟩ : Addr).add j) = some u := by
        intro j u hj
        have hsrc := hown.src
        have := rdGet (i := 0) (hsrc.rd _ hbb) hj
        rwa [Nat.zero_add] at this
      have hr := Lib.run_append_grow_string (P := Tryz.prog) w Ty.Sl_uint8 Ty.string oT Ty.uint8 i (.int .u8 0) (by kernel_rfl) (by kernel_rfl) hinf hz ⟨b, 0, none⟩ s.len s.cap (u8s l) (by rw [u8s_length, hs1]; omega) hcell (S m) (by rw [S_size]; omega) (by rw [S_size]; omega) (by rw [S_size, hsl]; exact hfits)
      have hge := grownCap_ge w (l.length + m.length) s.cap Ty.uint8
      have hle := grownCap_le_maxLen w (l.length + m.length) s.cap Ty.uint8 (by show _ ≤ 2 ^ 63 - 1; omega)
      obtain ⟨sa, sl, sc⟩ := s
      obtain rfl : sa = some ⟨b, 0, none⟩ := hbb
      obtain rfl : sl = l.length := hsl
      rw [S_size] at hr
      refine ⟨⟨some ⟨w.heap.size, 0, none⟩, l.length + m.length, grownCap w (l.length + m.length) sc Ty.uint8⟩, _, hr, ?_, Chg.alloc (Chg.drew (.refl _ _)) _, ?_⟩
      · refine key _ _ hge hle ?_
        rw [Array.toList_append, Array.toList_append, hzc, strCells_S, u8s_append]
      · rintro k ⟨A, hA, hk⟩
        cases hA
        exact .inr (by simpa using hk ▸ Nat.le_refl _)

theorem WriteStringF {w0 w : World} {B : Nat} {l : List UInt8} (m : List UInt8) (h : BldF w0 w B l) (hr : l.length + m.length ≤ 1000000000) :
    Ret Tryz.prog F.strings_Builder_WriteString #[.pointer (some ⟨B, 0, none⟩), .string (S m)] w (fun v w' => v = .tuple #[.int .i64 ((m.length : Nat) : Int), .nilIface] ∧ BldF w0 w' B (l ++ m)) := by
  obtain ⟨hx, hnew, p, s, hp, hB, hs, hf⟩ := h
  refine W.strings_Builder_WriteString_ok _ _ w _ ?_
  unfold W.strings_Builder_WriteString
  refine (copyCheck0 (hp.imp And.left id) hB).use ?_
  rintro _ w1 ⟨rfl, hB1, c1⟩
  have hs1 := hs.chg c1 fun k hk e => (hf k hk).2 e
  have hx1 : Ext w0 w1 := Ext.of_new hx c1 fun q e => by subst e; exact hnew
  obtain ⟨s', w7, g1, g2, g4, g5⟩ := append_str_own (oT := Ty.Sl_uint8) m hs1 hr
  have hB7 : Blk w7 B #[.pointer (some ⟨B, 0, none⟩), .slice s.a s.len s.cap] Ty.strings_Builder := hB1.chg g4 fun hq => (hf B hq).2 rfl
  have hx7 : Ext w0 w7 := Ext.of_new hx1 g4 fun q hq => (hf q hq).1
  have hlt : B < w1.heap.size := hB1.lt
  refine ⟨rfl, _, rfl, s, by rw [add_mk, hB1.cell]; rfl, s', w7, g1, _, rfl, ⟨_, by rw [add_mk, hB7.cell]; rfl⟩, by rw [add_mk]; exact hB7.frozen _ rfl, nx ⟨rfl, ?_⟩⟩
  rw [add_mk]
  have c9 : Chg (fun q => q = B) w7 (w7.setCell ⟨B, 0 + 1, none⟩ (.slice s'.a s'.len s'.cap)) := Chg.cellB (.refl _ _) _
  have hne : ∀ k, ownB s' k → w0.heap.size ≤ k ∧ k ≠ B := fun k hk => by
    rcases g5 k hk with h1 | h1
    · exact hf k h1
    · exact ⟨Nat.le_trans hx1.size h1, by omega⟩
  exact ⟨Ext.of_new hx7 c9 fun q e => by subst e; exact hnew, hnew, some ⟨B, 0, none⟩, s', .inr rfl, hB7.set (0 + 1) _, g2.chg c9 fun k hk e => (hne k hk).2 e, hne⟩
/-- A Builder that was begun just now. -/
theorem BStringNew {w0 : World} {B : Nat} (hB : Blk w B #[.pointer none, .slice none 0 0] Ty.strings_Builder) (hx : Ext w0 w) :
    Ret Tryz.prog F.strings_Builder_String #[.pointer (some ⟨B, 0, none⟩)] w (fun v w' => v = .string (S []) ∧ Ext w0 w') := by
  refine W.strings_Builder_String_ok _ w _ ?_
  unfold W.strings_Builder_String
  have hcell : w.drew.cell? ((Addr.mk B 0 none).add 1) = some (.slice none 0 0) := by rw [add_mk, hB.drew.cell]; rfl
  exact nx ⟨fun _ => False, _, rfl, id, ⟨none, 0, 0⟩, hcell, _, rfl, id, ⟨none, 0, 0⟩, hcell, none, w.drew, Lib.run_unsafeSliceData_nil w.drew _ _ 0 0, .refl _ _, S [], w.drew, Lib.run_unsafeString_none w.drew _ _ _ _, rfl, Chg.drew hx⟩

end Go.Proofs.YtgljoledlhmhnaaGreatDoor


namespace Go.Proofs.YtgljoledlhmhnaaGreatDoor
open Go Gx
variable {w w' : World}

/-- The text is a step's line. -/
def okL (x : List UInt8) : Prop := ∃ a, Vd a ∧ showO a = x ∧ x ≠ []
/-- The step of a line. -/
structure LnOf (x : List UInt8) (y : Stp) : Prop where
  vd : Vd y
  sh : showO y = x
  ne : x ≠ []
  dl : y.data.length ≤ 10000
  ll : y.li.length ≤ 10001
  one : ∀ a, Vd a → showO a = x → y = a
theorem LnOf.ok {x : List UInt8} {y : Stp} (h : LnOf x y) : okL x := ⟨y, h.vd, h.sh, h.ne⟩
theorem PrR.is {l : List UInt8} {o : OpM} {ok : Bool} (h : PrR l w o ok) : ∃ y, OpIs w o y ∧ (ok = true → LnOf l y) ∧ (ok = false → ¬ okL l ∧ y = stp0 0) := by
  obtain ⟨y, hy, h1, h2, h3, h4⟩ := h
  refine ⟨y, hy, fun hok => ?_, fun hok => ⟨?_, h2 hok⟩⟩
  · obtain ⟨g1, g2, g3⟩ := h1 hok
    exact ⟨g1, g2, g3, h3.1, h3.2, fun a ha hs => (h4 a ha hs g3).2⟩
  · rintro ⟨a, ha, hs, hne⟩
    have := (h4 a ha hs hne).1
    rw [hok] at this; cases this

/-- Steps in the heap, in a row of the call's own. -/
structure OpsL (w : World) (t : Sl) (O : List OpM) (Y : List Stp) : Prop where
  own : OwnS 51 Ty.api_Op w t (opsC O)
  len : O.length = Y.length
  is : ∀ (i : Nat) (h1 : i < O.length) (h2 : i < Y.length), OpIs w O[i] Y[i]
  ap : ∀ o ∈ O, (o.data.len ≠ 0 → ∀ q, ownB o.data q → q < w.heap.size ∧ ¬ ownB t q) ∧ (o.l.len ≠ 0 → ∀ q, ownB o.l q → q < w.heap.size ∧ ¬ ownB t q)
theorem src0 {sz : Nat} {s : Sl} (h : Src sz w s []) (hs : s.len = 0) : Src sz w' s [] := ⟨by rw [hs]; simp, fun _ => rfl, fun a ha => by rw [hs, Nat.zero_mul]; rfl⟩
theorem OpIs.chg0 {W : Nat → Prop} {o : OpM} {a : Stp} (h : OpIs w o a) (hc : Chg W w w') (h1 : o.data.len ≠ 0 → ∀ q, ownB o.data q → ¬ W q) (h2 : o.l.len ≠ 0 → ∀ q, ownB o.l q → ¬ W q) : OpIs w' o a := by
  refine ⟨h.kind, ?_, h.id, h.bid, h.n, h.on, h.s, h.nb, h.to, ?_⟩
  · by_cases e : o.data.len = 0
    · have hd := h.data
      have : u8s a.data = [] := List.length_eq_zero_iff.1 (by rw [hd.len, e])
      rw [this] at hd ⊢
      exact src0 hd e
    · exact h.data.chg hc (h1 e)
  · by_cases e : o.l.len = 0
    · have hd := h.li
      have : a.li.map encI = [] := List.length_eq_zero_iff.1 (by rw [hd.len, e])
      rw [this] at hd ⊢
      exact src0 hd e
    · exact h.li.chg hc (h2 e)
theorem src_lt {s : Sl} {vs : List Value} (h : Src 1 w s vs) (hs : s.len ≠ 0) {q : Nat} (hq : ownB s q) : q < w.heap.size := by
  obtain ⟨A, hA, e⟩ := hq
  have hl := h.len
  have hlt : 0 < vs.length := by omega
  obtain ⟨B, hB, _, hc⟩ := h.at (i := 0) (v := vs[0]) (List.getElem?_eq_getElem hlt)
  obtain rfl : A = B := by rw [hA] at hB; exact Option.some.inj hB
  rw [← e]
  rw [show Int.toNat ((0 : Nat) : Int) * 1 = 0 from rfl, add_zero'] at hc
  simp only [World.cell?] at hc
  cases hg : w.heap[A.block]? with
  | none => simp [hg] at hc
  | some o => exact (Array.getElem?_eq_some_iff.1 hg).1
variable {t : Sl} {O : List OpM} {Y : List Stp}
theorem OpsL.slen (h : OpsL w t O Y) : t.len = Y.length := by have := h.own.1; rw [opsC_length] at this; have := h.len; omega
theorem OpsL.ext (h : OpsL w t O Y) (hx : Ext w w') : OpsL w' t O Y := ⟨h.own.ext hx, h.len, fun i h1 h2 => (h.is i h1 h2).ext hx, fun o ho => ⟨fun e q hq => ⟨Nat.lt_of_lt_of_le ((h.ap o ho).1 e q hq).1 hx.size, ((h.ap o ho).1 e q hq).2⟩, fun e q hq => ⟨Nat.lt_of_lt_of_le ((h.ap o ho).2 e q hq).1 hx.size, ((h.ap o ho).2 e q hq).2⟩⟩⟩
theorem OpsL.nil (w : World) : OpsL w ⟨none, 0, 0⟩ [] [] := ⟨OwnS.none _ _ _, rfl, fun i h => by simp at h, fun o h => by cases h⟩
theorem OpsL.get (h : OpsL w t O Y) {i : Nat} (hi : i < Y.length) : ∃ A, t.a = some A ∧ ((0 : Int) ≤ (i : Int) ∧ (i : Int) < ((t.len : Nat) : Int)) ∧ ∃ o : OpM, rdCells w (A.add (Int.toNat (i : Int) * 51)) 0 51 = some o.c ∧ OpIs w o Y[i] := by
  obtain ⟨A, h1, h2, h3⟩ := OpM.get h.own.src (i := i) (by rw [h.len]; exact hi)
  exact ⟨A, h1, h2, _, h3, h.is i _ hi⟩
theorem OpsL.push (h : OpsL w t O Y) {o : OpM} {y : Stp} (ho : OpIs w o y) (hf : ∀ q, (ownB o.data q ∨ ownB o.l q) → ¬ ownB t q) (hn : Y.length ≤ 1000000) :
    ∃ (t' : Sl) (w1 w2 : World), Sem.run Tryz.prog (Instr.buildSlice Ty.Sl_api_Op 1 #[(0, .agg o.c.toArray)]) w = .ok (.slice (some ⟨w.heap.size, 0, none⟩) 1 1) w1 ∧
      Sem.run Tryz.prog (Builtin.append_ #[Ty.Sl_api_Op, Ty.Sl_api_Op] Ty.Sl_api_Op #[.slice t.a t.len t.cap, .slice (some ⟨w.heap.size, 0, none⟩) 1 1]) w1 = .ok (.slice t'.a t'.len t'.cap) w2 ∧
      OpsL w2 t' (O ++ [o]) (Y ++ [y]) ∧ Chg (ownB t) w w2 ∧ ∀ q, ownB t' q → ownB t q ∨ w.heap.size ≤ q := by
  have hl := h.slen
  have hx : Ext w (w.alloc (.cells o.c.toArray Ty.api_Op)) := Chg.alloc (.refl _ _) _
  obtain ⟨t', w2, g1, g2, g3, g4, g5⟩ := appOp.append (oT := Ty.Sl_api_Op) (Src.new (T := Ty.api_Op) w o.c 1 (by rw [o.c_length])) (h.own.ext hx) o.plain (by show (2 * (t.len + 1) + 1000) * 208 ≤ _; omega)
  have hc : Chg (ownB t) w w2 := (Chg.of_ext hx).trans g4
  have hf5 : ∀ q, ownB t' q → ownB t q ∨ w.heap.size ≤ q := fun q hq => (g5 q hq).imp id fun h => Nat.le_trans hx.size h
  refine ⟨t', _, w2, buildOp o w, g1, ⟨?_, by simp [h.len], fun i h1 h2 => ?_, fun p hp => ?_⟩, hc, hf5⟩
  · rw [opsC_app, opsC_one]; exact g2
  · by_cases hi : i < O.length
    · rw [List.getElem_append_left hi, List.getElem_append_left (by rw [← h.len]; exact hi)]
      have ha := h.ap _ (List.getElem_mem hi)
      exact (h.is i hi (by rw [← h.len]; exact hi)).chg0 hc (fun e q hq => (ha.1 e q hq).2) (fun e q hq => (ha.2 e q hq).2)
    · have hi' : i = O.length := by simp at h1; omega
      subst hi'
      have e1 : (O ++ [o])[O.length] = o := by simp
      have e2 : (Y ++ [y])[O.length] = y := by simp [h.len]
      rw [e1, e2]
      exact ho.chg hc (fun q hq => hf q (.inl hq)) (fun q hq => hf q (.inr hq))
  · rcases List.mem_append.1 hp with hp | hp
    · have ha := h.ap p hp
      refine ⟨fun e q hq => ?_, fun e q hq => ?_⟩
      · have := ha.1 e q hq
        exact ⟨Nat.lt_of_lt_of_le this.1 hc.size, fun h2 => (hf5 q h2).elim this.2 (fun h3 => by omega)⟩
      · have := ha.2 e q hq
        exact ⟨Nat.lt_of_lt_of_le this.1 hc.size, fun h2 => (hf5 q h2).elim this.2 (fun h3 => by omega)⟩
    · obtain rfl : p = o := List.mem_singleton.1 hp
      refine ⟨fun e q hq => ?_, fun e q hq => ?_⟩
      · have hlt := src_lt ho.data e hq
        exact ⟨Nat.lt_of_lt_of_le hlt hc.size, fun h2 => (hf5 q h2).elim (hf q (.inl hq)) (fun h3 => by omega)⟩
      · have hlt := src_lt ho.li e hq
        exact ⟨Nat.lt_of_lt_of_le hlt hc.size, fun h2 => (hf5 q h2).elim (hf q (.inr hq)) (fun h3 => by omega)⟩

noncomputable def textOf (Y : List Stp) : List UInt8 := Y.flatMap fun y => showO y ++ [10]
theorem textOf_snoc (Y : List Stp) (y : Stp) : textOf (Y ++ [y]) = textOf Y ++ (showO y ++ [10]) := by simp [textOf]
theorem textOf_len (Y : List Stp) : (textOf Y).length ≤ Y.length * 4201 := by
  induction Y with
  | nil => simp [textOf]
  | cons y Y ih =>
    have := showO_len y
    have e : textOf (y :: Y) = (showO y ++ [10]) ++ textOf Y := rfl
    rw [e, List.length_append, List.length_append, List.length_singleton, List.length_cons, Nat.succ_mul]
    omega
theorem e10 : ByteArray.mk #[10] = S [10] := rfl
theorem script_Print (h : OpsL w t O Y) (hv : ∀ y ∈ Y, Vd y ∧ y.data.length ≤ 1000000 ∧ y.li.length ≤ 1000000) (ht : ScT w) : Ret Tryz.prog F.script_Print #[.slice t.a t.len t.cap] w (fun v w' => Ext w w' ∧
    (Y.length > 1000 → v = .tuple #[.string (S []), .int .i64 10]) ∧ (Y.length ≤ 1000 → (∃ y ∈ Y, showO y = []) → v = .tuple #[.string (S []), .int .i64 1]) ∧ (Y.length ≤ 1000 → (∀ y ∈ Y, showO y ≠ []) → v = .tuple #[.string (S (textOf Y)), .int .i64 0])) := by
  refine W.script_Print_ok t w _ ?_
  unfold W.script_Print
  have hl := h.slen
  refine ⟨fun hg => ⟨.refl _ _, fun _ => rfl, fun h1 => ?_, fun h1 => ?_⟩, fun hg => nx ?_⟩
  · have := of_decide_eq_true hg; omega
  · have := of_decide_eq_true hg; omega
  have hg : Y.length ≤ 1000 := by have := of_decide_eq_false hg; omega
  refine ⟨fun n w' => ∃ i : Nat, n = i ∧ i ≤ Y.length ∧ BldF w w' w.heap.size (textOf (Y.take i)) ∧ (i = 0 → Blk w' w.heap.size #[.pointer none, .slice none 0 0] Ty.strings_Builder) ∧ ∀ y ∈ Y.take i, showO y ≠ [], fun n _ => ((Y.length : Int) - n).toNat,
    ⟨0, rfl, Nat.zero_le _, by rw [List.take_zero]; exact BldF.start w, fun _ => Blk.new _ _ _, by simp⟩, ?_⟩
  rintro _ w5 ⟨i, rfl, hi, hB, hB0, hne⟩
  have hX5 := hB.ext
  refine ⟨fun hlt => ?_, fun hge => ?_⟩
  · have hlt : i < Y.length := by have := of_decide_eq_true hlt; omega
    obtain ⟨A, hA, hbd, o, hrd, ho⟩ := (h.ext hX5).get hlt
    have hvi := hv _ (List.getElem_mem hlt)
    refine ⟨A, hA, hbd, _, hrd, nxVar (vs := opZ.c) (by kernel_rfl) fun w8 hz hx8 hs8 => ⟨hz.storeOk (by simp [OpM.c_length]) (by simpa using o.plain), by simp [OpM.c_length], nxPut hz (us := o.c) (by simp [OpM.c_length]) (by simp) fun w9 hv9 hc9 _ => ?_⟩⟩
    have hx9 : Ext w5 w9 := Ext.of_chg hx8 hc9 (Nat.le_refl _)
    refine ⟨_, hv9.rd (OpM.c_length _), (script_show (ho.ext hx9) hvi.1 (by omega) (by omega) (ht.ext (Ext.trans hX5 hx9))).use ?_⟩
    rintro _ w11 ⟨rfl, hx11⟩
    have hX11 := Ext.trans hX5 (Ext.trans hx9 hx11)
    refine ⟨_, rfl, fun hb => ⟨hX11, fun h1 => by omega, fun _ _ => rfl, fun _ h2 => ?_⟩, fun hb => ?_⟩
    · rw [nilBA, S_beq] at hb
      exact absurd (eq_of_beq hb) (h2 _ (List.getElem_mem hlt))
    · rw [nilBA, S_beq] at hb
      have hb : showO Y[i] ≠ [] := ne_of_beq_false hb
      have hsl := showO_len Y[i]
      have htl := textOf_len (Y.take i)
      rw [List.length_take, Nat.min_eq_left hi] at htl
      have htl2 : i * 4201 ≤ 1000 * 4201 := Nat.mul_le_mul_right _ (by omega)
      rw [e10, S_append, S_size, S_size]
      have hB11 : BldF w w11 w.heap.size (textOf (Y.take i)) := by
        obtain ⟨b1, b2, p, s, b3, b4, b5, b6⟩ := hB
        exact ⟨hX11, b2, p, s, b3, b4.ext (Ext.trans hx9 hx11), b5.ext (Ext.trans hx9 hx11), b6⟩
      refine ⟨by simp only [List.length_cons, List.length_nil]; omega, (WriteStringF (showO Y[i] ++ [10]) hB11 (by simp only [List.length_append, List.length_cons, List.length_nil]; omega)).use ?_⟩
      rintro _ w14 ⟨rfl, hB14⟩
      have ew : IntKind.wrap .i64 ((i : Int) + 1) = ((i + 1 : Nat) : Int) := by rw [wrapi (by omega) (by omega)]; rfl
      have hms : ((Y.length : Int) - ((i + 1 : Nat) : Int)).toNat < ((Y.length : Int) - (i : Int)).toNat := by omega
      rw [ew]
      refine ⟨_, _, rfl, ⟨i + 1, rfl, hlt, ?_, fun h => by omega, fun y hy => ?_⟩, hms⟩
      · rw [List.take_succ_eq_append_getElem hlt, textOf_snoc]; exact hB14
      · rw [List.take_succ_eq_append_getElem hlt] at hy
        rcases List.mem_append.1 hy with hy | hy
        · exact hne y hy
        · rw [List.mem_singleton.1 hy]; exact hb
  · have hi' : i = Y.length := by have := of_decide_eq_false hge; omega
    have fin : Ret Tryz.prog F.strings_Builder_String #[.pointer (some ⟨w.heap.size, 0, none⟩)] w5 (fun v w' => v = .string (S (textOf (Y.take i))) ∧ Ext w w') := by
      by_cases h0 : i = 0
      · have := BStringNew (hB0 h0) hX5
        rw [h0, List.take_zero]
        exact this
      · have hpos : textOf (Y.take i) ≠ [] := by
          obtain ⟨j, rfl⟩ : ∃ j, i = j + 1 := ⟨i - 1, by omega⟩
          rw [List.take_succ_eq_append_getElem (by omega), textOf_snoc]
          simp
        have htl := textOf_len (Y.take i)
        rw [List.length_take, Nat.min_eq_left hi] at htl
        have htl2 : i * 4201 ≤ 1000 * 4201 := Nat.mul_le_mul_right _ (by omega)
        exact BString (hB.used hpos) hpos (by omega)
    refine fin.use ?_
    rintro _ w18 ⟨rfl, hx18⟩
    rw [hi', List.take_length] at hne ⊢
    refine ⟨_, rfl, hx18, fun h1 => by omega, fun _ ⟨y, hy, h2⟩ => absurd h2 (hne y hy), fun _ _ => rfl⟩

end Go.Proofs.YtgljoledlhmhnaaGreatDoor


namespace Go.Proofs.YtgljoledlhmhnaaGreatDoor
open Go Gx
variable {w w' : World}

theorem Count1 (l : List UInt8) (c : UInt8) (w : World) : Ret Tryz.prog F.strings_Count #[.string (S l), .string (S [c])] w (fun v w' => v = .int .i64 ((l.count c : Nat) : Int) ∧ w = w') := by
  refine W.strings_Count_ok (S l) (S [c]) w _ ?_
  unfold W.strings_Count
  exact ⟨fun h => (by have h : false = true := h; cases h), fun _ => ⟨fun _ => ⟨by decide, c, rfl, _, w, CountString l c w, rfl, rfl⟩, fun h => (by have h : true = false := h; cases h)⟩⟩

/-- What Read tells. -/
def RdR (l : List UInt8) (w' : World) (s : Sl) (n e : Int) : Prop :=
  (∃ (O : List OpM) (Y : List Stp) (ls : List (List UInt8)), OpsL w' s O Y ∧ n = 0 ∧ e = 0 ∧ splitB 10 l = ls ++ [[]] ∧ ls.length = Y.length ∧ ∀ (i : Nat) (h1 : i < ls.length) (h2 : i < Y.length), LnOf ls[i] Y[i]) ∨
  (s = ⟨none, 0, 0⟩ ∧ e = 4 ∧ ∃ (ls : List (List UInt8)) (x : List UInt8) (rest : List (List UInt8)), splitB 10 l = ls ++ x :: rest ∧ n = (ls.length : Int) + 1 ∧ (∀ a ∈ ls, okL a) ∧ (¬ okL x ∨ rest = []) ∧ ¬ (x = [] ∧ rest = []))
theorem cut_split {c : UInt8} {r : List UInt8} (h : (cutB c r).2.2 = true) : splitB c r = (cutB c r).1 :: splitB c (cutB c r).2.1 ∧ (cutB c r).2.1.length < r.length := by
  unfold cutB at h ⊢
  cases hi : idxB c r with
  | none => rw [hi] at h; cases h
  | some i =>
    have := idxB_lt hi
    refine ⟨splitB_some hi, ?_⟩
    simp only [List.length_drop]; omega
theorem cut_whole {c : UInt8} {r : List UInt8} (h : (cutB c r).2.2 = false) : splitB c r = [r] ∧ (cutB c r).1 = r := by
  unfold cutB at h ⊢
  cases hi : idxB c r with
  | none => exact ⟨splitB_none hi, rfl⟩
  | some i => rw [hi] at h; cases h
theorem split_nil (c : UInt8) : splitB c [] = [[]] := rfl

theorem script_Read (l : List UInt8) (hl : l.length ≤ 1000000) (hw : ∀ x ∈ splitB 10 l, x.length ≤ 10000) (w : World) (ht : ScT w) : Ret Tryz.prog F.script_Read #[.string (S l)] w (fun v w' => ∃ (s : Sl) (n e : Int), v = .tuple #[.slice s.a s.len s.cap, .int .i64 n, .int .i64 e] ∧ Ext w w' ∧
    (1000 < l.count 10 → s = ⟨none, 0, 0⟩ ∧ n = 0 ∧ e = 10) ∧ (l.count 10 ≤ 1000 → RdR l w' s n e)) := by
  refine W.script_Read_ok (S l) w _ ?_
  unfold W.script_Read
  rw [S_size, e10]
  have hcnt : l.count 10 ≤ l.length := List.count_le_length
  refine Jn1 (fun b w' => b = decide (1000 < l.count 10) ∧ w = w') (fun q hq => ⟨fun h => ?_, fun _ => (Count1 l 10 w).use ?_⟩) ?_
  · have := of_decide_eq_true h; omega
  · rintro _ _ ⟨rfl, rfl⟩
    refine ⟨_, rfl, hq _ _ ⟨?_, rfl⟩⟩
    rw [Bool.eq_iff_iff, decide_eq_true_eq, decide_eq_true_eq]; omega
  rintro _ _ ⟨rfl, rfl⟩
  refine ⟨fun h => ⟨⟨none, 0, 0⟩, 0, 10, rfl, .refl _ _, fun _ => ⟨rfl, rfl, rfl⟩, fun h2 => ?_⟩, fun h => ?_⟩
  · have := of_decide_eq_true h; omega
  have h1000 := of_decide_eq_false h
  refine ⟨fun s9 s10 n w' => ∃ (r : List UInt8) (ls : List (List UInt8)) (O : List OpM) (Y : List Stp), s9 = S r ∧ splitB 10 l = ls ++ splitB 10 r ∧ r.length ≤ l.length ∧ n = (ls.length : Int) + 1 ∧ OpsL w' s10 O Y ∧ ls.length = Y.length ∧ (∀ (i : Nat) (h1 : i < ls.length) (h2 : i < Y.length), LnOf ls[i] Y[i]) ∧ Ext w w' ∧ ∀ q, ownB s10 q → w.heap.size ≤ q,
    fun s9 _ _ _ => s9.size, ⟨l, [], [], [], rfl, rfl, Nat.le_refl _, rfl, OpsL.nil w, rfl, fun i h => by simp at h, .refl _ _, fun q hq => (ownB_none q hq).elim⟩, ?_⟩
  rintro _ s10 _ w12 ⟨r, ls, O, Y, rfl, hsp, hrl, rfl, hO, hly, hln, hX, hf⟩
  have hslen : ls.length ≤ l.length + 1 := by
    have := split_count 10 l
    rw [hsp, List.length_append] at this
    omega
  have hcl : (splitB 10 l).length = l.count 10 + 1 := splitB_length 10 l
  have hls : ls.length ≤ 1001 := by rw [hsp, List.length_append] at hcl; omega
  rw [nilBA, S_beq]
  refine ⟨fun hne => ?_, fun heq => ?_⟩
  · have hne : r ≠ [] := by simpa using hne
    refine (Cut1 r 10 (by omega) w12).use ?_
    rintro _ w13 ⟨rfl, hx13⟩
    have hxin : (cutB 10 r).1 ∈ splitB 10 l := by
      rw [hsp]
      refine List.mem_append_right _ ?_
      cases hc : (cutB 10 r).2.2 with
      | true => rw [(cut_split hc).1]; simp
      | false => obtain ⟨e1, e2⟩ := cut_whole hc; rw [e1, e2]; simp
    have hX13 := Ext.trans hX hx13
    refine ⟨_, _, _, rfl, (script_parse (cutB 10 r).1 (hw _ hxin) w13 (ht.ext hX13)).use ?_⟩
    rintro _ w18 ⟨o, ok, rfl, hx18, hR, hfr⟩
    obtain ⟨y, hy, hy1, hy2⟩ := hR.is
    refine ⟨_, _, rfl, nxVar (vs := opZ.c) (by kernel_rfl) fun w22 hz hx22 hs22 => ⟨hz.storeOk (by simp [OpM.c_length]) (by simpa using o.plain), by simp [OpM.c_length], nxPut hz (us := o.c) (by simp [OpM.c_length]) (by simp) fun w23 hv23 hc23 _ => ?_⟩⟩
    have hx23 : Ext w18 w23 := Ext.of_chg hx22 hc23 (Nat.le_refl _)
    have hX1223 := Ext.trans hx13 (Ext.trans hx18 hx23)
    have hX23 := Ext.trans hX hX1223
    refine ⟨fun hb => ⟨⟨none, 0, 0⟩, _, 4, rfl, hX23, fun h2 => by omega, fun _ => .inr ⟨rfl, rfl, ?_⟩⟩, fun hb => ?_⟩
    · have hall : ∀ a ∈ ls, okL a := fun a ha => by
        obtain ⟨i, hi, rfl⟩ := List.mem_iff_getElem.1 ha
        exact (hln i hi (by omega)).ok
      cases hc : (cutB 10 r).2.2 with
      | true =>
        rw [hc] at hb
        have hok : ok = false := by simpa using hb
        refine ⟨ls, (cutB 10 r).1, splitB 10 (cutB 10 r).2.1, by rw [hsp, (cut_split hc).1], rfl, hall, .inl (hy2 hok).1, fun h2 => ?_⟩
        obtain ⟨z, zs, hz2⟩ := split_ne 10 (cutB 10 r).2.1
        rw [hz2] at h2; cases h2.2
      | false =>
        obtain ⟨e1, e2⟩ := cut_whole hc
        exact ⟨ls, r, [], by rw [hsp, e1], rfl, hall, .inr rfl, fun h2 => hne h2.1⟩
    · rw [Bool.or_eq_false_iff, Bool.not_eq_false', Bool.not_eq_false'] at hb
      obtain ⟨hok, hc⟩ := hb
      obtain ⟨e1, e2⟩ := cut_split hc
      have hO23 := hO.ext hX1223
      have hYl : Y.length ≤ 1000000 := by omega
      have hown : ∀ q, ownB s10 q → q < w12.heap.size := fun q hq => hO.own.lt q hq
      obtain ⟨t', wa, wb, g1, g2, g3, g4, g5⟩ := hO23.push (hy.ext hx23) (fun q hq hq2 => by
        have h1 := hown q hq2
        have h2 := hx13.size
        rcases hq with hq | hq
        · have := hfr.1 q hq; omega
        · have := hfr.2 q hq; omega) hYl
      refine ⟨_, hv23.rd (OpM.c_length _), ⟨some ⟨w23.heap.size, 0, none⟩, 1, 1⟩, wa, g1, t', wb, g2, ?_⟩
      have ew : IntKind.wrap .i64 ((ls.length : Int) + 1 + 1) = ((ls ++ [(cutB 10 r).1]).length : Int) + 1 := by rw [wrapi (by omega) (by omega), List.length_append, List.length_singleton]; omega
      rw [ew]
      refine ⟨⟨(cutB 10 r).2.1, ls ++ [(cutB 10 r).1], _, _, rfl, ?_, by omega, rfl, g3, by simp [hly], fun i h1 h2 => ?_, Ext.of_new hX23 g4 hf, fun q hq => ?_⟩, by show (cutB 10 r).2.1.length < r.length; exact e2⟩
      · rw [hsp, e1, List.append_assoc]; rfl
      · by_cases hi : i < ls.length
        · rw [List.getElem_append_left hi, List.getElem_append_left (by omega)]
          exact hln i hi (by omega)
        · have hi' : i = ls.length := by simp at h1; omega
          subst hi'
          have e3 : (ls ++ [(cutB 10 r).1])[ls.length] = (cutB 10 r).1 := by simp
          have e4 : (Y ++ [y])[ls.length]'h2 = y := by
            rw [List.getElem_append_right (by omega)]
            simp [hly]
          rw [e3, e4]
          exact hy1 hok
      · rcases g5 q hq with h1 | h1
        · exact hf q h1
        · have := hX23.size; omega
  · have heq : r = [] := by simpa using heq
    subst heq
    exact ⟨s10, 0, 0, rfl, hX, fun h2 => by omega, fun _ => .inl ⟨O, Y, ls, hO, rfl, rfl, by rw [hsp, split_nil], hly, hln⟩⟩

end Go.Proofs.YtgljoledlhmhnaaGreatDoor


namespace Go.Proofs.YtgljoledlhmhnaaGreatDoor
open Go Gx
variable {w w' : World}

/-- The first line that is none is one and the same. -/
theorem first_bad {A B : List (List UInt8)} {x y : List UInt8} {r s : List (List UInt8)} (h : A ++ x :: r = B ++ y :: s) (hA : ∀ a ∈ A, okL a) (hB : ∀ a ∈ B, okL a) (hx : ¬ okL x ∨ r = []) (hy : ¬ okL y ∨ s = []) : A.length = B.length := by
  rcases Nat.lt_trichotomy A.length B.length with hlt | heq | hgt
  · exfalso
    have e1 : (B ++ y :: s)[A.length]? = some x := by rw [← h]; simp
    rw [List.getElem?_append_left hlt] at e1
    have e2 := hB x (List.mem_of_getElem? e1)
    rcases hx with hx | rfl
    · exact hx e2
    · have := congrArg List.length h
      simp at this; omega
  · exact heq
  · exfalso
    have e1 : (A ++ x :: r)[B.length]? = some y := by rw [h]; simp
    rw [List.getElem?_append_left hgt] at e1
    have e2 := hA y (List.mem_of_getElem? e1)
    rcases hy with hy | rfl
    · exact hy e2
    · have := congrArg List.length h
      simp at this; omega
end Go.Proofs.YtgljoledlhmhnaaGreatDoor


namespace Go.Proofs.YtgljoledlhmhnaaGreatDoor
open Go Gx
variable {w w' : World}

/-- Steps that came in. -/
structure OpsIn (w : World) (t : Sl) (O : List OpM) (Y : List Stp) : Prop where
  src : Src 51 w t (opsC O)
  cap : t.len ≤ t.cap
  len : O.length = Y.length
  is : ∀ (i : Nat) (h1 : i < O.length) (h2 : i < Y.length), ∃ bs, OpIn w O[i] Y[i] bs
theorem OpsIn.ext {t : Sl} {O : List OpM} {Y : List Stp} (h : OpsIn w t O Y) (hx : Ext w w') : OpsIn w' t O Y := ⟨h.src.ext hx, h.cap, h.len, fun i h1 h2 => let ⟨bs, hb⟩ := h.is i h1 h2; ⟨bs, hb.ext hx⟩⟩
theorem pick {α β : Type} {R : α → β → Prop} : ∀ {l : List α}, (∀ x ∈ l, ∃ y, R x y) → ∃ m : List β, l.length = m.length ∧ ∀ (i : Nat) (h1 : i < l.length) (h2 : i < m.length), R l[i] m[i]
  | [], _ => ⟨[], rfl, fun i h => by simp at h⟩
  | x :: l, h => by
    obtain ⟨y, hy⟩ := h x (by simp)
    obtain ⟨m, h1, h2⟩ := pick (l := l) (fun z hz => h z (by simp [hz]))
    refine ⟨y :: m, by simp [h1], fun i h3 h4 => ?_⟩
    cases i with
    | zero => exact hy
    | succ i => exact h2 i (by simpa using h3) (by simpa using h4)
set_option maxRecDepth 100000 in
theorem OpsIn.of {v : Value} (h : OkV Tryz.prog w Ty.Sl_api_Op v) : ∃ (t : Sl) (O : List OpM) (Y : List Stp), v = .slice t.a t.len t.cap ∧ OpsIn w t O Y := by
  obtain ⟨t, rfl, ht⟩ := SliceAt.of h (e := Ty.api_Op) (by kernel_rfl)
  obtain ⟨O, h1, _, h2⟩ := ht.src (c := OpM.c) (sz := 51) (by kernel_rfl) (fun o => ∃ (a : Stp), ∃ bs, OpIn w o a bs) fun fuel vs hvs => by
    obtain ⟨o, a, bs, e, h⟩ := op_of hvs
    exact ⟨o, e, a, bs, h⟩
  obtain ⟨Y, h3, h4⟩ := pick h2
  exact ⟨t, O, Y, rfl, h1, ht.le, h3, fun i g1 g2 => h4 i g1 g2⟩

theorem hexB_no10 (l : List UInt8) : (10 : UInt8) ∉ hexB l := hexB_no (.inr rfl) l
theorem num_no10 (n : Nat) : (10 : UInt8) ∉ numB 10 n := numB_no (by decide) _ (.inr (.inr (.inr (.inr (.inr rfl)))))
theorem numI_no10 (n : Int) : (10 : UInt8) ∉ numI n := by
  unfold numI
  split
  · intro h
    rcases List.mem_cons.1 h with h | h
    · exact absurd h (by decide)
    · exact num_no10 _ h
  · exact num_no10 _
theorem showA_no10 (a : Ad) : (10 : UInt8) ∉ showA a := by
  unfold showA
  split
  · split
    · intro h
      rcases mem_joinB h with h | ⟨l, hl, h⟩
      · exact absurd h (by decide)
      · obtain ⟨i, _, rfl⟩ := List.mem_map.1 hl
        exact numB_no (by decide) _ (.inr (.inr (.inr (.inr (.inr rfl))))) h
    · intro h
      rcases mem_joinB h with h | ⟨l, hl, h⟩
      · exact absurd h (by decide)
      · obtain ⟨c, _, rfl⟩ := List.mem_map.1 hl
        exact numB_no (by decide) _ (.inr (.inr (.inr (.inr (.inr rfl))))) h
  · intro h; cases h
theorem args_no10 (a : Stp) : ∀ l ∈ argsOf a, (10 : UInt8) ∉ l := by
  intro l hl
  unfold argsOf at hl
  have n0 := num_no10; have nI := numI_no10; have sA := showA_no10; have hx := hexB_no10
  have ho : ∀ b, (10 : UInt8) ∉ onW b := fun b => by cases b <;> decide
  split at hl
  · simp only [List.mem_cons, List.not_mem_nil, or_false] at hl; subst hl; exact hx _
  split at hl
  · simp only [List.mem_cons, List.not_mem_nil, or_false] at hl; subst hl; exact n0 _
  split at hl
  · simp only [List.mem_cons, List.not_mem_nil, or_false] at hl
    rcases hl with rfl | rfl | rfl | rfl | rfl | rfl
    · exact nI _
    · exact sA _
    · exact n0 _
    · exact n0 _
    · exact nI _
    · exact n0 _
  split at hl
  · simp only [List.mem_cons, List.not_mem_nil, or_false] at hl; subst hl; exact nI _
  split at hl
  · simp only [List.mem_cons, List.not_mem_nil, or_false] at hl
    rcases hl with rfl | rfl | rfl | rfl | rfl
    · exact nI _
    · exact nI _
    · exact sA _
    · exact n0 _
    · exact nI _
  split at hl
  · simp only [List.mem_cons, List.not_mem_nil, or_false] at hl; rcases hl with rfl | rfl <;> exact nI _
  split at hl
  · simp only [List.mem_cons, List.not_mem_nil, or_false] at hl
    rcases hl with rfl | rfl | rfl
    · exact nI _
    · exact nI _
    · exact ho _
  split at hl
  · simp only [List.mem_cons, List.not_mem_nil, or_false] at hl
    rcases hl with rfl | rfl | rfl
    · exact nI _
    · exact nI _
    · exact n0 _
  split at hl
  · obtain ⟨n, _, rfl⟩ := List.mem_map.1 hl; exact nI _
  · cases hl
theorem showO_no10 (a : Stp) : (10 : UInt8) ∉ showO a := by
  unfold showO
  split
  · rename_i h
    intro hm
    unfold lineOf at hm
    rcases mem_joinB hm with hm | ⟨l, hl, hm⟩
    · exact absurd hm (by decide)
    · rcases List.mem_cons.1 hl with rfl | hl
      · exact (kw_no32 _ (kw_mem h.1.lo h.1.hi)).2.1 hm
      · exact args_no10 a l hl hm
  · simp
theorem split_text : ∀ Y : List Stp, splitB 10 (textOf Y) = Y.map showO ++ [[]]
  | [] => rfl
  | y :: Y => by
    have e : textOf (y :: Y) = showO y ++ 10 :: textOf Y := by simp [textOf]
    rw [e, split_app _ (showO_no10 y), split_text Y]; rfl
theorem count_text : ∀ Y : List Stp, (textOf Y).count 10 = Y.length
  | [] => rfl
  | y :: Y => by
    have e : textOf (y :: Y) = showO y ++ 10 :: textOf Y := by simp [textOf]
    rw [e, List.count_append, List.count_eq_zero.2 (showO_no10 y), List.count_cons, count_text Y]
    simp
/-- What was printed is read back. -/
theorem read_text {Y : List Stp} {s : Sl} {n e : Int} (hR : RdR (textOf Y) w s n e) (hv : ∀ y ∈ Y, Vd y ∧ showO y ≠ []) : n = 0 ∧ e = 0 ∧ ∃ O, OpsL w s O Y := by
  have hsp := split_text Y
  rcases hR with ⟨O, Z, ls, hO, hn, he, hsp', hly, hln⟩ | ⟨_, _, ls, x, rest, hsp', _, hok, hx, hne⟩
  · have hls : ls = Y.map showO := by
      have h1 := hsp'.symm.trans hsp
      exact (List.append_inj' h1 rfl).1
    subst hls
    have hlen : Z.length = Y.length := by rw [← hly, List.length_map]
    have : Z = Y := by
      refine List.ext_getElem hlen fun i h1 h2 => ?_
      have h3 := hln i (by simp [h2]) h1
      have h4 := hv _ (List.getElem_mem h2)
      exact h3.one _ h4.1 (by rw [List.getElem_map])
    rw [this] at hO
    exact ⟨hn, he, O, hO⟩
  · exfalso
    have hok2 : ∀ a ∈ Y.map showO, okL a := fun a ha => by
      obtain ⟨y, hy, rfl⟩ := List.mem_map.1 ha
      exact ⟨y, (hv y hy).1, rfl, (hv y hy).2⟩
    have hb := first_bad (hsp.symm.trans hsp') hok2 hok (.inr rfl) hx
    rw [hsp] at hsp'
    obtain ⟨e1, e2⟩ := List.cons.inj (List.append_inj_right hsp' hb)
    exact hne ⟨e1.symm, e2.symm⟩
theorem buildOp0 (w : World) : Sem.run Tryz.prog (Instr.buildSlice Ty.Sl_api_Op 0 #[]) w = .ok (.slice (some ⟨w.heap.size, 0, none⟩) 0 0) (w.alloc (.cells #[] Ty.api_Op)) := by kernel_rfl
theorem OpsL.new (w : World) : OpsL (w.alloc (.cells #[] Ty.api_Op)) ⟨some ⟨w.heap.size, 0, none⟩, 0, 0⟩ [] [] := ⟨OwnS.new w [] 0 rfl (by decide), rfl, fun i h => by simp at h, fun o h => by cases h⟩

theorem law_ScriptPrints {t0 : Sl} {O0 : List OpM} {Y0 : List Stp} (h0 : OpsIn w t0 O0 Y0) (ht : ScT w) : Ret Tryz.prog F.law29_ScriptPrints #[.slice t0.a t0.len t0.cap] w (fun v w' => v = .bool true ∧ Ext w w') := by
  refine W.law29_ScriptPrints_ok t0 w _ ?_
  unfold W.law29_ScriptPrints
  have hl0 : t0.len = Y0.length := by have := h0.src.len; rw [opsC_length] at this; have := h0.len; omega
  refine Jn1 (fun s w' => w = w' ∧ OpsIn w s (O0.take 20) (Y0.take 20)) (fun q hq => ⟨fun h => ?_, fun h => ?_⟩) ?_
  · have h := of_decide_eq_true h
    have hc := h0.cap
    refine ⟨⟨by decide, by omega⟩, hq _ _ ⟨rfl, ?_, ?_, by simp [h0.len], fun i g1 g2 => ?_⟩⟩
    · rw [cut0']
      have := src_take (n := 20) h0.src (by omega) (by rw [opsC_length, h0.len, hl0])
      have e : (opsC O0).take (20 * 51) = opsC (O0.take 20) := by
        have h1 := opsC_app (O0.take 20) (O0.drop 20)
        rw [List.take_append_drop] at h1
        rw [h1, List.take_left' (by rw [opsC_length, List.length_take, Nat.min_eq_left (by have := h0.len; omega)])]
      rw [e] at this
      exact this
    · show 20 - 0 ≤ t0.cap - 0; omega
    · have := h0.is i (by simp at g1; omega) (by simp at g2; omega)
      simpa using this
  · have h := of_decide_eq_false h
    rw [List.take_of_length_le (by have := h0.len; omega), List.take_of_length_le (by omega)] at hq
    exact hq _ _ ⟨rfl, h0⟩
  rintro t _ ⟨rfl, hI⟩
  obtain ⟨O, hOe⟩ : ∃ O, O = O0.take 20 := ⟨_, rfl⟩
  obtain ⟨Y, hYe⟩ : ∃ Y, Y = Y0.take 20 := ⟨_, rfl⟩
  rw [← hOe, ← hYe] at hI
  have hY20 : Y.length ≤ 20 := by rw [hYe, List.length_take]; omega
  have hOY := hI.len
  have htl : t.len = Y.length := by have := hI.src.len; rw [opsC_length] at this; omega
  have hxn : Ext w (w.alloc (.cells #[] Ty.api_Op)) := Chg.alloc (.refl _ _) _
  refine ⟨⟨some ⟨w.heap.size, 0, none⟩, 0, 0⟩, _, buildOp0 w, fun s b o n w' => ∃ (i : Nat) (P : List OpM), n = i ∧ i ≤ Y.length ∧ s = S (textOf ((Y.take i).map fewS)) ∧ b = ((Y.take i).map fewS).any (fun y => decide (showO y = [])) ∧ OpsL w' o P ((Y.take i).map fewS) ∧ Ext w w' ∧ ∀ q, ownB o q → w.heap.size ≤ q,
    fun _ _ _ n _ => ((Y.length : Int) - n).toNat, ⟨0, [], rfl, Nat.zero_le _, rfl, rfl, OpsL.new w, hxn, fun q hq => by rw [ownB_some] at hq; exact Nat.le_of_eq hq⟩, ?_⟩
  rintro _ _ o _ w12 ⟨i, P, rfl, hi, rfl, rfl, hO, hX, hf⟩
  refine ⟨fun hlt => ?_, fun hge => ?_⟩
  · have hlt : i < Y.length := by have := of_decide_eq_true hlt; omega
    obtain ⟨A, hA, hbd, hrd⟩ := OpM.get (hI.ext hX).src (i := i) (by omega)
    obtain ⟨bs, hbs⟩ := (hI.ext hX).is i (by omega) hlt
    refine ⟨A, hA, hbd, _, hrd, (law29_Few hbs).use ?_⟩
    rintro _ w15 ⟨p, bs1, rfl, hp, hx15, hfr, hfk⟩
    have hO15 := hO.ext hx15
    have hPl : ((Y.take i).map fewS).length ≤ 1000000 := by simp; omega
    obtain ⟨o', wa, wb, g1, g2, g3, g4, g5⟩ := hO15.push hp.is (fun q hq hq2 => by
      have h1 := hO.own.lt q hq2
      rcases hq with hq | hq
      · have := hfr.1 q hq; omega
      · have := hfr.2 q hq; omega) hPl
    have hX15 := Ext.trans hX hx15
    have hXb : Ext w wb := Ext.of_new hX15 g4 hf
    refine ⟨_, rfl, ⟨some ⟨w15.heap.size, 0, none⟩, 1, 1⟩, wa, g1, o', wb, g2, A, hA, hbd, ?_⟩
    obtain ⟨A2, hA2, _, hrd2⟩ := OpM.get (hI.ext hXb).src (i := i) (by omega)
    obtain rfl : A = A2 := by rw [hA] at hA2; exact Option.some.inj hA2
    obtain ⟨bs', hbs'⟩ := (hI.ext hXb).is i (by omega) hlt
    refine ⟨_, hrd2, (law29_Few hbs').use ?_⟩
    rintro _ w24 ⟨p2, bs2, rfl, hp2, hx24, _, _⟩
    have hfl := fewS_len Y[i]
    refine ⟨_, rfl, (ref29_Show hp2.is hp2.vd (by omega) (by omega)).use ?_⟩
    rintro _ w27 ⟨rfl, hx27⟩
    have hXbw : Ext wb w27 := Ext.trans hx24 hx27
    have hsl := showO_len (fewS Y[i])
    have htx := textOf_len ((Y.take i).map fewS)
    rw [List.length_map, List.length_take, Nat.min_eq_left hi] at htx
    have htx2 : i * 4201 ≤ 20 * 4201 := Nat.mul_le_mul_right _ (by omega)
    have ew : IntKind.wrap .i64 ((i : Int) + 1) = ((i + 1 : Nat) : Int) := by rw [wrapi (by omega) (by omega)]; rfl
    have hms : ((Y.length : Int) - ((i + 1 : Nat) : Int)).toNat < ((Y.length : Int) - (i : Int)).toNat := by omega
    rw [ew, e10, nilBA]
    have etk : (Y.take (i + 1)).map fewS = (Y.take i).map fewS ++ [fewS Y[i]] := by rw [List.take_succ_eq_append_getElem hlt, List.map_append]; rfl
    refine ⟨_, rfl, by rw [S_size, S_size]; omega, by rw [S_append, S_size, S_size]; simp only [List.length_append, List.length_cons, List.length_nil]; omega, ⟨i + 1, P ++ [p], rfl, hlt, ?_, ?_, ?_, Ext.trans hXb hXbw, fun q hq => ?_⟩, hms⟩
    · rw [S_append, S_append, etk, textOf_snoc, List.append_assoc]
    · have e1 : (showO (fewS Y[i]) == []) = decide (showO (fewS Y[i]) = []) := by rw [Bool.eq_iff_iff, beq_iff_eq, decide_eq_true_eq]
      rw [etk, List.any_append, S_beq, e1, List.any_cons, List.any_nil, Bool.or_false]
    · rw [etk]; exact g3.ext hXbw
    · rcases g5 q hq with h1 | h1
      · exact hf q h1
      · have := hX15.size; omega
  · have hi' : i = Y.length := by have := of_decide_eq_false hge; omega
    rw [hi', List.take_length] at hO ⊢
    obtain ⟨Z, hZ⟩ : ∃ Z, Z = Y.map fewS := ⟨_, rfl⟩
    rw [← hZ] at hO ⊢
    have hZl : Z.length = Y.length := by rw [hZ, List.length_map]
    have hZv : ∀ y ∈ Z, Vd y ∧ y.data.length ≤ 1000000 ∧ y.li.length ≤ 1000000 := fun y hy => by
      rw [hZ] at hy
      obtain ⟨x, hx, rfl⟩ := List.mem_map.1 hy
      obtain ⟨j, hj, rfl⟩ := List.mem_iff_getElem.1 hx
      obtain ⟨bs, hbs⟩ := hI.is j (by omega) hj
      have hfl := fewS_len Y[j]
      have hv := hbs.vd
      refine ⟨⟨hv.id, hv.bid, hv.n, hv.sid, hv.sport, hv.sproto, hv.sbits, hv.slasts, hv.tid, hv.tport, hv.tweight, fun n hn => hv.li n (List.mem_of_mem_take hn)⟩, by omega, by omega⟩
    refine (script_Print hO hZv (ht.ext hX)).use ?_
    rintro v w30 ⟨hx30, _, hP1, hP2⟩
    have hX30 := Ext.trans hX hx30
    cases hb : Z.any (fun y => decide (showO y = [])) with
    | true =>
      obtain ⟨y, hy, hy2⟩ := List.any_eq_true.1 hb
      have hv := hP1 (by omega) ⟨y, hy, of_decide_eq_true hy2⟩
      subst hv
      refine ⟨_, _, rfl, fun _ => ?_, fun h => (by cases h)⟩
      refine Jn1 (fun b w' => b = true ∧ Ext w w') (fun q3 hq3 => lives_end (Q := fun _ _ => True) hX30 (ht.ext hX30) (fun _ _ => trivial) (by rw [nilBA, S_beq]; rfl) (fun w' hx => hq3 _ _ ⟨rfl, hx⟩)) ?_
      rintro _ w39 ⟨rfl, hX39⟩
      exact ⟨rfl, hX39⟩
    | false =>
      have hall : ∀ y ∈ Z, showO y ≠ [] := fun y hy e => by
        have := List.any_eq_false.1 hb y hy
        simp [e] at this
      have hv := hP2 (by omega) hall
      subst hv
      refine ⟨_, _, rfl, fun h => (by cases h), fun _ => ?_⟩
      have htx := textOf_len Z
      have htx2 : Z.length * 4201 ≤ 20 * 4201 := Nat.mul_le_mul_right _ (by omega)
      refine (script_Read (textOf Z) (by omega) (fun x hx => ?_) w30 (ht.ext hX30)).use ?_
      · rw [split_text] at hx
        rcases List.mem_append.1 hx with hx | hx
        · obtain ⟨y, _, rfl⟩ := List.mem_map.1 hx
          have := showO_len y; omega
        · rw [List.mem_singleton.1 hx]; simp
      rintro _ w40 ⟨s42, n43, n44, rfl, hx40, _, hR⟩
      obtain ⟨rfl, rfl, O2, hO2⟩ := read_text (hR (by rw [count_text]; omega)) (fun y hy => ⟨(hZv y hy).1, hall y hy⟩)
      have hX40 := Ext.trans hX30 hx40
      have hs42 := hO2.slen
      refine ⟨s42, 0, 0, rfl, fun h => ?_, fun _ => ?_⟩
      · exfalso
        rw [S_beq, hs42, htl, hZl] at h
        simp at h
      have hO40 := (hO.ext hx30).ext hx40
      refine ⟨fun n w' => ∃ j : Nat, n = j ∧ j ≤ Z.length ∧ Ext w40 w', fun n _ => ((Z.length : Int) - n).toNat, ⟨0, rfl, Nat.zero_le _, .refl _ _⟩, ?_⟩
      rintro _ w48 ⟨j, rfl, hj, hx48⟩
      refine ⟨fun hlt => nx ?_, fun _ => ?_⟩
      · have hlt : j < Z.length := by have := of_decide_eq_true hlt; omega
        have hd : Ext w48 w48.drew := Chg.drew (.refl _ _)
        have hx49 := Ext.trans hx48 hd
        obtain ⟨A, hA, hbd, o1, hr1, ho1⟩ := (hO2.ext hx49).get hlt
        obtain ⟨B, hB, hbd2, o2, hr2, ho2⟩ := (hO40.ext hx49).get hlt
        have hzl := (hZv _ (List.getElem_mem hlt)).2.2
        refine ⟨A, hA, hbd, id, _, hr1, B, hB, hbd2, id, _, hr2, (ref29_Same ho1 ho2 (by omega)).use ?_⟩
        rintro _ w54 ⟨rfl, hx54⟩
        have ew : IntKind.wrap .i64 ((j : Int) + 1) = ((j + 1 : Nat) : Int) := by rw [wrapi (by omega) (by omega)]; rfl
        have hms : ((Z.length : Int) - ((j + 1 : Nat) : Int)).toNat < ((Z.length : Int) - (j : Int)).toNat := by omega
        rw [ew]
        exact ⟨_, rfl, fun h => by simp at h, fun _ => ⟨⟨j + 1, rfl, hlt, Ext.trans hx49 hx54⟩, hms⟩⟩
      · have hX48 := Ext.trans hX40 hx48
        refine (lives29 w48 (ht.ext hX48)).use ?_
        rintro _ w57 ⟨rfl, hx57⟩
        exact ⟨_, rfl, rfl, Ext.trans hX48 hx57⟩

end Go.Proofs.YtgljoledlhmhnaaGreatDoor

