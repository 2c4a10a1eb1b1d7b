/- Rules and flows: the judgements of one rule, the program's and the reference's. -/
import Derived.Test.YtcjpgabpihkcjaaGreatDoorAddrM
namespace Go.Proofs.YtcjpgabpihkcjaaGreatDoor
open Go Gx

theorem jnAnd {BODY : (Bool → World → Prop) → Prop} {rest : Bool → World → Prop} {w0 : World} {b : Bool} (c : Bool) (h1 : b = true → ∀ k : Bool → World → Prop, (∀ w', Ext w0 w' → k c w') → BODY k) (h2 : ∀ w', Ext w0 w' → rest (b && c) w') :
    Jn (fun k => (b = true → BODY k) ∧ (b = false → k false w0)) rest :=
  ⟨fun h => h1 h rest (fun w' hx => by have := h2 w' hx; rwa [h, Bool.true_and] at this), fun h => by have := h2 w0 (.refl _ _); rwa [h, Bool.false_and] at this⟩
theorem jnOr {BODY : (Bool → World → Prop) → Prop} {rest : Bool → World → Prop} {w0 : World} {b : Bool} (c : Bool) (h1 : b = false → ∀ k : Bool → World → Prop, (∀ w', Ext w0 w' → k c w') → BODY k) (h2 : ∀ w', Ext w0 w' → rest (b || c) w') :
    Jn (fun k => (b = true → k true w0) ∧ (b = false → BODY k)) rest :=
  ⟨fun h => by have := h2 w0 (.refl _ _); rwa [h, Bool.true_or] at this, fun h => h1 h rest (fun w' hx => by have := h2 w' hx; rwa [h, Bool.false_or] at this)⟩

structure Ru where
  src : Pf
  dst : Pf
  proto : Int
  low : Int
  high : Int
  allow : Bool
  deriving DecidableEq
def Ru.c (r : Ru) : List Value := r.src.c ++ (r.dst.c ++ [.int .u8 r.proto, .int .u16 r.low, .int .u16 r.high, .bool r.allow])
structure Fl where
  src : Ad
  dst : Ad
  sp : Int
  dp : Int
  proto : Int
def Fl.c (f : Fl) : List Value := f.src.c ++ (f.dst.c ++ [.int .u16 f.sp, .int .u16 f.dp, .int .u8 f.proto])
theorem Ru.c_length (r : Ru) : r.c.length = 40 := by simp [Ru.c, Pf.c_length]
theorem Fl.c_length (f : Fl) : f.c.length = 37 := by simp [Fl.c, Ad.c_length]
theorem Ru.plain (r : Ru) : ∀ v ∈ r.c, Plain v := by
  intro v hv
  rcases List.mem_append.1 hv with hv | hv
  · exact r.src.plain v hv
  · rcases List.mem_append.1 hv with hv | hv
    · exact r.dst.plain v hv
    · simp only [List.mem_cons, List.not_mem_nil, or_false] at hv
      rcases hv with rfl | rfl | rfl | rfl <;> trivial
variable {w : World} {b : Nat} {T : TypeId} {r : Ru} {f : Fl} {p : Pf}
theorem rcell (h : Var w b r.c T) : w.cell? (Addr.add ⟨b, 0, none⟩ 36) = some (.int .u8 r.proto) ∧ w.cell? (Addr.add ⟨b, 0, none⟩ 37) = some (.int .u16 r.low) ∧ w.cell? (Addr.add ⟨b, 0, none⟩ 38) = some (.int .u16 r.high) ∧ w.cell? (Addr.add ⟨b, 0, none⟩ 39) = some (.bool r.allow) ∧ w.cell? ⟨b, 0, none⟩ = some (.bool r.src.addr.six) ∧ w.cell? (Addr.add ⟨b, 0, none⟩ 18) = some (.bool r.dst.addr.six) := by
  simp only [add_mk, h.cell]
  refine ⟨?_, ?_, ?_, ?_, ?_, ?_⟩ <;> simp [Ru.c, List.getElem?_append, Pf.c_length]
  · simp [Pf.c, Ad.c]
  · simp [Pf.c, Ad.c]
theorem fcell (h : Var w b f.c T) : w.cell? (Addr.add ⟨b, 0, none⟩ 35) = some (.int .u16 f.dp) ∧ w.cell? (Addr.add ⟨b, 0, none⟩ 36) = some (.int .u8 f.proto) := by
  simp only [add_mk, h.cell]
  refine ⟨?_, ?_⟩ <;> simp [Fl.c, List.getElem?_append, Ad.c_length]
theorem pcell (h : Var w b p.c T) : w.cell? (Addr.add ⟨b, 0, none⟩ 17) = some (.int .i64 p.bits) := by
  simp only [add_mk, h.cell]
  simp [Pf.c, List.getElem?_append, Ad.c_length]
theorem prd (h : Var w b p.c T) : rdCells w ⟨b, 0, none⟩ 0 17 = some p.addr.c := by
  rw [h.rdAt (by rw [Pf.c_length]; decide)]
  rw [List.drop_zero, Pf.c, List.take_append_of_le_length (by rw [Ad.c_length]; decide), List.take_of_length_le (by rw [Ad.c_length]; decide)]
theorem rrd1 (h : Var w b r.c T) : rdCells w ⟨b, 0, none⟩ 0 18 = some r.src.c := by
  rw [h.rdAt (by rw [Ru.c_length]; decide)]
  rw [List.drop_zero, Ru.c, List.take_append_of_le_length (by rw [Pf.c_length]; decide), List.take_of_length_le (by rw [Pf.c_length]; decide)]
theorem rrd2 (h : Var w b r.c T) : rdCells w (Addr.add ⟨b, 0, none⟩ 18) 0 18 = some r.dst.c := by
  rw [add_mk, h.rdAt (by rw [Ru.c_length]; decide)]
  rw [Ru.c, List.drop_append_of_le_length (by rw [Pf.c_length]; decide), List.drop_of_length_le (by rw [Pf.c_length]; decide), List.nil_append, List.take_append_of_le_length (by rw [Pf.c_length]; decide), List.take_of_length_le (by rw [Pf.c_length]; decide)]
theorem frd1 (h : Var w b f.c T) : rdCells w ⟨b, 0, none⟩ 0 17 = some f.src.c := by
  rw [h.rdAt (by rw [Fl.c_length]; decide)]
  rw [List.drop_zero, Fl.c, List.take_append_of_le_length (by rw [Ad.c_length]; decide), List.take_of_length_le (by rw [Ad.c_length]; decide)]
theorem frd2 (h : Var w b f.c T) : rdCells w (Addr.add ⟨b, 0, none⟩ 17) 0 17 = some f.dst.c := by
  rw [add_mk, h.rdAt (by rw [Fl.c_length]; decide)]
  rw [Fl.c, List.drop_append_of_le_length (by rw [Ad.c_length]; decide), List.drop_of_length_le (by rw [Ad.c_length]; decide), List.nil_append, List.take_append_of_le_length (by rw [Ad.c_length]; decide), List.take_of_length_le (by rw [Ad.c_length]; decide)]

/-! ### What they judge -/
def inP (a : Ad) (p : Pf) : Bool := decide (maskP a p.bits = some p)
def gP (p : Pf) : Bool := inP p.addr p
def goodR (r : Ru) : Bool := gP r.src && gP r.dst && (r.src.addr.six == r.dst.addr.six) && decide (r.low ≤ r.high)
def prR (r : Ru) (n : Int) : Bool := (r.proto == 0) || (r.proto == n)
def hitsR (r : Ru) (f : Fl) : Bool := goodR r && prR r f.proto && decide (f.dp ≥ r.low) && decide (f.dp ≤ r.high) && inP f.src r.src && inP f.dst r.dst
def withP (p q : Pf) : Bool := decide (p.bits ≥ q.bits) && inP p.addr q
def covR (a b : Ru) : Bool := goodR a && goodR b && prR a b.proto && decide (b.low ≥ a.low) && decide (b.high ≤ a.high) && withP b.src a.src && withP b.dst a.dst

theorem acl_prefix (p : Pf) (w : World) (ht : Tab2 w) : Ret Tryz.prog F.acl_prefix #[.agg p.c.toArray] w (fun v w' => v = .bool (gP p) ∧ Ext w w') := by
  refine W.acl_prefix_ok _ w _ ?_
  unfold W.acl_prefix
  refine nxVar (vs := p.c) rfl fun w1 hp hx1 _ => ⟨_, hp.rd p.c_length, (addr_ShowPrefix p w1 (ht.ext hx1)).use ?_⟩
  rintro _ w3 ⟨rfl, hx3⟩
  refine ⟨_, rfl, ?_, Ext.trans hx1 hx3⟩
  rw [S_toList, nilB]
  congr 1
  unfold gP inP showP
  split
  · rename_i h
    rw [ne_nilB (by simp), decide_eq_true h]; rfl
  · rename_i h
    rw [decide_eq_false h]; rfl

theorem acl_good (r : Ru) (w : World) (ht : Tab2 w) : Ret Tryz.prog F.acl_good #[.agg r.c.toArray] w (fun v w' => v = .bool (goodR r) ∧ Ext w w') := by
  refine W.acl_good_ok _ w _ ?_
  unfold W.acl_good
  refine nxVar (vs := r.c) rfl fun w1 hr hx1 _ => ⟨_, rrd1 hr, (acl_prefix r.src w1 (ht.ext hx1)).use ?_⟩
  rintro _ w3 ⟨rfl, hx3⟩
  have hr3 := hr.ext hx3
  have hX3 := Ext.trans hx1 hx3
  refine ⟨_, rfl, jnAnd (gP r.dst) (fun _ k hk => ⟨_, rrd2 hr3, (acl_prefix r.dst w3 (ht.ext hX3)).use ?_⟩) fun w12 hx12 => ?_⟩
  · rintro _ w8 ⟨rfl, hx8⟩
    exact ⟨_, rfl, hk _ hx8⟩
  have hr12 := hr3.ext hx12
  have hX12 := Ext.trans hX3 hx12
  refine jnAnd (r.src.addr.six == r.dst.addr.six) (fun _ k hk => ⟨_, (rcell hr12).2.2.2.2.1, _, (rcell hr12).2.2.2.2.2, hk _ (.refl _ _)⟩) fun w17 hx17 => ?_
  have hr17 := hr12.ext hx17
  have hX17 := Ext.trans hX12 hx17
  exact jnAnd (decide (r.low ≤ r.high)) (fun _ k hk => ⟨_, (rcell hr17).2.1, _, (rcell hr17).2.2.1, hk _ (.refl _ _)⟩) fun w22 hx22 => ⟨rfl, Ext.trans hX17 hx22⟩

theorem acl_hits (r : Ru) (f : Fl) (w : World) (ht : Tab2 w) : Ret Tryz.prog F.acl_hits #[.agg r.c.toArray, .agg f.c.toArray] w (fun v w' => v = .bool (hitsR r f) ∧ Ext w w') := by
  refine W.acl_hits_ok _ _ w _ ?_
  unfold W.acl_hits
  refine nxVar (vs := r.c) rfl fun w1 hr hx1 _ => nxVar (vs := f.c) rfl fun w2 hf hx2 _ => ?_
  have hr2 := hr.ext hx2
  have hX2 := Ext.trans hx1 hx2
  refine ⟨_, (rcell hr2).1, jnOr (r.proto == f.proto) (fun _ k hk => ⟨_, (rcell hr2).1, _, (fcell hf).2, hk _ (.refl _ _)⟩) fun w8 hx8 => ?_⟩
  have hX8 := Ext.trans hX2 hx8
  have hr8 := hr2.ext hx8
  have hf8 := hf.ext hx8
  refine ⟨_, hr8.rd r.c_length, (acl_good r w8 (ht.ext hX8)).use ?_⟩
  rintro _ w10 ⟨rfl, hx10⟩
  have hX10 := Ext.trans hX8 hx10
  have hr10 := hr8.ext hx10
  have hf10 := hf8.ext hx10
  refine ⟨_, rfl, jnAnd (decide (f.dp ≥ r.low)) (fun _ k hk => ⟨_, (fcell hf10).1, _, (rcell hr10).2.1, hk _ (.refl _ _)⟩) fun w17 hx17 => ?_⟩
  have hX17 := Ext.trans hX10 hx17
  have hr17 := hr10.ext hx17
  have hf17 := hf10.ext hx17
  refine jnAnd (decide (f.dp ≤ r.high)) (fun _ k hk => ⟨_, (fcell hf17).1, _, (rcell hr17).2.2.1, hk _ (.refl _ _)⟩) fun w22 hx22 => ?_
  have hX22 := Ext.trans hX17 hx22
  have hr22 := hr17.ext hx22
  have hf22 := hf17.ext hx22
  refine jnAnd (inP f.src r.src) (fun _ k hk => ⟨_, frd1 hf22, _, rrd1 hr22, (addr_In f.src r.src w22).use ?_⟩) fun w30 hx30 => ?_
  · rintro _ w26 ⟨rfl, hx26⟩
    exact ⟨_, rfl, hk _ hx26⟩
  have hX30 := Ext.trans hX22 hx30
  have hr30 := hr22.ext hx30
  have hf30 := hf22.ext hx30
  refine jnAnd (inP f.dst r.dst) (fun _ k hk => ⟨_, frd2 hf30, _, rrd2 hr30, (addr_In f.dst r.dst w30).use ?_⟩) fun w38 hx38 => ?_
  · rintro _ w34 ⟨rfl, hx34⟩
    exact ⟨_, rfl, hk _ hx34⟩
  exact ⟨rfl, Ext.trans hX30 hx38⟩

/-! ### The reference -/
theorem maskP_bits' {a : Ad} {n : Int} {m : Pf} (h : maskP a n = some m) : m.bits = n := by
  unfold maskP at h
  split at h
  · cases h; rfl
  · cases h
theorem ref31_Good (p : Pf) (w : World) : Ret Tryz.prog F.ref31_Good #[.agg p.c.toArray] w (fun v w' => v = .bool (gP p) ∧ Ext w w') := by
  refine W.ref31_Good_ok _ w _ ?_
  unfold W.ref31_Good
  refine nxVar (vs := p.c) rfl fun w1 hp hx1 _ => ⟨_, prd hp, _, pcell hp, (ref12_Mask p.addr p.bits w1).use ?_⟩
  rintro _ w4 ⟨rfl, hx4⟩
  have hp4 := hp.ext hx4
  have hX4 := Ext.trans hx1 hx4
  refine ⟨_, _, rfl, nxVar (vs := Pf.zero.c) rfl fun w8 hm hx8 _ => ⟨hm.storeOk (by simp [Pf.c_length]) (Pf.plain _), by simp [Pf.c_length], nxPut hm (us := ((maskP p.addr p.bits).getD Pf.zero).c) (by simp [Pf.c_length]) rfl fun w9 hm9 hc9 _ => ?_⟩⟩
  have hX9 : Ext w w9 := Ext.of_chg (Ext.trans hX4 hx8) hc9 hX4.size
  have hp9 := (hp4.ext hx8).chg hc9 (by have := hp4.lt; omega)
  refine jnAnd (decide ((maskP p.addr p.bits).getD Pf.zero = p)) (fun _ k hk => ⟨_, hm9.rd (Pf.c_length _), _, hp9.rd (Pf.c_length _), _, eqPf _ _, hk _ (.refl _ _)⟩) fun w15 hx15 => ⟨?_, Ext.trans hX9 hx15⟩
  congr 1
  unfold gP inP
  cases maskP p.addr p.bits <;> simp
theorem ref32_Good (r : Ru) (w : World) : Ret Tryz.prog F.ref32_Good #[.agg r.c.toArray] w (fun v w' => v = .bool (goodR r) ∧ Ext w w') := by
  refine W.ref32_Good_ok _ w _ ?_
  unfold W.ref32_Good
  refine nxVar (vs := r.c) rfl fun w1 hr hx1 _ => ⟨_, rrd1 hr, (ref31_Good r.src w1).use ?_⟩
  rintro _ w3 ⟨rfl, hx3⟩
  have hr3 := hr.ext hx3
  have hX3 := Ext.trans hx1 hx3
  refine ⟨_, rfl, jnAnd (gP r.dst) (fun _ k hk => ⟨_, rrd2 hr3, (ref31_Good r.dst w3).use ?_⟩) fun w12 hx12 => ?_⟩
  · rintro _ w8 ⟨rfl, hx8⟩
    exact ⟨_, rfl, hk _ hx8⟩
  have hr12 := hr3.ext hx12
  have hX12 := Ext.trans hX3 hx12
  refine jnAnd (r.src.addr.six == r.dst.addr.six) (fun _ k hk => ⟨_, (rcell hr12).2.2.2.2.1, _, (rcell hr12).2.2.2.2.2, hk _ (.refl _ _)⟩) fun w17 hx17 => ?_
  have hr17 := hr12.ext hx17
  have hX17 := Ext.trans hX12 hx17
  exact jnAnd (decide (r.low ≤ r.high)) (fun _ k hk => ⟨_, (rcell hr17).2.1, _, (rcell hr17).2.2.1, hk _ (.refl _ _)⟩) fun w22 hx22 => ⟨rfl, Ext.trans hX17 hx22⟩

end Go.Proofs.YtcjpgabpihkcjaaGreatDoor
