/- Services, backends and doors as records; which service may be. -/
import Derived.Test.YtldeegpcldhjaaaAddrB
namespace Go.Proofs.Ytldeegpcldhjaaa
open Go Gx

theorem jnAnd {BODY : (Bool → World → Prop) → Prop} {rest : Bool → World → Prop} {w0 : World} {b : Bool} (c : Bool) (h1 : b = true → ∀ k : Bool → World → Prop, (∀ w', Ext w0 w' → k c w') → BODY k) (h2 : ∀ w', Ext w0 w' → rest (b && c) w') :
    Jn (fun k => (b = true → BODY k) ∧ (b = false → k false w0)) rest :=
  ⟨⟨fun h => h1 h rest (fun w' hx => by have := h2 w' hx; rwa [h, Bool.true_and] at this), fun h => by have := h2 w0 (.refl _ _); rwa [h, Bool.false_and] at this⟩⟩
theorem jnOr {BODY : (Bool → World → Prop) → Prop} {rest : Bool → World → Prop} {w0 : World} {b : Bool} (c : Bool) (h1 : b = false → ∀ k : Bool → World → Prop, (∀ w', Ext w0 w' → k c w') → BODY k) (h2 : ∀ w', Ext w0 w' → rest (b || c) w') :
    Jn (fun k => (b = true → k true w0) ∧ (b = false → BODY k)) rest :=
  ⟨⟨fun h => by have := h2 w0 (.refl _ _); rwa [h, Bool.true_or] at this, fun h => h1 h rest (fun w' hx => by have := h2 w' hx; rwa [h, Bool.false_or] at this)⟩⟩

/-- A backend. -/
structure Bk where
  id : Int
  addr : Ad
  port : Int
  weight : Int
  drained : Bool
  deriving DecidableEq
def Bk.c (b : Bk) : List Value := .int .i64 b.id :: (b.addr.c ++ [.int .u16 b.port, .int .i64 b.weight, .bool b.drained])
/-- A service but for its backends. -/
structure Sv where
  id : Int
  addr : Ad
  port : Int
  proto : Int
  bits : Int
  lasts : Int
  deriving DecidableEq
def Sv.c (s : Sv) (k : Sl) : List Value := .int .i64 s.id :: (s.addr.c ++ [.int .u16 s.port, .int .u8 s.proto, .int .i64 s.bits, .int .u64 s.lasts, .slice k.a k.len k.cap])
/-- Whom clients talk to. -/
structure Dr where
  addr : Ad
  port : Int
  proto : Int
  deriving DecidableEq
def Dr.c (d : Dr) : List Value := d.addr.c ++ [.int .u16 d.port, .int .u8 d.proto]
def Sv.door (s : Sv) : Dr := ⟨s.addr, s.port, s.proto⟩
theorem Bk.c_length (b : Bk) : b.c.length = 21 := by simp [Bk.c, Ad.c_length]
theorem Sv.c_length (s : Sv) (k : Sl) : (s.c k).length = 23 := by simp [Sv.c, Ad.c_length]
theorem Dr.c_length (d : Dr) : d.c.length = 19 := by simp [Dr.c, Ad.c_length]
theorem Dr.plain (d : Dr) : ∀ v ∈ d.c, Plain v := by
  intro v hv
  rcases List.mem_append.1 hv with hv | hv
  · exact d.addr.plain v hv
  · simp only [List.mem_cons, List.not_mem_nil, or_false] at hv
    rcases hv with rfl | rfl <;> trivial
variable {w : World} {b : Nat} {T : TypeId} {s : Sv} {k : Sl}
theorem scell (h : Var w b (s.c k) T) : w.cell? ⟨b, 0, none⟩ = some (.int .i64 s.id) ∧ w.cell? (Addr.add ⟨b, 0, none⟩ 1) = some (.bool s.addr.six) ∧ w.cell? (Addr.add ⟨b, 0, none⟩ 18) = some (.int .u16 s.port) ∧ w.cell? (Addr.add ⟨b, 0, none⟩ 19) = some (.int .u8 s.proto) ∧
    w.cell? (Addr.add ⟨b, 0, none⟩ 20) = some (.int .i64 s.bits) ∧ w.cell? (Addr.add ⟨b, 0, none⟩ 21) = some (.int .u64 s.lasts) ∧ w.cell? (Addr.add ⟨b, 0, none⟩ 22) = some (.slice k.a k.len k.cap) := by
  simp only [add_mk, h.cell]
  refine ⟨rfl, ?_, ?_, ?_, ?_, ?_, ?_⟩ <;> simp [Sv.c, List.getElem?_append, Ad.c_length]
  simp [Ad.c]
theorem srd (h : Var w b (s.c k) T) : rdCells w (Addr.add ⟨b, 0, none⟩ 1) 0 17 = some s.addr.c := by
  rw [add_mk, h.rdAt (by rw [Sv.c_length]; decide)]
  show some ((s.addr.c ++ _).take 17) = _
  rw [List.take_append_of_le_length (by rw [Ad.c_length]; decide), List.take_of_length_le (by rw [Ad.c_length]; decide)]

def idOk (n : Int) : Bool := decide (n ≥ 0) && decide (n ≤ 65535)
def weightOk (n : Int) : Bool := decide (n ≥ 0) && decide (n ≤ 10)
/-- Which service, with so many backends, may be. -/
def mayS (s : Sv) (k : Sl) : Bool := idOk s.id && s.addr.good && decide (s.port > 0) && ((s.proto == 6) || (s.proto == 17)) && decide (s.bits ≥ 0) && decide (s.bits ≤ if s.addr.six then 128 else 32) && decide (s.lasts ≥ 1) && decide (s.lasts ≤ 1073741824) && (((k.len : Nat) : Int) == 0)
theorem farm_id (n : Int) (w : World) : Ret Try.prog F.farm_id #[.int .i64 n] w (fun v w' => v = .bool (idOk n) ∧ w = w') := by
  refine W.farm_id_ok n w _ ?_
  exact ⟨rfl, rfl⟩
theorem farm_weight (n : Int) (w : World) : Ret Try.prog F.farm_weight #[.int .i64 n] w (fun v w' => v = .bool (weightOk n) ∧ w = w') := by
  refine W.farm_weight_ok n w _ ?_
  exact ⟨rfl, rfl⟩
theorem addr_Good' (a : Ad) (w : World) : Ret Try.prog F.addr_Good #[.agg a.c.toArray] w (fun v w' => v = .bool a.good ∧ Ext w w') := by
  refine W.addr_Good_ok _ w _ ?_
  unfold W.addr_Good
  refine nxVar (vs := a.c) rfl fun w1 hv hx1 _ => ⟨_, hv.rd a.c_length, (addr_good a w1).use ?_⟩
  rintro _ w3 ⟨rfl, hx3⟩
  exact ⟨_, rfl, rfl, Ext.trans hx1 hx3⟩
theorem farm_may (s : Sv) (k : Sl) (w : World) : Ret Try.prog F.farm_may #[.agg (s.c k).toArray] w (fun v w' => v = .bool (mayS s k) ∧ Ext w w') := by
  refine W.farm_may_ok _ w _ ?_
  unfold W.farm_may
  refine nxVar (vs := s.c k) rfl fun w1 hv hx1 _ => Jn1 (fun n w' => w1 = w' ∧ n = if s.addr.six then 128 else 32) (fun q hq => ⟨_, (scell hv).2.1, fun h => hq _ _ ⟨rfl, by rw [h]; rfl⟩, fun h => hq _ _ ⟨rfl, by rw [h]; rfl⟩⟩) ?_
  rintro _ _ ⟨rfl, rfl⟩
  refine ⟨_, (scell hv).2.2.2.1, jnOr (s.proto == 17) (fun _ q hq => ⟨_, (scell hv).2.2.2.1, hq _ (.refl _ _)⟩) fun w10 hx10 => ?_⟩
  have hv10 := hv.ext hx10
  have hX10 := Ext.trans hx1 hx10
  refine ⟨_, (scell hv10).1, (farm_id s.id w10).use ?_⟩
  rintro _ _ ⟨rfl, rfl⟩
  refine ⟨_, rfl, jnAnd s.addr.good (fun _ q hq => ⟨_, srd hv10, (addr_Good' s.addr w10).use ?_⟩) fun w21 hx21 => ?_⟩
  · rintro _ w17 ⟨rfl, hx17⟩
    exact ⟨_, rfl, hq _ hx17⟩
  have hv21 := hv10.ext hx21
  have hX21 := Ext.trans hX10 hx21
  refine jnAnd (decide (s.port > 0)) (fun _ q hq => ⟨_, (scell hv21).2.2.1, hq _ (.refl _ _)⟩) fun w25 hx25 => ?_
  have hv25 := hv21.ext hx25
  refine jnAnd (decide (s.bits ≥ 0)) (fun _ q hq => ⟨_, (scell hv25).2.2.2.2.1, hq _ (.refl _ _)⟩) fun w29 hx29 => ?_
  have hv29 := hv25.ext hx29
  refine jnAnd (decide (s.bits ≤ if s.addr.six then 128 else 32)) (fun _ q hq => ⟨_, (scell hv29).2.2.2.2.1, hq _ (.refl _ _)⟩) fun w33 hx33 => ?_
  have hv33 := hv29.ext hx33
  refine jnAnd (decide (s.lasts ≥ 1)) (fun _ q hq => ⟨_, (scell hv33).2.2.2.2.2.1, hq _ (.refl _ _)⟩) fun w37 hx37 => ?_
  have hv37 := hv33.ext hx37
  refine jnAnd (decide (s.lasts ≤ 1073741824)) (fun _ q hq => ⟨_, (scell hv37).2.2.2.2.2.1, hq _ (.refl _ _)⟩) fun w41 hx41 => ?_
  have hv41 := hv37.ext hx41
  exact jnAnd (((k.len : Nat) : Int) == 0) (fun _ q hq => ⟨k, (scell hv41).2.2.2.2.2.2, hq _ (.refl _ _)⟩) fun w45 hx45 => ⟨rfl, Ext.trans hX21 (Ext.trans hx25 (Ext.trans hx29 (Ext.trans hx33 (Ext.trans hx37 (Ext.trans hx41 hx45)))))⟩

theorem mkDr (w : World) (a : Ad) (n m : Int) : Sem.run Try.prog (Instr.build Ty.farm_door #[(0, .agg a.c.toArray), (1, .int .u16 n), (2, .int .u8 m)]) w = .ok (.agg (Dr.mk a n m).c.toArray) w := by
  obtain ⟨six, b, h⟩ := a
  obtain ⟨x0, x1, x2, x3, x4, x5, x6, x7, x8, x9, x10, x11, x12, x13, x14, x15, rfl⟩ := list16 b h
  kernel_rfl
theorem farm_of (s : Sv) (k : Sl) (w : World) : Ret Try.prog F.farm_of #[.agg (s.c k).toArray] w (fun v w' => v = .agg s.door.c.toArray ∧ Ext w w') := by
  refine W.farm_of_ok _ w _ ?_
  unfold W.farm_of
  refine nxVar (vs := s.c k) rfl fun w1 hv hx1 _ => nxVar (vs := (Dr.mk Ad.zero 0 0).c) (by kernel_rfl) fun w2 hd hx2 _ => ?_
  have hv2 := hv.ext hx2
  exact ⟨_, srd hv2, _, (scell hv2).2.2.1, _, (scell hv2).2.2.2.1, s.door.c.toArray, mkDr _ _ _ _, hd.storeOk (by simp [Dr.c_length]) (Dr.plain _), by simp [Dr.c_length], nxPut hd (us := s.door.c) (by simp [Dr.c_length]) rfl fun w7 hd7 hc7 _ => ⟨_, hd7.rd (Dr.c_length _), rfl, Ext.of_chg (Ext.trans hx1 hx2) hc7 hx1.size⟩⟩

end Go.Proofs.Ytldeegpcldhjaaa
