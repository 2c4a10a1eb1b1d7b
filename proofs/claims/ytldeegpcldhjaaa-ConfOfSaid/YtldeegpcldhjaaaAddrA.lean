/- Addresses and prefixes: their cells; raw, Bytes, last, of, good. -/
import Derived.Test.YtldeegpcldhjaaaLibG
import Derived.Test.YtldeegpcldhjaaaWp
namespace Go.Proofs.Ytldeegpcldhjaaa
open Go Gx

/-! ### Data -/
structure Ad where
  six : Bool
  b : List UInt8
  h : b.length = 16
  deriving DecidableEq
def Ad.c (a : Ad) : List Value := .bool a.six :: u8s a.b
structure Pf where
  addr : Ad
  bits : Int
  deriving DecidableEq
def Pf.c (p : Pf) : List Value := p.addr.c ++ [.int .i64 p.bits]

theorem Ad.ext' {a b : Ad} (h1 : a.six = b.six) (h2 : a.b = b.b) : a = b := by
  cases a; cases b; simp_all
theorem Ad.c_length (a : Ad) : a.c.length = 17 := by simp [Ad.c, u8s_length, a.h]
theorem Pf.c_length (p : Pf) : p.c.length = 18 := by simp [Pf.c, Ad.c_length]

theorem u8s_inj : ∀ {a b : List UInt8}, u8s a = u8s b → a = b
  | [], [], _ => rfl
  | [], _ :: _, h => by simp [u8s] at h
  | _ :: _, [], h => by simp [u8s] at h
  | x :: a, y :: b, h => by
    simp only [u8s, List.map_cons, List.cons.injEq, Value.int.injEq, true_and] at h
    have h1 : x = y := by
      have : x.toNat = y.toNat := by exact_mod_cast h.1
      exact UInt8.toNat_inj.1 this
    rw [h1, u8s_inj (a := a) (b := b) h.2]
theorem Ad.c_inj {a b : Ad} (h : a.c = b.c) : a = b := by
  simp only [Ad.c, List.cons.injEq, Value.bool.injEq] at h
  exact Ad.ext' h.1 (u8s_inj h.2)
theorem Pf.c_inj {p q : Pf} (h : p.c = q.c) : p = q := by
  simp only [Pf.c] at h
  obtain ⟨h1, h2⟩ := List.append_inj h (by simp [Ad.c_length])
  have h3 := Ad.c_inj h1
  cases p; cases q
  simp_all

def zeros (n : Nat) : List UInt8 := List.replicate n 0
def Ad.zero : Ad := ⟨false, zeros 16, by simp [zeros]⟩
def Pf.zero : Pf := ⟨Ad.zero, 0⟩

theorem list16 {α : Type} : ∀ (l : List α), l.length = 16 → ∃ x0 x1 x2 x3 x4 x5 x6 x7 x8 x9 x10 x11 x12 x13 x14 x15, l = [x0, x1, x2, x3, x4, x5, x6, x7, x8, x9, x10, x11, x12, x13, x14, x15]
  | [x0, x1, x2, x3, x4, x5, x6, x7, x8, x9, x10, x11, x12, x13, x14, x15], _ => ⟨x0, x1, x2, x3, x4, x5, x6, x7, x8, x9, x10, x11, x12, x13, x14, x15, rfl⟩

def bytesL (n : Nat) : List Lf := List.replicate n (.int .u8)
theorem okCs_u8s : ∀ (l : List UInt8), okCs (bytesL l.length) (u8s l)
  | [] => rfl
  | _ :: l => ⟨_, _, rfl, ⟨_, rfl⟩, okCs_u8s l⟩
theorem Ad.okCs (a : Ad) : Gx.okCs (.bool :: bytesL 16) a.c := ⟨_, _, rfl, ⟨_, rfl⟩, by have := okCs_u8s a.b; rwa [a.h] at this⟩
theorem Pf.okCs (p : Pf) : Gx.okCs ((.bool :: bytesL 16) ++ [.int .i64]) p.c := okCs_mk p.addr.okCs ⟨_, _, rfl, ⟨_, rfl⟩, rfl⟩

theorem eqAd (a b : Ad) : AggEq Try.prog Ty.api_Addr a.c.toArray b.c.toArray (decide (a = b)) := by
  have h := AggEq.flat (P := Try.prog) (T := Ty.api_Addr) (d := (Try.prog.underlying Ty.api_Addr).get (by kernel_rfl)) (ls := .bool :: bytesL 16) (Option.some_get _).symm (by kernel_rfl) (by kernel_rfl) (by kernel_rfl) a.okCs b.okCs
  have e : eqVs a.c b.c = decide (a = b) := by
    rw [Bool.eq_iff_iff, eqVs_iff a.okCs b.okCs, decide_eq_true_eq]
    exact ⟨Ad.c_inj, fun h => by rw [h]⟩
  rwa [e] at h
theorem eq12 (a b : List UInt8) (ha : a.length = 12) (hb : b.length = 12) : AggEq Try.prog Ty.n12_uint8 (u8s a).toArray (u8s b).toArray (decide (a = b)) := by
  have o1 := okCs_u8s a
  have o2 := okCs_u8s b
  rw [ha] at o1; rw [hb] at o2
  have h := AggEq.flat (P := Try.prog) (T := Ty.n12_uint8) (d := (Try.prog.underlying Ty.n12_uint8).get (by kernel_rfl)) (ls := bytesL 12) (Option.some_get _).symm (by kernel_rfl) (by kernel_rfl) (by kernel_rfl) o1 o2
  have e : eqVs (u8s a) (u8s b) = decide (a = b) := by
    rw [Bool.eq_iff_iff, eqVs_iff o1 o2, decide_eq_true_eq]
    exact ⟨u8s_inj, fun h => by rw [h]⟩
  rwa [e] at h

theorem mkAd0 (w : World) : Sem.run Try.prog (Instr.build Ty.api_Addr #[]) w = .ok (.agg Ad.zero.c.toArray) w := by kernel_rfl
theorem mk12 (w : World) : Sem.run Try.prog (Instr.build Ty.n12_uint8 #[]) w = .ok (.agg (u8s (zeros 12)).toArray) w := by kernel_rfl
theorem mkAd (w : World) (six : Bool) (b : List UInt8) (h : b.length = 16) : Sem.run Try.prog (Instr.build Ty.api_Addr #[(0, .bool six), (1, .agg (u8s b).toArray)]) w = .ok (.agg (Ad.mk six b h).c.toArray) w := by
  obtain ⟨x0, x1, x2, x3, x4, x5, x6, x7, x8, x9, x10, x11, x12, x13, x14, x15, rfl⟩ := list16 b h
  kernel_rfl
/-! ### Variables that hold an aggregate -/
/-- A block that is one variable. -/
def Var (w : World) (b : Nat) (vs : List Value) (T : TypeId) : Prop := Blk w b vs.toArray T
section
variable {w w' : World} {b : Nat} {vs us : List Value} {T : TypeId}
theorem Var.new (w : World) (vs : List Value) (T : TypeId) : Var (w.alloc (.cells vs.toArray T)) w.heap.size vs T := Blk.new _ _ _
theorem Var.rd (h : Var w b vs T) {n : Nat} (hn : vs.length = n) : rdCells w ⟨b, 0, none⟩ 0 n = some vs := by
  have := rdCells_blk h n 0 0 (by simp [hn])
  rw [this]
  simp [← hn]
theorem Var.rdAt (h : Var w b vs T) {o n : Nat} (hn : o + n ≤ vs.length) : rdCells w ⟨b, o, none⟩ 0 n = some ((vs.drop o).take n) := by
  have := rdCells_blk h n o 0 (by simpa using hn)
  rw [this]
  simp
theorem Var.cell (h : Var w b vs T) {i : Nat} : w.cell? ⟨b, i, none⟩ = vs[i]? := by
  rw [Blk.cell h]; simp
theorem Var.ext (h : Var w b vs T) (hx : Ext w w') : Var w' b vs T := Blk.ext h hx
theorem Var.chg {W : Nat → Prop} (h : Var w b vs T) (hx : Chg W w w') (hb : ¬ W b) : Var w' b vs T := Blk.chg h hx hb
theorem Var.drew (h : Var w b vs T) : Var w.drew b vs T := Blk.drew h
theorem Var.lt (h : Var w b vs T) : b < w.heap.size := Blk.lt h
theorem Var.storeOk (h : Var w b vs T) (hn : us.length = vs.length) (hp : ∀ v ∈ us, Plain v) : StoreOk w ⟨b, 0, none⟩ us := Blk.storeOk h 0 us (by simp [hn]) hp
theorem Var.put (h : Var w b vs T) (hn : us.length = vs.length) : Var (setCells w ⟨b, 0, none⟩ 0 us) b us T := by
  have := Blk.sets us 0 0 h
  simp only [Nat.add_zero] at this
  have e : (spl vs.toArray 0 us) = us.toArray := by
    have h1 := take_spl us vs.toArray 0 (by simp [hn])
    rw [Nat.zero_add, hn, List.take_zero, List.nil_append, List.take_of_length_le (by rw [Array.length_toList, spl_size]; simp)] at h1
    apply Array.toList_inj.1
    rw [h1]
  rwa [e] at this
end
theorem Ad.plain (a : Ad) : ∀ v ∈ a.c, Plain v := by
  intro v hv
  rcases List.mem_cons.1 hv with rfl | hv
  · trivial
  · exact u8s_plain _ v hv
theorem Pf.plain (p : Pf) : ∀ v ∈ p.c, Plain v := by
  intro v hv
  rcases List.mem_append.1 hv with hv | hv
  · exact p.addr.plain v hv
  · rw [List.mem_singleton.1 hv]; trivial
theorem Ext.put {w0 w : World} {b : Nat} {us : List Value} (h : Ext w0 w) (hb : w0.heap.size ≤ b) : Ext w0 (setCells w ⟨b, 0, none⟩ 0 us) :=
  Ext.of_new h (Chg.setsB (.refl _ _) us 0) (fun k hk => by subst hk; exact hb)

theorem nx {w : World} {K : World → Prop} (h : K w) : Nx w K := h
/-- A new variable. -/
theorem nxVar {w : World} {c : Array Value} {vs : List Value} {T : TypeId} (hc : c = vs.toArray) {K : World → Prop} (h : ∀ w', Var w' w.heap.size vs T → Ext w w' → w'.heap.size = w.heap.size + 1 → K w') : Nx (w.alloc (.cells c T)) K := by
  subst hc
  exact h _ (Var.new _ _ _) (Chg.alloc (.refl _ _) _) (by simp)
/-- A variable, laid anew. -/
theorem nxPut {w : World} {b : Nat} {vs us l : List Value} {T : TypeId} (hv : Var w b vs T) (hn : us.length = vs.length) (hl : l = us) {K : World → Prop} (h : ∀ w', Var w' b us T → Chg (fun q => q = b) w w' → w'.heap.size = w.heap.size → K w') : Nx (setCells w ⟨b, 0, none⟩ 0 l) K := by
  subst hl
  refine h _ (hv.put hn) (Chg.setsB (.refl _ _) l 0) ?_
  have : ∀ (vs : List Value) (i : Nat) (w : World), (setCells w ⟨b, 0, none⟩ i vs).heap.size = w.heap.size := by
    intro vs
    induction vs with
    | nil => intro i w; rfl
    | cons v vs ih => intro i w; rw [setCells, ih]; simp [World.setCell]
  exact this _ _ _
theorem Ext.of_chg {w0 w w' : World} {b : Nat} (h : Ext w0 w) (hc : Chg (fun q => q = b) w w') (hb : w0.heap.size ≤ b) : Ext w0 w' := Ext.of_new h hc (fun k hk => by subst hk; exact hb)

/-! ### raw, Bytes -/
def Ad.raw (a : Ad) : List UInt8 := if a.six then a.b else a.b.drop 12
theorem Ad.raw_length (a : Ad) : a.raw.length = if a.six then 16 else 4 := by
  unfold Ad.raw; split
  · exact a.h
  · simp [a.h]
def Ad.good (a : Ad) : Bool := a.six || decide (a.b.take 12 = zeros 12)

theorem Var.src8 {w : World} {b o n c : Nat} {vs : List Value} {T : TypeId} {l : List UInt8} (h : Var w b vs T) (hn : o + n ≤ vs.length) (hl : (vs.drop o).take n = u8s l) : Src 1 w ⟨some ⟨b, o, none⟩, n, c⟩ (u8s l) := by
  have hlen : n = l.length := by
    have := congrArg List.length hl
    rw [List.length_take, List.length_drop, u8s_length] at this
    omega
  refine ⟨by rw [u8s_length]; show _ = n * 1; omega, (fun h => by cases h), fun a ha => ?_⟩
  cases ha
  show rdCells w ⟨b, o, none⟩ 0 (n * 1) = _
  rw [Nat.mul_one, h.rdAt hn, hl]

theorem appByte : AppT Try.prog Ty.Sl_uint8 Ty.uint8 1 1 := ⟨by kernel_rfl⟩

/-! ### last, of, good -/
theorem run_copy_sl {dT sT ty : TypeId} {w : World} {b o dl dc : Nat} {s : Sl} {l : List UInt8} (hu : Try.prog.underlying dT = some (.slice Ty.uint8)) (hs : Src 1 w s (u8s l)) (hle : s.len ≤ dl) (hst : StoreOk w ⟨b, o, none⟩ (u8s l)) :
    Sem.run Try.prog (Builtin.copy_ #[dT, sT] ty #[.slice (some ⟨b, o, none⟩) dl dc, .slice s.a s.len s.cap]) w = .ok (.int .i64 ((s.len : Nat) : Int)) (setCells w ⟨b, o, none⟩ 0 (u8s l)) := by
  have hmin : Nat.min s.len dl = s.len := Nat.min_eq_left hle
  have hz := run_sizeOf' (P := Try.prog) (w := w) (t := Ty.uint8) (d := .int .u8) (by kernel_rfl)
  have hc : Try.prog.cellsOf Ty.uint8 = 1 := by kernel_rfl
  rw [hc] at hz
  have hf := run_firstCells (P := Try.prog) hs
  have hst' := run_storeCells (P := Try.prog) (A := ⟨b, o, none⟩) (u8s l) 0 w (by simpa using hst.1) hst.2
  simp [Builtin.copy_, run_underlying' hu, Builtin.lenOf, hz, hmin, hf, hst']
  rfl

def ad4 (l : List UInt8) (h : l.length = 4) : Ad := ⟨false, zeros 12 ++ l, by simp [zeros, h]⟩

/-- The address of bytes. -/
def ofB (l : List UInt8) : Option Ad := if h : l.length = 4 then some (ad4 l h) else if h : l.length = 16 then some ⟨true, l, h⟩ else none

theorem addr_good (a : Ad) (w : World) : Ret Try.prog F.addr_good #[.agg a.c.toArray] w (fun v w' => v = .bool a.good ∧ Ext w w') := by
  refine W.addr_good_ok _ w _ ?_
  unfold W.addr_good Nx
  have hv := Var.new w a.c Ty.api_Addr
  have hx : Ext w (w.alloc (.cells a.c.toArray Ty.api_Addr)) := Chg.alloc (.refl _ _) _
  have e : cutA (some (Addr.add ⟨w.heap.size, 0, none⟩ 1)) 1 0 16 = some ⟨w.heap.size, 1, none⟩ := by rw [add_mk, cut_some (by decide)]
  refine ⟨a.six, hv.cell, Jn1 (fun b w1 => b = a.good ∧ Ext w w1) (fun q hq => ⟨fun h => hq _ _ ⟨by simp [Ad.good, h], hx⟩, fun h => ⟨⟨by decide, by decide⟩, by decide, _, e, (u8s (a.b.take 12)), ?_, _, mk12 _, _, eq12 _ _ (by simp [a.h]) (by simp [zeros]), hq _ _ ⟨by simp [Ad.good, h], hx⟩⟩⟩) ?_⟩
  · rw [hv.rdAt (by rw [a.c_length]; decide)]
    simp [Ad.c, u8s, List.map_take]
  · rintro _ w1 ⟨rfl, hx1⟩
    exact ⟨rfl, hx1⟩

end Go.Proofs.Ytldeegpcldhjaaa
