/- The wp-calculator: D computes, from the model's code, what must be shown of a call; it is sound. -/
import Derived.OrdersHeld
import Derived.StillTail
import Derived.Tactics
import Derived.KernelRfl
namespace Gx
open Go

/-! ### Kinds -/
structure Sl where
  a : Option Addr
  len : Nat
  cap : Nat

/-- A function value: the function, and what it holds. -/
structure Fv where
  f : FuncId
  pre : Array Value
  cap : Array Value

inductive Lf where
  | int (k : IntKind) | bool | str | ptr | slice | map | agg | fn | any

def Lf.T : Lf → Type
  | .int _ => Int
  | .bool => Bool
  | .str => ByteArray
  | .ptr => Option Addr
  | .slice => Sl
  | .map => Option Nat
  | .agg => Array Value
  | .fn => Fv
  | .any => Value

def Lf.v : (l : Lf) → l.T → Value
  | .int k, (n : Int) => .int k n
  | .bool, (b : Bool) => .bool b
  | .str, (s : ByteArray) => .string s
  | .ptr, (p : Option Addr) => .pointer p
  | .slice, (s : Sl) => .slice s.a s.len s.cap
  | .map, (r : Option Nat) => .map r
  | .agg, (cs : Array Value) => .agg cs
  | .fn, (F : Fv) => .func (.func F.f) F.pre F.cap
  | .any, (v : Value) => v

inductive Kd where
  | one (l : Lf)
  | flat (ls : List Lf)

def exLf (l : Lf) (K : Value → Prop) : Prop :=
  match l with
  | .int k => ∃ n : Int, K (.int k n)
  | .bool => ∃ b : Bool, K (.bool b)
  | .str => ∃ s : ByteArray, K (.string s)
  | .ptr => ∃ p : Option Addr, K (.pointer p)
  | .slice => ∃ s : Sl, K (.slice s.a s.len s.cap)
  | .map => ∃ r : Option Nat, K (.map r)
  | .agg => ∃ cs : Array Value, K (.agg cs)
  | .fn => ∃ F : Fv, K (.func (.func F.f) F.pre F.cap)
  | .any => ∃ v : Value, K v

def exLfs : List Lf → (List Value → Prop) → Prop
  | [], K => K []
  | l :: ls, K => exLf l fun v => exLfs ls fun vs => K (v :: vs)

def exKd (k : Kd) (K : Value → Prop) : Prop :=
  match k with
  | .one l => exLf l K
  | .flat ls => exLfs ls fun vs => K (.agg vs.toArray)

def exKds : List Kd → (List Value → Prop) → Prop
  | [], K => K []
  | k :: ks, K => exKd k fun v => exKds ks fun vs => K (v :: vs)

theorem exLf_out {l : Lf} {K : Value → Prop} (h : exLf l K) : ∃ v, K v := by
  cases l <;> simp only [exLf] at h <;> obtain ⟨x, h⟩ := h <;> exact ⟨_, h⟩
theorem exLfs_out : ∀ {ls : List Lf} {K : List Value → Prop}, exLfs ls K → ∃ vs, K vs
  | [], _, h => ⟨_, h⟩
  | _ :: _, _, h => let ⟨_, h⟩ := exLf_out h; let ⟨_, h⟩ := exLfs_out h; ⟨_, h⟩
theorem exKd_out {k : Kd} {K : Value → Prop} (h : exKd k K) : ∃ v, K v := by
  cases k with
  | one l => exact exLf_out h
  | flat ls => obtain ⟨_, h⟩ := exLfs_out h; exact ⟨_, h⟩
theorem exKds_out : ∀ {ls : List Kd} {K : List Value → Prop}, exKds ls K → ∃ vs, K vs
  | [], _, h => ⟨_, h⟩
  | _ :: _, _, h => let ⟨_, h⟩ := exKd_out h; let ⟨_, h⟩ := exKds_out h; ⟨_, h⟩

/-! ### The frame as a list -/
abbrev Env := List (Nat × Value)
def Env.get : Env → Nat → Option Value
  | [], _ => none
  | (k, v) :: e, s => bif Nat.beq k s then some v else Env.get e s

def ev (e : Env) : Operand → Option Value
  | .tmp t => e.get t
  | .const v => some v
  | .global g => some (.pointer (some ⟨g, 0, none⟩))
  | .func f => some (.func (.func f) #[] #[])

def ro (e : Env) (x : Operand) : Value := (ev e x).getD undef
def known (e : Env) (xs : Array Operand) : Bool := xs.toList.all fun x => (ev e x).isSome

structure Agrees (e : Env) (a : Act) : Prop where
  get : ∀ s v, e.get s = some v → a.tmps[s]? = some v

theorem Agrees.ev {e : Env} {a : Act} (h : Agrees e a) {x : Operand} {v : Value} (hx : ev e x = some v) : a.eval x = v := by
  cases x with
  | tmp t =>
    have := h.get t v hx
    simp [Act.eval, Array.getD_eq_getD_getElem?, this]
  | const c => simpa [Gx.ev, Act.eval] using hx
  | global g => simpa [Gx.ev, Act.eval] using hx
  | func f => simpa [Gx.ev, Act.eval] using hx
theorem Agrees.ro {e : Env} {a : Act} (h : Agrees e a) {x : Operand} (hx : (Gx.ev e x).isSome = true) : a.eval x = ro e x := by
  obtain ⟨v, hv⟩ := Option.isSome_iff_exists.1 hx
  rw [h.ev hv, Gx.ro, hv]; rfl

def eput (d : Option Nat) (v : Value) (e : Env) : Env :=
  match d with
  | some d => (d, v) :: e
  | none => e

theorem get_cons (d : Nat) (v : Value) (e : Env) (s : Nat) : Env.get ((d, v) :: e) s = if d = s then some v else e.get s := by
  simp only [Env.get, cond_eq_ite]
  by_cases hds : d = s
  · subst hds; simp
  · have : Nat.beq d s = false := by
      cases hb : Nat.beq d s
      · rfl
      · exact absurd (Nat.eq_of_beq_eq_true hb) hds
    simp [this, hds]

theorem Agrees.put {e : Env} {a : Act} (h : Agrees e a) {d : Option Nat} {v : Value} (hd : ∀ k, d = some k → k < a.tmps.size) : Agrees (eput d v e) (a.put d v) := by
  cases d with
  | none => exact h
  | some d =>
    constructor
    intro s u hs
    rw [eput, get_cons] at hs
    simp only [Act.put]
    by_cases hds : d = s
    · subst hds
      simp only [if_true, Option.some.injEq] at hs
      subst hs
      simp [hd d rfl]
    · rw [if_neg hds] at hs
      rw [Array.getElem?_setIfInBounds_ne hds]
      exact h.get s u hs

/-! ### Result kinds -/
inductive RK where
  | one (k : Kd)
  | tup (ks : List Kd)

def exRK (r : RK) (K : Value → Prop) : Prop :=
  match r with
  | .one k => exKd k K
  | .tup ks => exKds ks fun vs => K (.tuple vs.toArray)

theorem exRK_out {r : RK} {K : Value → Prop} (h : exRK r K) : ∃ v, K v := by
  cases r with
  | one k => exact exKd_out h
  | tup ks => obtain ⟨_, h⟩ := exKds_out h; exact ⟨_, h⟩

/-! ### Memory -/
def rdCells (w : World) (A : Addr) : Nat → Nat → Option (List Value)
  | _, 0 => some []
  | i, n + 1 => match w.cell? (A.add i), rdCells w A (i + 1) n with
    | some v, some vs => some (v :: vs)
    | _, _ => none

def setCells (w : World) (A : Addr) : Nat → List Value → World
  | _, [] => w
  | i, v :: vs => setCells (w.setCell (A.add i) v) A (i + 1) vs

def Plain : Value → Prop
  | .agg _ => False
  | .tuple _ => False
  | _ => True

def StoreOk (w : World) (A : Addr) (vs : List Value) : Prop :=
  (∀ i, i < vs.length → (w.cell? (A.add i)).isSome = true ∧ w.frozen? (A.add i) = false) ∧ ∀ v ∈ vs, Plain v

def aggT : TypeDesc → Bool
  | .struct _ => true
  | .array _ _ => true
  | _ => false

def zrow (P : Program) (elem : TypeId) (n : Nat) : Array Value :=
  let zero := if n * P.cellsOf elem = 0 then #[] else (((P.info? elem).bind (·.zero)).getD undef).cells
  (Array.range (n * P.cellsOf elem)).map (zero[· % zero.size]!)

section
variable {P : Program} {w : World}

theorem run_underlying' {t : TypeId} {d : TypeDesc} (h : P.underlying t = some d) : (underlying t).run P w = .ok d w := by
  simp [underlying, program, Sem.run, bind, Sem.bind, h, pure]

theorem run_typeInfo' {t : TypeId} {d : TypeInfo} (h : P.info? t = some d) : (typeInfo t).run P w = .ok d w := by
  simp [typeInfo, program, Sem.run, bind, Sem.bind, h, pure]

theorem info_of_underlying {t : TypeId} {d : TypeDesc} (h : P.underlying t = some d) : ∃ i, P.info? t = some i := by
  unfold Program.underlying at h
  cases hi : P.info? t with
  | none => simp [hi] at h
  | some i => exact ⟨i, rfl⟩

theorem run_sizeOf' {t : TypeId} {d : TypeDesc} (h : P.underlying t = some d) : (Go.sizeOf t).run P w = .ok (P.cellsOf t) w := by
  obtain ⟨i, hi⟩ := info_of_underlying h
  simp [Go.sizeOf, run_typeInfo' hi, Program.cellsOf, hi]

theorem run_isAgg' {t : TypeId} {d : TypeDesc} (h : P.underlying t = some d) : (isAgg t).run P w = .ok (aggT d) w := by
  simp only [isAgg, Sem.run_bind, run_underlying' h, Result.andThen]
  cases d <;> rfl

theorem run_load' {A : Addr} {v : Value} (h : w.cell? A = some v) : (load A).run P w = .ok v w := by
  simp [load, Sem.run, h]

theorem run_loadCellsFrom {A : Addr} : ∀ (n i : Nat) (acc : Array Value) (vs : List Value), rdCells w A i n = some vs →
    (loadCellsFrom A i n acc).run P w = .ok (acc ++ vs.toArray) w
  | 0, i, acc, vs, h => by
    simp only [rdCells, Option.some.injEq] at h
    subst h
    simp [loadCellsFrom]
  | n + 1, i, acc, vs, h => by
    simp only [rdCells] at h
    cases h1 : w.cell? (A.add i) with
    | none => simp [h1] at h
    | some v =>
      cases h2 : rdCells w A (i + 1) n with
      | none => simp [h1, h2] at h
      | some us =>
        simp only [h1, h2, Option.some.injEq] at h
        subst h
        simp only [loadCellsFrom, Sem.run_bind, run_load' h1, Result.andThen]
        rw [run_loadCellsFrom n (i + 1) (acc.push v) us h2]
        simp

theorem run_loadVar_agg {T : TypeId} {d : TypeDesc} (hT : P.underlying T = some d) (hd : aggT d = true) {A : Addr} {vs : List Value} (h : rdCells w A 0 (P.cellsOf T) = some vs) :
    (loadVar T A).run P w = .ok (.agg vs.toArray) w := by
  simp only [loadVar, Sem.run_bind, run_isAgg' hT, Result.andThen, hd, if_true, run_sizeOf' hT, loadCells, run_loadCellsFrom _ _ _ _ h]
  simp

theorem run_loadVar_one {T : TypeId} {d : TypeDesc} (hT : P.underlying T = some d) (hd : aggT d = false) {A : Addr} {v : Value} (h : w.cell? A = some v) :
    (loadVar T A).run P w = .ok v w := by
  simp only [loadVar, Sem.run_bind, run_isAgg' hT, Result.andThen, hd, Bool.false_eq_true, if_false, run_load' h]

theorem run_store' {A : Addr} {v u : Value} (hv : Plain v) (h : w.cell? A = some u) (hf : w.frozen? A = false) : (store A v).run P w = .ok () (w.setCell A v) := by
  cases v <;> simp_all [store, Sem.run, Plain]

theorem setCell_isSome (w : World) (A B : Addr) (v : Value) : ((w.setCell A v).cell? B).isSome = (w.cell? B).isSome := by
  simp only [World.setCell, World.cell?, Array.getElem?_modify]
  by_cases hb : A.block = B.block
  · simp only [hb, if_true]
    cases w.heap[B.block]? with
    | none => rfl
    | some o =>
      cases o <;> simp
      by_cases hs : B.spot.isSome <;> simp [hs]
      by_cases hs2 : A.spot.isSome <;> simp [hs2]
      rw [Bool.eq_iff_iff]; simp
  · simp [hb]

theorem setCell_frozen (w : World) (A B : Addr) (v : Value) : (w.setCell A v).frozen? B = w.frozen? B := by
  simp only [World.setCell, World.frozen?, Array.getElem?_modify]
  by_cases hb : A.block = B.block
  · simp only [hb, if_true]
    cases w.heap[B.block]? with
    | none => rfl
    | some o => cases o <;> rfl
  · simp [hb]

theorem run_storeCells {A : Addr} : ∀ (vs : List Value) (i : Nat) (w : World), (∀ j, j < vs.length → (w.cell? (A.add (i + j))).isSome = true ∧ w.frozen? (A.add (i + j)) = false) → (∀ v ∈ vs, Plain v) →
    (storeCells A vs i).run P w = .ok () (setCells w A i vs)
  | [], i, w, _, _ => rfl
  | v :: vs, i, w, h, hp => by
    have h0 := h 0 (by simp)
    simp only [Nat.add_zero] at h0
    obtain ⟨u, hu⟩ := Option.isSome_iff_exists.1 h0.1
    simp only [storeCells, Sem.run_bind, run_store' (P := P) (hp v (by simp)) hu h0.2, Result.andThen, setCells]
    refine run_storeCells vs (i + 1) (w.setCell (A.add i) v) (fun j hj => ?_) (fun x hx => hp x (by simp [hx]))
    have := h (j + 1) (by simp; omega)
    rw [setCell_isSome, setCell_frozen, show i + 1 + j = i + (j + 1) by omega]
    exact this

theorem run_storeVar {T : TypeId} {d : TypeDesc} (hT : P.underlying T = some d) {A : Addr} {v : Value} (hs : v.cells.size = P.cellsOf T) (h : StoreOk w A v.cells.toList) :
    (storeVar T A v).run P w = .ok () (setCells w A 0 v.cells.toList) := by
  simp only [storeVar, Sem.run_bind, run_sizeOf' hT, Result.andThen, hs, ne_eq, not_true, if_false]
  simpa using run_storeCells v.cells.toList 0 w (by simpa using h.1) h.2

end

/-! ### One operation -/
def dflat : List Lf → Addr → Nat → World → (List Value → Prop) → Prop
  | [], _, _, _, K => K []
  | l :: ls, A, i, w, K => exLf l fun v => w.cell? (A.add i) = some v ∧ dflat ls A (i + 1) w fun vs => K (v :: vs)

def dload (P : Program) (tk : TypeId → RK) (T : TypeId) (A : Addr) (w : World) (K : Value → Prop) : Prop :=
  match P.underlying T with
  | none => False
  | some d =>
    bif aggT d then
      match tk T with
      | .one (.flat ls) => bif Nat.beq (P.cellsOf T) ls.length then dflat ls A 0 w fun vs => K (.agg vs.toArray) else False
      | _ => ∃ cs : List Value, rdCells w A 0 (P.cellsOf T) = some cs ∧ K (.agg cs.toArray)
    else
      match tk T with
      | .one (.one l) => exLf l fun v => w.cell? A = some v ∧ K v
      | _ => False

def dstore (P : Program) (tk : TypeId → RK) (T : TypeId) (A : Addr) (x : Value) (w : World) (K : World → Prop) : Prop :=
  match P.underlying T with
  | none => False
  | some d =>
    bif aggT d then
      match x with
      | .agg cs => StoreOk w A cs.toList ∧ cs.size = P.cellsOf T ∧ K (setCells w A 0 cs.toList)
      | _ => False
    else bif Nat.beq (P.cellsOf T) 1 then
      match tk T with
      | .one (.one .any) => Plain x ∧ (∃ u, w.cell? A = some u) ∧ w.frozen? A = false ∧ K (w.setCell A x)
      | _ => match x with
        | .agg _ => False
        | .tuple _ => False
        | _ => (∃ u, w.cell? A = some u) ∧ w.frozen? A = false ∧ K (w.setCell A x)
    else False

def AggEq (P : Program) (T : TypeId) (xs ys : Array Value) (b : Bool) : Prop :=
  P.eqGuardType P.depth T = false ∧ ∀ w, (Op.equal T (.agg xs) (.agg ys)).run P w = .ok b w

def ifaceNil : Value → Option Bool
  | .nilIface => some true
  | .iface _ _ => some false
  | _ => none

def isIfaceT : Option TypeDesc → Bool
  | some (.interface _) => true
  | _ => false
def isPtrT : Option TypeDesc → Bool
  | some (.pointer _) => true
  | _ => false
def isSliceT : Option TypeDesc → Bool
  | some (.slice _) => true
  | _ => false
def isMapT : Option TypeDesc → Bool
  | some (.map _ _) => true
  | _ => false

def kEq : IntKind → IntKind → Bool := fun a b => decide (a = b)

def dbin (P : Program) (op : BinOp) (T : TypeId) (x y : Value) (K : Value → Prop) (G : Prop) : Prop :=
  match y with
  | .nilIface => bif isIfaceT (P.underlying T) then
      match op with
      | .eql => ∃ b, ifaceNil x = some b ∧ K (.bool b)
      | .neq => ∃ b, ifaceNil x = some b ∧ K (.bool (!b))
      | _ => False
    else False
  | .pointer none => bif isPtrT (P.underlying T) then
      match op, x with
      | .eql, .pointer p => K (.bool p.isNone)
      | .neq, .pointer p => K (.bool (!p.isNone))
      | _, _ => False
    else False
  | .slice none _ _ => bif isSliceT (P.underlying T) then
      match op, x with
      | .eql, .slice a _ _ => K (.bool a.isNone)
      | .neq, .slice a _ _ => K (.bool (!a.isNone))
      | _, _ => False
    else False
  | .map none => bif isMapT (P.underlying T) then
      match op, x with
      | .eql, .map r => K (.bool r.isNone)
      | .neq, .map r => K (.bool (!r.isNone))
      | _, _ => False
    else False
  | .agg ys =>
      match op, x with
      | .eql, .agg xs => ∃ b, AggEq P T xs ys b ∧ K (.bool b)
      | .neq, .agg xs => ∃ b, AggEq P T xs ys b ∧ K (.bool (!b))
      | _, _ => False
  | .int k' b =>
      match op, x with
      | .quo, .int k a => bif kEq k k' then b ≠ 0 ∧ K (.int k (k.wrap (a.tdiv b))) else False
      | .rem, .int k a => bif kEq k k' then b ≠ 0 ∧ K (.int k (a.tmod b)) else False
      | .shl, .int k a => 0 ≤ b ∧ K (.int k (k.wrap (a * 2 ^ (min b.toNat k.bits))))
      | .shr, .int k a => 0 ≤ b ∧ K (.int k (a.fdiv (2 ^ (min b.toNat k.bits))))
      | _, _ => G
  | .bool b => match P.underlying T with
      | some .bool => match op, x with
        | .eql, .bool a => K (.bool (a == b))
        | .neq, .bool a => K (.bool (!(a == b)))
        | _, _ => False
      | _ => False
  | .string b =>
      match op, x with
      | .add, .string a => ((a.size + b.size : Nat) : Int) ≤ 9223372036854775807 ∧ K (.string (a ++ b))
      | _, _ => G
  | _ => G

section
variable {P : Program}

theorem equal_succ (T : TypeId) (x y : Value) : Op.equal T x y = Op.equalIn (9999 + 1) T x y := rfl

theorem run_ifaceNil_d (d : Nat) {T : TypeId} {x : Value} {b : Bool} (hT : isIfaceT (P.underlying T) = true) (h : ifaceNil x = some b) (w : World) :
    (Op.equalIn (d + 1) T x .nilIface).run P w = .ok b w := by
  cases hu : P.underlying T with
  | none => simp [hu, isIfaceT] at hT
  | some d =>
    cases d <;> simp only [hu, isIfaceT, Bool.false_eq_true] at hT
    simp only [Op.equalIn, Sem.run_bind, run_underlying' hu, Result.andThen]
    cases x <;> simp only [ifaceNil, reduceCtorEq, Option.some.injEq] at h <;> subst h <;> rfl

theorem run_ptrNil_d (d : Nat) {T : TypeId} {p : Option Addr} (hT : isPtrT (P.underlying T) = true) (w : World) :
    (Op.equalIn (d + 1) T (.pointer p) (.pointer none)).run P w = .ok p.isNone w := by
  cases hu : P.underlying T with
  | none => simp [hu, isPtrT] at hT
  | some d =>
    cases d <;> simp only [hu, isPtrT, Bool.false_eq_true] at hT
    simp only [Op.equalIn, Sem.run_bind, run_underlying' hu, Result.andThen]
    cases p <;> rfl

theorem run_sliceNil_d (d : Nat) {T : TypeId} {a : Option Addr} {l c l' c' : Nat} (hT : isSliceT (P.underlying T) = true) (w : World) :
    (Op.equalIn (d + 1) T (.slice a l c) (.slice none l' c')).run P w = .ok a.isNone w := by
  cases hu : P.underlying T with
  | none => simp [hu, isSliceT] at hT
  | some d =>
    cases d <;> simp only [hu, isSliceT, Bool.false_eq_true] at hT
    simp only [Op.equalIn, Sem.run_bind, run_underlying' hu, Result.andThen]
    cases a <;> rfl

theorem run_mapNil_d (d : Nat) {T : TypeId} {r : Option Nat} (hT : isMapT (P.underlying T) = true) (w : World) :
    (Op.equalIn (d + 1) T (.map r) (.map none)).run P w = .ok r.isNone w := by
  cases hu : P.underlying T with
  | none => simp [hu, isMapT] at hT
  | some d =>
    cases d <;> simp only [hu, isMapT, Bool.false_eq_true] at hT
    simp only [Op.equalIn, Sem.run_bind, run_underlying' hu, Result.andThen]
    cases r <;> rfl

theorem run_ifaceNil {T : TypeId} {x : Value} {b : Bool} (hT : isIfaceT (P.underlying T) = true) (h : ifaceNil x = some b) (w : World) :
    (Op.equal T x .nilIface).run P w = .ok b w := by rw [equal_succ]; exact run_ifaceNil_d _ hT h w
theorem run_ptrNil {T : TypeId} {p : Option Addr} (hT : isPtrT (P.underlying T) = true) (w : World) :
    (Op.equal T (.pointer p) (.pointer none)).run P w = .ok p.isNone w := by rw [equal_succ]; exact run_ptrNil_d _ hT w
theorem run_sliceNil {T : TypeId} {a : Option Addr} {l c l' c' : Nat} (hT : isSliceT (P.underlying T) = true) (w : World) :
    (Op.equal T (.slice a l c) (.slice none l' c')).run P w = .ok a.isNone w := by rw [equal_succ]; exact run_sliceNil_d _ hT w
theorem run_mapNil {T : TypeId} {r : Option Nat} (hT : isMapT (P.underlying T) = true) (w : World) :
    (Op.equal T (.map r) (.map none)).run P w = .ok r.isNone w := by rw [equal_succ]; exact run_mapNil_d _ hT w

theorem run_aggGuard {T : TypeId} {xs ys : Array Value} (h : P.eqGuardType P.depth T = false) (op : BinOp) (x y : Operand) (w : World) :
    (eqGuard op T x y (.agg xs) (.agg ys)).run P w = .ok () w := by
  cases op <;> simp [eqGuard, program, Sem.run, bind, Sem.bind, h, pure]

theorem run_boolEq {T : TypeId} {a b : Bool} (hT : P.underlying T = some .bool) (w : World) : (Op.equal T (.bool a) (.bool b)).run P w = .ok (a == b) w := by
  have e1 : ∀ (d : Nat) (w : World), (Op.equalIn (d + 1) T (.bool a) (.bool b)).run P w = .ok (a == b) w := by
    intro d w
    simp [Op.equalIn, run_underlying' hT]
  rw [equal_succ]; exact e1 _ w

theorem dbin_sound {op : BinOp} {T : TypeId} {x y : Value} {xo yo : Operand} {K : Value → Prop} {G : Prop}
    (hy : y = .nilIface → ∃ c, yo = .const c)
    (h : dbin P op T x y K G) :
    G ∨ ∃ v, (∀ w, (do eqGuard op T xo yo x y; binOp op T x y : Sem Value).run P w = .ok v w) ∧ K v := by
  unfold dbin at h
  split at h
  case h_1 =>
    obtain ⟨c, hc⟩ := hy rfl
    by_cases hT : isIfaceT (P.underlying T) = true
    · rw [hT] at h
      simp only [cond_true] at h
      split at h
      · obtain ⟨b, hb, hK⟩ := h
        refine .inr ⟨_, fun w => ?_, hK⟩
        have := run_ifaceNil (P := P) hT hb w
        cases x <;> simp only [ifaceNil, reduceCtorEq, Option.some.injEq] at hb <;> subst hc hb <;> simp [eqGuard, binOp, this]
      · obtain ⟨b, hb, hK⟩ := h
        refine .inr ⟨_, fun w => ?_, hK⟩
        have := run_ifaceNil (P := P) hT hb w
        cases x <;> simp only [ifaceNil, reduceCtorEq, Option.some.injEq] at hb <;> subst hc hb <;> simp [eqGuard, binOp, this]
      · exact h.elim
    · simp only [Bool.not_eq_true] at hT; rw [hT] at h; exact h.elim
  case h_2 =>
    by_cases hT : isPtrT (P.underlying T) = true
    · rw [hT] at h
      simp only [cond_true] at h
      split at h
      · exact .inr ⟨_, fun w => by simp [eqGuard, binOp, run_ptrNil (P := P) hT], h⟩
      · exact .inr ⟨_, fun w => by simp [eqGuard, binOp, run_ptrNil (P := P) hT], h⟩
      · exact h.elim
    · simp only [Bool.not_eq_true] at hT; rw [hT] at h; exact h.elim
  case h_3 =>
    by_cases hT : isSliceT (P.underlying T) = true
    · rw [hT] at h
      simp only [cond_true] at h
      split at h
      · exact .inr ⟨_, fun w => by simp [eqGuard, binOp, run_sliceNil (P := P) hT], h⟩
      · exact .inr ⟨_, fun w => by simp [eqGuard, binOp, run_sliceNil (P := P) hT], h⟩
      · exact h.elim
    · simp only [Bool.not_eq_true] at hT; rw [hT] at h; exact h.elim
  case h_4 =>
    by_cases hT : isMapT (P.underlying T) = true
    · rw [hT] at h
      simp only [cond_true] at h
      split at h
      · exact .inr ⟨_, fun w => by simp [eqGuard, binOp, run_mapNil (P := P) hT], h⟩
      · exact .inr ⟨_, fun w => by simp [eqGuard, binOp, run_mapNil (P := P) hT], h⟩
      · exact h.elim
    · simp only [Bool.not_eq_true] at hT; rw [hT] at h; exact h.elim
  case h_5 =>
    split at h
    · obtain ⟨b, ⟨h1, h2⟩, hK⟩ := h
      exact .inr ⟨_, fun w => by simp [run_aggGuard h1, binOp, h2], hK⟩
    · obtain ⟨b, ⟨h1, h2⟩, hK⟩ := h
      exact .inr ⟨_, fun w => by simp [run_aggGuard h1, binOp, h2], hK⟩
    · exact h.elim
  case h_6 k' b =>
    split at h
    · rename_i k a
      by_cases hk : k = k'
      · subst hk
        simp only [kEq, decide_true, cond_true] at h
        exact .inr ⟨_, fun w => by simp [eqGuard, binOp, Op.intDiv, h.1], h.2⟩
      · simp [kEq, hk] at h
    · rename_i k a
      by_cases hk : k = k'
      · subst hk
        simp only [kEq, decide_true, cond_true] at h
        exact .inr ⟨_, fun w => by simp [eqGuard, binOp, Op.intDiv, h.1], h.2⟩
      · simp [kEq, hk] at h
    · exact .inr ⟨_, fun w => by simp [eqGuard, binOp, Op.shift, show ¬ b < 0 by omega], h.2⟩
    · exact .inr ⟨_, fun w => by simp [eqGuard, binOp, Op.shift, show ¬ b < 0 by omega], h.2⟩
    · exact .inl h
  case h_7 b =>
    split at h
    · rename_i hT
      split at h
      · exact .inr ⟨_, fun w => by simp [eqGuard, binOp, run_boolEq hT], h⟩
      · exact .inr ⟨_, fun w => by simp [eqGuard, binOp, run_boolEq hT], h⟩
      · exact h.elim
    · exact h.elim
  case h_8 b =>
    split at h
    · rename_i a
      refine .inr ⟨_, fun w => ?_, h.2⟩
      have h1 := h.1
      simp [eqGuard, binOp, Op.stringOp, IntKind.max, IntKind.signed, IntKind.bits]
      omega
    · exact .inl h
  case h_9 => exact .inl h

end

/-- A slice as an array's address. -/
def darr (P : Program) (T : TypeId) (x : Value) (K : Value → Prop) : Prop :=
  match P.underlying T with
  | some (.array n _) => match x with
    | .slice a len _ => n ≤ len ∧ ∃ A, a = some A ∧ K (.pointer (some A))
    | _ => False
  | _ => False

def dindexAddr (P : Program) (T : TypeId) (x i : Value) (K : Value → Prop) : Prop :=
  match i with
  | .int _ n =>
    match P.underlying T with
    | some (.slice elem) => bif (P.underlying elem).isSome then
        match x with
        | .slice a len _ => ∃ A, a = some A ∧ (0 ≤ n ∧ n < (len : Int)) ∧ K (.pointer (some (A.add (n.toNat * P.cellsOf elem))))
        | _ => False
      else False
    | some (.array len elem) => bif (P.underlying elem).isSome then
        match x with
        | .pointer (some A) => (0 ≤ n ∧ n < (len : Int)) ∧ K (.pointer (some (A.add (n.toNat * P.cellsOf elem))))
        | _ => False
      else False
    | _ => False
  | _ => False

def dpart (P : Program) (tk : TypeId → RK) (T : TypeId) (cs : Array Value) (off : Nat) (K : Value → Prop) : Prop :=
  match P.underlying T with
  | none => False
  | some d =>
    bif aggT d then K (.agg (cs.extract off (off + P.cellsOf T)))
    else match tk T with
      | .one (.one l) => exLf l fun v => cs[off]? = some v ∧ K v
      | _ => False

def dindex (P : Program) (tk : TypeId → RK) (T : TypeId) (x i : Value) (K : Value → Prop) : Prop :=
  match i with
  | .int _ n =>
    match P.underlying T with
    | some (.array len elem) => match x with
        | .agg cs => (0 ≤ n ∧ n < (len : Int)) ∧ dpart P tk elem cs (n.toNat * P.cellsOf elem) K
        | _ => False
    | some .string => match x with
        | .string s => 0 ≤ n ∧ ∃ b : UInt8, s.data.toList[n.toNat]? = some b ∧ K (.int .u8 b.toNat)
        | _ => False
    | _ => False
  | _ => False

def dfield (P : Program) (tk : TypeId → RK) (T : TypeId) (x : Value) (i : Nat) (K : Value → Prop) : Prop :=
  match P.underlying T with
  | some (.struct fs) => match fs[i]? with
    | some f => match x with
      | .agg cs => dpart P tk f.type cs f.offset K
      | _ => False
    | none => False
  | _ => False

def bnd (v : Option Value) (y d : Nat) (K : Nat → Prop) : Prop :=
  match v with
  | none => K d
  | some (.int _ i) => (0 ≤ i ∧ i ≤ (y : Int)) ∧ K i.toNat
  | _ => False

def cutA (a : Option Addr) (sz l m : Nat) : Option Addr := if m = l then a else a.map (·.add (l * sz))

def dslice (P : Program) (T : TypeId) (x : Value) (lo hi mx : Option Value) (K : Value → Prop) : Prop :=
  match P.underlying T with
  | some .string => match mx, x with
    | none, .string s => bnd hi s.size s.size fun h => bnd lo h 0 fun l => K (.string (s.extract l h))
    | _, _ => False
  | some (.slice elem) => bif (P.underlying elem).isSome then
      match x with
      | .slice a len cap => match mx with
        | none => bnd hi cap len fun h => bnd lo h 0 fun l => K (.slice (cutA a (P.cellsOf elem) l cap) (h - l) (cap - l))
        | some m' => match hi with
          | none => False
          | some h' => bnd (some m') cap 0 fun m => bnd (some h') m 0 fun h => bnd lo h 0 fun l => K (.slice (cutA a (P.cellsOf elem) l m) (h - l) (m - l))
      | _ => False
    else False
  | some (.array n elem) => bif (P.underlying elem).isSome then
      match mx, x with
      | none, .pointer (some A) => bnd hi n n fun h => bnd lo h 0 fun l => K (.slice (cutA (some A) (P.cellsOf elem) l n) (h - l) (n - l))
      | _, _ => False
    else False
  | _ => False

def dmakeSlice (P : Program) (T : TypeId) (l c : Value) (w : World) (K : Value → World → Prop) : Prop :=
  match P.underlying T with
  | some (.slice elem) => bif (P.underlying elem).isSome then
      bif ((P.info? elem).bind (·.zero)).isSome then
      match l, c with
      | .int _ n, .int _ m => (0 ≤ n ∧ n ≤ m ∧ m ≤ 9223372036854775807 ∧ (P.bytesOf elem : Int) * m ≤ 140737488355328) ∧
          K (.slice (some ⟨w.heap.size, 0, none⟩) n.toNat m.toNat) { w with heap := w.heap.push (.cells (zrow P elem m.toNat) elem) }
      | _, _ => False
      else False
    else False
  | _ => False

section
variable {P : Program} {w : World}

theorem cells_of (o : Option TypeDesc) (h : o.isSome = true) : ∃ d, o = some d := Option.isSome_iff_exists.1 h

theorem darr_sound {T : TypeId} {x : Value} {K : Value → Prop} (h : darr P T x K) : ∃ v, (∀ w, (Instr.arrayAt T x).run P w = .ok v w) ∧ K v := by
  unfold darr at h
  split at h
  · rename_i n e hT
    split at h
    · rename_i a len cap
      obtain ⟨h1, A, rfl, hK⟩ := h
      exact ⟨_, fun w => by simp [Instr.arrayAt, run_underlying' hT, Nat.not_lt.2 h1], hK⟩
    · exact h.elim
  · exact h.elim

theorem dindexAddr_sound {T : TypeId} {x i : Value} {K : Value → Prop} (h : dindexAddr P T x i K) : ∃ v, (∀ w, (Instr.indexAt T x i).run P w = .ok v w) ∧ K v := by
  unfold dindexAddr at h
  split at h
  · rename_i k n
    split at h
    · rename_i elem hT
      by_cases he : (P.underlying elem).isSome = true
      · rw [he] at h
        simp only [cond_true] at h
        split at h
        · obtain ⟨A, rfl, hb, hK⟩ := h
          obtain ⟨d, hd⟩ := cells_of _ he
          exact ⟨_, fun w => by simp [Instr.indexAt, asIntOf, run_underlying' hT, hb, run_sizeOf' hd], hK⟩
        · exact h.elim
      · simp only [Bool.not_eq_true] at he; rw [he] at h; exact h.elim
    · rename_i len elem hT
      by_cases he : (P.underlying elem).isSome = true
      · rw [he] at h
        simp only [cond_true] at h
        split at h
        · obtain ⟨hb, hK⟩ := h
          obtain ⟨d, hd⟩ := cells_of _ he
          exact ⟨_, fun w => by simp [Instr.indexAt, asIntOf, Instr.sureAddr, run_underlying' hT, hb, run_sizeOf' hd], hK⟩
        · exact h.elim
      · simp only [Bool.not_eq_true] at he; rw [he] at h; exact h.elim
    · exact h.elim
  · exact h.elim

theorem exLf_sound {l : Lf} {R : Value → Prop} {K : Value → Prop} (h : exLf l fun v => R v ∧ K v) : ∃ v, R v ∧ K v := exLf_out h

theorem dpart_sound {tk : TypeId → RK} {T : TypeId} {cs : Array Value} {off : Nat} {K : Value → Prop} (h : dpart P tk T cs off K) : ∃ v, (∀ w, (part T cs off).run P w = .ok v w) ∧ K v := by
  unfold dpart at h
  split at h
  · exact h.elim
  · rename_i d hT
    cases hd : aggT d with
    | true =>
      rw [hd] at h
      exact ⟨_, fun w => by simp [part, run_isAgg' hT, hd, run_sizeOf' hT], h⟩
    | false =>
      rw [hd] at h
      simp only [cond_false] at h
      split at h
      · obtain ⟨v, hv, hK⟩ := exLf_out h
        exact ⟨v, fun w => by simp [part, run_isAgg' hT, hd, hv], hK⟩
      · exact h.elim

theorem dindex_sound {tk : TypeId → RK} {T : TypeId} {x i : Value} {K : Value → Prop} (h : dindex P tk T x i K) : ∃ v, (∀ w, (Instr.index T x i).run P w = .ok v w) ∧ K v := by
  unfold dindex at h
  split at h
  · rename_i k n
    split at h
    · rename_i len elem hT
      split at h
      · obtain ⟨hb, h⟩ := h
        obtain ⟨v, hv, hK⟩ := dpart_sound h
        refine ⟨v, fun w => ?_, hK⟩
        have hs : (Go.sizeOf elem).run P w = .ok (P.cellsOf elem) w := by
          unfold dpart at h
          cases he : P.underlying elem with
          | none => simp [he] at h
          | some d => exact run_sizeOf' he
        simp [Instr.index, asIntOf, run_underlying' hT, hb, hs, hv]
      · exact h.elim
    · rename_i hT
      split at h
      · rename_i s
        obtain ⟨hb, b, hs, hK⟩ := h
        have hs' : s[n.toNat]? = some b := by
          obtain ⟨h1, h2⟩ := List.getElem?_eq_some_iff.1 hs
          have h3 : n.toNat < s.size := by simpa using h1
          rw [getElem?_pos s n.toNat h3]
          simp only [Option.some.injEq]
          rw [← h2]
          rfl
        exact ⟨_, fun w => by simp [Instr.index, asIntOf, run_underlying' hT, hb, hs'], hK⟩
      · exact h.elim
    · exact h.elim
  · exact h.elim

theorem dfield_sound {tk : TypeId → RK} {T : TypeId} {x : Value} {i : Nat} {K : Value → Prop} (h : dfield P tk T x i K) : ∃ v, (∀ w, (Instr.field T x i).run P w = .ok v w) ∧ K v := by
  unfold dfield at h
  split at h
  · rename_i fs hT
    split at h
    · rename_i f hf
      split at h
      · obtain ⟨v, hv, hK⟩ := dpart_sound h
        exact ⟨v, fun w => by simp [Instr.field, run_underlying' hT, hf, asAgg, hv], hK⟩
      · exact h.elim
    · exact h.elim
  · exact h.elim

theorem bnd_sound {v : Option Value} {y d : Nat} {c : BoundsCode} {K : Nat → Prop} (h : bnd v y d K) :
    (v = none ∧ K d) ∨ ∃ u n, v = some u ∧ (∀ w, (Instr.sliceBound u y c).run P w = .ok n w) ∧ K n := by
  unfold bnd at h
  split at h
  · exact .inl ⟨rfl, h⟩
  · exact .inr ⟨_, _, rfl, fun w => by simp [Instr.sliceBound, asIntOf, h.1], h.2⟩
  · exact h.elim

theorem dslice_sound {T : TypeId} {x : Value} {lo hi mx : Option Value} {K : Value → Prop} (h : dslice P T x lo hi mx K) :
    ∃ v, (∀ w, (Instr.sliceAt T x lo hi mx).run P w = .ok v w) ∧ K v := by
  unfold dslice at h
  split at h
  · rename_i hT
    split at h
    · rename_i s
      rcases bnd_sound (P := P) (c := .sliceAlen) h with ⟨e1, h1⟩ | ⟨u, n, e1, hr, h1⟩
      · rcases bnd_sound (P := P) (c := .sliceB) h1 with ⟨e2, h2⟩ | ⟨u2, n2, e2, hr2, h2⟩
        · exact ⟨_, fun w => by simp [Instr.sliceAt, Instr.slice, run_underlying' hT, Instr.sliceBounds, e1, e2], h2⟩
        · exact ⟨_, fun w => by simp [Instr.sliceAt, Instr.slice, run_underlying' hT, Instr.sliceBounds, e1, e2, hr2], h2⟩
      · rcases bnd_sound (P := P) (c := .sliceB) h1 with ⟨e2, h2⟩ | ⟨u2, n2, e2, hr2, h2⟩
        · exact ⟨_, fun w => by simp [Instr.sliceAt, Instr.slice, run_underlying' hT, Instr.sliceBounds, e1, e2, hr], h2⟩
        · exact ⟨_, fun w => by simp [Instr.sliceAt, Instr.slice, run_underlying' hT, Instr.sliceBounds, e1, e2, hr, hr2], h2⟩
    · exact h.elim
  · rename_i elem hT
    by_cases he : (P.underlying elem).isSome = true
    · rw [he] at h
      simp only [cond_true] at h
      obtain ⟨d, hd⟩ := cells_of _ he
      have hsz := fun w : World => run_sizeOf' (w := w) hd
      split at h
      · rename_i a len cap
        split at h
        · rcases bnd_sound (P := P) (c := .sliceAcap) h with ⟨e1, h1⟩ | ⟨u, n, e1, hr, h1⟩
          · rcases bnd_sound (P := P) (c := .sliceB) h1 with ⟨e2, h2⟩ | ⟨u2, n2, e2, hr2, h2⟩
            · exact ⟨_, fun w => by simp [Instr.sliceAt, Instr.slice, run_underlying' hT, Instr.sliceBounds, hsz, cutA, e1, e2], h2⟩
            · exact ⟨_, fun w => by simp [Instr.sliceAt, Instr.slice, run_underlying' hT, Instr.sliceBounds, hr2, hsz, cutA, e1, e2], h2⟩
          · rcases bnd_sound (P := P) (c := .sliceB) h1 with ⟨e2, h2⟩ | ⟨u2, n2, e2, hr2, h2⟩
            · exact ⟨_, fun w => by simp [Instr.sliceAt, Instr.slice, run_underlying' hT, Instr.sliceBounds, hr, hsz, cutA, e1, e2], h2⟩
            · exact ⟨_, fun w => by simp [Instr.sliceAt, Instr.slice, run_underlying' hT, Instr.sliceBounds, hr, hr2, hsz, cutA, e1, e2], h2⟩
        · split at h
          · exact h.elim
          · rcases bnd_sound (P := P) (c := .slice3Acap) h with ⟨e0, h1⟩ | ⟨u, n, e0, hr, h1⟩
            · cases e0
            · cases e0
              rcases bnd_sound (P := P) (c := .slice3B) h1 with ⟨e0, h2⟩ | ⟨u1, n1, e0, hr1, h2⟩
              · cases e0
              · cases e0
                rcases bnd_sound (P := P) (c := .slice3C) h2 with ⟨e2, h3⟩ | ⟨u2, n2, e2, hr2, h3⟩
                · exact ⟨_, fun w => by simp [Instr.sliceAt, Instr.slice, run_underlying' hT, Instr.sliceBounds, hr, hr1, hsz, cutA, e2], h3⟩
                · exact ⟨_, fun w => by simp [Instr.sliceAt, Instr.slice, run_underlying' hT, Instr.sliceBounds, hr, hr1, hr2, hsz, cutA, e2], h3⟩
      · exact h.elim
    · simp only [Bool.not_eq_true] at he; rw [he] at h; exact h.elim
  · rename_i n elem hT
    by_cases he : (P.underlying elem).isSome = true
    · rw [he] at h
      simp only [cond_true] at h
      obtain ⟨d, hd⟩ := cells_of _ he
      have hsz := fun w : World => run_sizeOf' (w := w) hd
      split at h
      · rename_i A
        rcases bnd_sound (P := P) (c := .sliceAlen) h with ⟨e1, h1⟩ | ⟨u, n1, e1, hr, h1⟩
        · rcases bnd_sound (P := P) (c := .sliceB) h1 with ⟨e2, h2⟩ | ⟨u2, n2, e2, hr2, h2⟩
          · refine ⟨_, fun w => ?_, h2⟩
            simp [Instr.sliceAt, run_underlying' hT, Instr.sureAddr, Instr.sliceBounds, hsz, cutA, e1, e2]; try (split <;> rfl)
          · refine ⟨_, fun w => ?_, h2⟩
            simp [Instr.sliceAt, run_underlying' hT, Instr.sureAddr, Instr.sliceBounds, hr2, hsz, cutA, e1, e2]; try (split <;> rfl)
        · rcases bnd_sound (P := P) (c := .sliceB) h1 with ⟨e2, h2⟩ | ⟨u2, n2, e2, hr2, h2⟩
          · refine ⟨_, fun w => ?_, h2⟩
            simp [Instr.sliceAt, run_underlying' hT, Instr.sureAddr, Instr.sliceBounds, hr, hsz, cutA, e1, e2]; try (split <;> rfl)
          · refine ⟨_, fun w => ?_, h2⟩
            simp [Instr.sliceAt, run_underlying' hT, Instr.sureAddr, Instr.sliceBounds, hr, hr2, hsz, cutA, e1, e2]; try (split <;> rfl)
      · exact h.elim
    · simp only [Bool.not_eq_true] at he; rw [he] at h; exact h.elim
  · exact h.elim

theorem wrap64_id {n : Int} (h0 : 0 ≤ n) (h1 : n ≤ 9223372036854775807) : IntKind.i64.wrap n = n := by
  have e : n % 18446744073709551616 = n := Int.emod_eq_of_lt h0 (by omega)
  simp [IntKind.wrap, IntKind.signed, IntKind.bits, e]
  omega

theorem dmakeSlice_sound {T : TypeId} {l c : Value} {K : Value → World → Prop} (h : dmakeSlice P T l c w K) :
    ∃ v w', (Instr.makeSlice T l c).run P w = .ok v w' ∧ K v w' := by
  unfold dmakeSlice at h
  split at h
  · rename_i elem hT
    by_cases he : (P.underlying elem).isSome = true
    · rw [he] at h
      simp only [cond_true] at h
      by_cases hz : ((P.info? elem).bind (·.zero)).isSome = true
      · rw [hz] at h
        simp only [cond_true] at h
        split at h
        · rename_i k n k' m
          obtain ⟨⟨h0, h1, h2, h3⟩, hK⟩ := h
          obtain ⟨d, hd⟩ := cells_of _ he
          obtain ⟨i, hi⟩ := info_of_underlying hd
          obtain ⟨z, hz'⟩ := Option.isSome_iff_exists.1 hz
          simp only [hi, Option.bind_some] at hz'
          have hb : P.bytesOf elem = i.bytes := by simp [Program.bytesOf, hi]
          have hc : P.cellsOf elem = i.size := by simp [Program.cellsOf, hi]
          rw [hb] at h3
          have e1 := wrap64_id h0 (by omega)
          have e2 := wrap64_id (n := m) (by omega) h2
          refine ⟨_, _, ?_, hK⟩
          have hn : ¬ (m < 0) := by omega
          have hn2 : ¬ (281474976710656 < (i.bytes : Int) * m) := by omega
          simp [Instr.makeSlice, run_underlying' hT, asInt, asIntOf, run_typeInfo' hi, e1, e2, hn, hn2, run_sizeOf' hd, show ¬ n < 0 by omega, show ¬ m < n by omega]
          by_cases hs : m.toNat * P.cellsOf elem = 0
          · simp [hs, newRow, newObj, Sem.run, zrow]
          · simp [zeroValue, run_typeInfo' hi, hz', newRow, newObj, Sem.run, zrow, hs, hi]
        · exact h.elim
      · simp only [Bool.not_eq_true] at hz; rw [hz] at h; exact h.elim
    · simp only [Bool.not_eq_true] at he; rw [he] at h; exact h.elim
  · exact h.elim

end

/-- The next world, under a name. -/
def Nx (w : World) (K : World → Prop) : Prop := K w

def byteAt (s : ByteArray) (n : Nat) : Option UInt8 := s.data.toList[n]?
def cellAt (cs : Array Value) (n : Nat) : Option Value := cs[n]?

def bAnd (k : IntKind) (a b : Int) : Int := k.wrap ((BitVec.ofInt k.bits a &&& BitVec.ofInt k.bits b).toNat : Int)
def bOr (k : IntKind) (a b : Int) : Int := k.wrap ((BitVec.ofInt k.bits a ||| BitVec.ofInt k.bits b).toNat : Int)
def bXor (k : IntKind) (a b : Int) : Int := k.wrap ((BitVec.ofInt k.bits a ^^^ BitVec.ofInt k.bits b).toNat : Int)
def bAndNot (k : IntKind) (a b : Int) : Int := k.wrap ((BitVec.ofInt k.bits a &&& ~~~BitVec.ofInt k.bits b).toNat : Int)

def genA (P : Program) (o : Oper) (K : Value → World → Prop) (e : Env) (w : World) : Prop :=
  bif known e o.op.operands then
    match (execOp (ro e) o).run P w with
    | .ok (.value v) w' => Nx w' fun w1 => K v w1
    | _ => False
  else False

def elemKd (P : Program) (tk : TypeId → RK) (T : TypeId) : RK :=
  match P.underlying T with
  | some (.slice e) => tk e
  | _ => .one (.one .agg)

def gen (P : Program) (tk : TypeId → RK) (o : Oper) (K : Value → World → Prop) (e : Env) (w : World) : Prop :=
  bif known e o.op.operands then
    match (execOp (ro e) o).run P w with
    | .ok (.value v) w' => K v w'
    | .ok .skip w' => K undef w'
    | .ok (.enter f args) w' => Calls P f args w' fun en w'' => exRK (tk o.type) fun v => en = .returned v ∧ K v w''
    | _ => False
  else False

/-- A function of the program that has a body. -/
def Callable (P : Program) (f : FuncId) : Prop := ∃ fn, P.funcs[f]? = some fn ∧ (fn.name == "runtime.NumGoroutine") = false ∧ fn.body.isNone = false

theorem run_callFunc {P : Program} {f : FuncId} (h : Callable P f) (args : Array Value) (w : World) : (callFunc f args).run P w = .ok (.enter f args) w := by
  obtain ⟨fn, h1, h2, h3⟩ := h
  have h2' : ¬ fn.name = "runtime.NumGoroutine" := by simpa using h2
  have h3' : ¬ fn.body = none := by
    intro h; rw [h] at h3; cases h3
  simp [callFunc, program, Sem.run, bind, Sem.bind, h1, h2', h3', pure]

def isSel : Op → Bool
  | .select _ _ => true
  | _ => false

/-- Two values that are compared at a type of interfaces or of pointers, neither of them a written nil. -/
def opqT (P : Program) (T : TypeId) : Operand → Bool
  | .const _ => false
  | _ => isIfaceT (P.underlying T) || isPtrT (P.underlying T)
def OpqEq (P : Program) (op : BinOp) (T : TypeId) (xo yo : Operand) (x y : Value) (b : Bool) : Prop :=
  ∀ w, Sem.run P (do eqGuard op T xo yo x y; binOp op T x y : Sem Value) w = .ok (.bool b) w

def notNilI : Operand → Value → Bool
  | .const _, _ => true
  | _, .nilIface => false
  | _, _ => true

def isMapV : Value → Bool
  | .map _ => true
  | _ => false

def DOp (P : Program) (tk : TypeId → RK) (o : Oper) (K : Value → World → Prop) (e : Env) (w : World) : Prop :=
  match o.op with
  | .nilCheck x => match ev e x with
    | some (.pointer p) => ∃ A, p = some A ∧ K (.pointer (some A)) w
    | _ => False
  | .load T x => match ev e x with
    | some (.pointer (some A)) => dload P tk T A w fun v => K v w
    | _ => False
  | .store T x y => match ev e x, ev e y with
    | some (.pointer (some A)), some v => dstore P tk T A v w fun w' => Nx w' fun w1 => K undef w1
    | _, _ => False
  | .binOp op T x y _ => match ev e x, ev e y with
    | some vx, some vy => bif opqT P T y then (∃ b : Bool, OpqEq P op T x y vx vy b ∧ K (.bool b) w) else
        bif notNilI y vy then dbin P op T vx vy (fun v => K v w) (gen P tk o K e w) else False
    | _, _ => False
  | .indexAddr T x i => match ev e x, ev e i with
    | some vx, some vi => dindexAddr P T vx vi fun v => K v w
    | _, _ => False
  | .index T x i => match ev e x, ev e i with
    | some vx, some vi => dindex P tk T vx vi fun v => K v w
    | _, _ => False
  | .field T x i => match ev e x with
    | some vx => dfield P tk T vx i fun v => K v w
    | _ => False
  | .alloc _ => genA P o K e w
  | .box _ _ => genA P o K e w
  | .buildSlice T n ps => match elemKd P tk T with
    | .one (.one .agg) => bif known e o.op.operands then
        exRK (tk o.type) fun r => ∃ w1, (Instr.buildSlice T n (ps.map fun p => (p.1, ro e p.2))).run P w = .ok r w1 ∧ K r w1
      else False
    | _ => genA P o K e w
  | .slice T x lo hi mx => bif known e o.op.operands then
      dslice P T (ro e x) (lo.map (ro e)) (hi.map (ro e)) (mx.map (ro e)) fun v => K v w
    else False
  | .makeSlice T l c => match ev e l, ev e c with
    | some vl, some vc => dmakeSlice P T vl vc w fun v w' => Nx w' fun w1 => K v w1
    | _, _ => False
  | .convert s d x => match ev e x with
    | some (.int j n) => bif (P.underlying s).isSome then
        match P.underlying d with
        | some (.int k) => K (.int k (k.wrap n)) w
        | _ => exRK (tk o.type) fun r => ∃ w1, (convert s d (.int j n)).run P w = .ok r w1 ∧ K r w1
      else False
    | some v => exRK (tk o.type) fun r => ∃ w1, (convert s d v).run P w = .ok r w1 ∧ K r w1
    | none => False
  | .build t ps => match tk t with
    | .one (.flat _) => gen P tk o K e w
    | _ => bif known e o.op.operands then
        ∃ cs : Array Value, (Instr.build t (ps.map fun p => (p.1, ro e p.2))).run P w = .ok (.agg cs) w ∧ K (.agg cs) w
      else False
  | .lookup T m i ok => match ev e m, ev e i with
    | some vm, some vi => exRK (tk o.type) fun r => ∃ w1, (Instr.lookup T vm vi ok).run P w = .ok r w1 ∧ K r w1
    | _, _ => False
  | .mapUpdate T m i x => match ev e m, ev e i, ev e x with
    | some vm, some vi, some vx => ∃ w1, (Instr.mapUpdate T vm vi vx).run P w = .ok () w1 ∧ K undef w1
    | _, _, _ => False
  | .makeMap T r => bif known e o.op.operands then exRK (tk o.type) fun v => ∃ w1, (Instr.makeMap T (r.map (ro e))).run P w = .ok v w1 ∧ K v w1 else False
  | .range T x => match ev e x with
    | some vx => ∃ v w1, (Instr.range T vx).run P w = .ok v w1 ∧ K v w1
    | _ => False
  | .next it isS => match ev e it with
    | some vx => (bif isS then ∃ (n : Int) (c : Int) (w1 : World), (Instr.next vx isS o.type).run P w = .ok (.tuple #[.bool true, .int .i64 n, .int .i32 c]) w1 ∧ K (.tuple #[.bool true, .int .i64 n, .int .i32 c]) w1
        else ∃ (k : Value) (v : Value) (w1 : World), (Instr.next vx isS o.type).run P w = .ok (.tuple #[.bool true, k, v]) w1 ∧ K (.tuple #[.bool true, k, v]) w1) ∨
        (∃ w1 : World, (Instr.next vx isS o.type).run P w = .ok (.tuple #[.bool false]) w1 ∧ K (.tuple #[.bool false]) w1)
    | _ => False
  | .call c => match c.callee with
    | .value (.tmp k) => match e.get k with
      | some (.func (.func f) pre cap) => bif known e o.op.operands then
          Callable P f ∧ Calls P f (pre ++ c.args.map (ro e) ++ cap) w fun en w1 => exRK (tk o.type) fun v => en = .returned v ∧ K v w1
        else False
      | _ => gen P tk o K e w
    | .builtin .append => bif known e o.op.operands then exRK (tk o.type) fun r => ∃ w1, (Builtin.append_ c.argTypes o.type (c.args.map (ro e))).run P w = .ok r w1 ∧ K r w1 else False
    | .builtin .copy => bif known e o.op.operands then exRK (tk o.type) fun r => ∃ w1, (Builtin.copy_ c.argTypes o.type (c.args.map (ro e))).run P w = .ok r w1 ∧ K r w1 else False
    | .builtin .min => bif known e o.op.operands then exRK (tk o.type) fun r => ∃ w1, (Builtin.min_ c.argTypes o.type (c.args.map (ro e))).run P w = .ok r w1 ∧ K r w1 else False
    | .builtin .max => bif known e o.op.operands then exRK (tk o.type) fun r => ∃ w1, (Builtin.max_ c.argTypes o.type (c.args.map (ro e))).run P w = .ok r w1 ∧ K r w1 else False
    | .builtin .delete => bif known e o.op.operands then ∃ r w1, (Builtin.delete_ c.argTypes o.type (c.args.map (ro e))).run P w = .ok r w1 ∧ K r w1 else False
    | .value (.func f) => match P.funcs[f]? with
      | some fn => match fn.body with
        | some _ => gen P tk o K e w
        | none => bif known e o.op.operands then exRK (tk o.type) fun r => ∃ w1, (callFunc f (c.args.map (ro e))).run P w = .ok (.value r) w1 ∧ K r w1 else False
      | none => False
    | .builtin .unsafeString => bif known e o.op.operands then exRK (tk o.type) fun r => ∃ w1, (Builtin.unsafeString_ c.argTypes o.type (c.args.map (ro e))).run P w = .ok r w1 ∧ K r w1 else False
    | .builtin .unsafeSliceData => bif known e o.op.operands then exRK (tk o.type) fun r => ∃ w1, (Builtin.unsafeSliceData_ c.argTypes o.type (c.args.map (ro e))).run P w = .ok r w1 ∧ K r w1 else False
    | .builtin .clear => bif known e o.op.operands then ∃ r w1, (Builtin.clear_ c.argTypes o.type (c.args.map (ro e))).run P w = .ok r w1 ∧ K r w1 else False
    | .builtin .len => match ((c.args.map (ro e))[0]? : Option Value) with
      | some (Value.map _) => bif known e o.op.operands then exRK (tk o.type) fun r => ∃ w1, (Builtin.len_ c.argTypes o.type (c.args.map (ro e))).run P w = .ok r w1 ∧ K r w1 else False
      | _ => gen P tk o K e w
    | _ => gen P tk o K e w
  | .sliceToArrayPointer T x => match ev e x with
    | some vx => darr P T vx fun v => K v w
    | _ => False
  | .mapEntry T m i => match ev e m, ev e i with
    | some vm, some vi => ∃ (v0 : Value) (st : Int) (w1 : World), (Instr.mapEntry T vm vi).run P w = .ok (.tuple #[v0, .int .i64 st]) w1 ∧ K (.tuple #[v0, .int .i64 st]) w1
    | _, _ => False
  | .entryStore T m s x => match ev e m, ev e s, ev e x with
    | some vm, some vs, some vx => ∃ w1, (Instr.entryStore T vm vs vx).run P w = .ok () w1 ∧ K undef w1
    | _, _, _ => False
  | .entry it => match ev e it with
    | some vx => exRK (tk o.type) fun v => ∃ w1, (Instr.entry vx).run P w = .ok v w1 ∧ K v w1
    | _ => False
  | .select _ _ => False
  | _ => gen P tk o K e w

/-- What one operation comes to. -/
def Runs (P : Program) (o : Oper) (a : Act) (w : World) (K : Value → World → Prop) : Prop :=
  (∃ v w', (execOp a.eval o).run P w = .ok (.value v) w' ∧ K v w') ∨
  (∃ w', (execOp a.eval o).run P w = .ok .skip w' ∧ K undef w') ∨
  (∃ f args w', (execOp a.eval o).run P w = .ok (.enter f args) w' ∧ Calls P f args w' fun en w'' => ∃ v, en = .returned v ∧ K v w'')

theorem Runs.mono {P : Program} {o : Oper} {a : Act} {w : World} {K K' : Value → World → Prop} (h : Runs P o a w K) (hk : ∀ v w', K v w' → K' v w') : Runs P o a w K' := by
  rcases h with ⟨v, w', h, hK⟩ | ⟨w', h, hK⟩ | ⟨f, args, w', h, hc⟩
  · exact .inl ⟨v, w', h, hk _ _ hK⟩
  · exact .inr (.inl ⟨w', h, hk _ _ hK⟩)
  · exact .inr (.inr ⟨f, args, w', h, hc.mono fun en w'' ⟨v, hv, hK⟩ => ⟨v, hv, hk _ _ hK⟩⟩)

theorem Runs.wp {P : Program} {o : Oper} {a : Act} {w : World} {K : Value → World → Prop} {next : Act → World → Prop} {Q : Exit → Act → World → Prop}
    (h : Runs P o a w K) (hn : ∀ v w', K v w' → next (a.put o.dst v) w') : o.wp P a w next Q := by
  unfold Oper.wp
  rcases h with ⟨v, w', h, hK⟩ | ⟨w', h, hK⟩ | ⟨f, args, w', h, hc⟩
  · rw [h]; exact hn _ _ hK
  · rw [h]; exact hn _ _ hK
  · rw [h]
    exact hc.mono fun en w'' ⟨v, hv, hK⟩ => by subst hv; exact hn _ _ hK

section
variable {P : Program} {tk : TypeId → RK} {o : Oper} {K : Value → World → Prop} {e : Env} {a : Act} {w : World}

theorem known_eval (hA : Agrees e a) {xs : Array Operand} (h : known e xs = true) : ∀ x ∈ xs, a.eval x = ro e x := by
  intro x hx
  exact hA.ro (List.all_eq_true.1 h x (by simpa using hx))

theorem known_congr (hA : Agrees e a) (hs : isSel o.op = false) (h : known e o.op.operands = true) : execOp a.eval o = execOp (ro e) o :=
  execOp_congr o (fun cs b hc => by rw [hc] at hs; cases hs) (known_eval hA h)

theorem gen_sound (hA : Agrees e a) (hs : isSel o.op = false) (h : gen P tk o K e w) : Runs P o a w K := by
  unfold gen at h
  by_cases hk : known e o.op.operands = true
  · rw [hk] at h
    simp only [cond_true] at h
    have hc := known_congr hA hs hk
    unfold Runs
    rw [hc]
    split at h
    · rename_i v w' hr
      exact .inl ⟨v, w', hr, h⟩
    · rename_i w' hr
      exact .inr (.inl ⟨w', hr, h⟩)
    · rename_i f args w' hr
      refine .inr (.inr ⟨f, args, w', hr, h.mono fun en w'' hen => ?_⟩)
      exact exRK_out hen
    · exact h.elim
  · simp only [Bool.not_eq_true] at hk
    rw [hk] at h
    exact h.elim

theorem genA_sound (hA : Agrees e a) (hs : isSel o.op = false) (h : genA P o K e w) : Runs P o a w K := by
  unfold genA at h
  by_cases hk : known e o.op.operands = true
  · rw [hk] at h
    simp only [cond_true] at h
    have hc := known_congr hA hs hk
    unfold Runs
    rw [hc]
    split at h
    · rename_i v w' hr
      exact .inl ⟨v, w', hr, h⟩
    · exact h.elim
  · simp only [Bool.not_eq_true] at hk
    rw [hk] at h
    exact h.elim

theorem dflat_sound : ∀ {ls : List Lf} {A : Addr} {i : Nat} {K : List Value → Prop}, dflat ls A i w K → ∃ vs, rdCells w A i ls.length = some vs ∧ K vs
  | [], _, _, _, h => ⟨[], rfl, h⟩
  | l :: ls, A, i, K, h => by
    obtain ⟨v, hv, h⟩ := exLf_out h
    obtain ⟨vs, hvs, h⟩ := dflat_sound h
    exact ⟨v :: vs, by simp [rdCells, hv, hvs], h⟩

theorem dload_sound {T : TypeId} {A : Addr} {K : Value → Prop} (h : dload P tk T A w K) : ∃ v, (Instr.loadAt T (.pointer (some A))).run P w = .ok v w ∧ K v := by
  have e1 : (Instr.loadAt T (.pointer (some A))).run P w = (loadVar T A).run P w := by simp [Instr.loadAt, Instr.sureAddr]
  rw [e1]
  unfold dload at h
  split at h
  · exact h.elim
  · rename_i d hT
    cases hd : aggT d with
    | true =>
      rw [hd] at h
      simp only [cond_true] at h
      split at h
      · rename_i ls _
        by_cases hb : Nat.beq (P.cellsOf T) ls.length = true
        · rw [hb] at h
          simp only [cond_true] at h
          obtain ⟨vs, hvs, h⟩ := dflat_sound h
          rw [← Nat.eq_of_beq_eq_true hb] at hvs
          exact ⟨_, run_loadVar_agg hT hd hvs, h⟩
        · simp only [Bool.not_eq_true] at hb; rw [hb] at h; exact h.elim
      · obtain ⟨cs, hc, h⟩ := h
        exact ⟨_, run_loadVar_agg hT hd hc, h⟩
    | false =>
      rw [hd] at h
      simp only [cond_false] at h
      split at h
      · obtain ⟨v, hv, h⟩ := exLf_out h
        exact ⟨v, run_loadVar_one hT hd hv, h⟩
      · exact h.elim

theorem plain_cells {v : Value} (h : Plain v) : v.cells = #[v] := by cases v <;> first | rfl | exact h.elim

theorem add_zero' (A : Addr) : A.add 0 = A := rfl

theorem dstore_sound {T : TypeId} {A : Addr} {x : Value} {K : World → Prop} (h : dstore P tk T A x w K) :
    ∃ w', (Instr.storeAt T (.pointer (some A)) x).run P w = .ok () w' ∧ K w' := by
  have e1 : (Instr.storeAt T (.pointer (some A)) x).run P w = (storeVar T A x).run P w := by simp [Instr.storeAt, Instr.sureAddr]
  rw [e1]
  unfold dstore at h
  split at h
  · exact h.elim
  · rename_i d hT
    cases hd : aggT d with
    | true =>
      rw [hd] at h
      simp only [cond_true] at h
      split at h
      · rename_i cs
        exact ⟨_, run_storeVar (v := .agg cs) hT h.2.1 h.1, h.2.2⟩
      · exact h.elim
    | false =>
      rw [hd] at h
      simp only [cond_false] at h
      have one : ∀ (hp : Plain x) (hb : Nat.beq (P.cellsOf T) 1 = true), ((∃ u, w.cell? A = some u) ∧ w.frozen? A = false ∧ K (w.setCell A x)) → ∃ w', (storeVar T A x).run P w = .ok () w' ∧ K w' := by
        intro hp hb ⟨⟨u, hu⟩, hf, hK⟩
        refine ⟨_, run_storeVar (v := x) hT ?_ ?_, ?_⟩
        · rw [plain_cells hp, Nat.eq_of_beq_eq_true hb]; rfl
        · rw [plain_cells hp]
          refine ⟨fun i hi => ?_, fun v hv => ?_⟩
          · have : i = 0 := by simpa using hi
            subst this
            rw [add_zero', hu]
            exact ⟨rfl, hf⟩
          · have : v = x := by simpa using hv
            subst this; exact hp
        · rw [plain_cells hp]
          exact hK
      by_cases hb : Nat.beq (P.cellsOf T) 1 = true
      · have hb' := hb
        rw [hb] at h
        simp only [cond_true] at h
        split at h
        · exact one h.1 hb' h.2
        · split at h
          · exact h.elim
          · exact h.elim
          · rename_i h1 h2
            refine one ?_ hb' h
            cases x <;> first | exact trivial | (exact absurd rfl (h1 _)) | (exact absurd rfl (h2 _))
      · simp only [Bool.not_eq_true] at hb; rw [hb] at h; exact h.elim

theorem args_map (hA : Agrees e a) {xs : Array Operand} (h : known e xs = true) : xs.map a.eval = xs.map (ro e) :=
  Array.map_congr_left fun x hx => known_eval hA h x hx

theorem DOp_sound (hA : Agrees e a) (h : DOp P tk o K e w) : Runs P o a w K := by
  unfold DOp at h
  split at h
  case h_1 x hop =>
    split at h
    · rename_i p hx
      obtain ⟨A, rfl, hK⟩ := h
      exact .inl ⟨_, _, by simp [execOp, hop, hA.ev hx], hK⟩
    · exact h.elim
  case h_2 T x hop =>
    split at h
    · rename_i A hx
      obtain ⟨v, hv, hK⟩ := dload_sound h
      exact .inl ⟨v, w, by simp [execOp, hop, hA.ev hx, hv], hK⟩
    · exact h.elim
  case h_3 T x y hop =>
    split at h
    · rename_i A v hx hy
      obtain ⟨w', hw, hK⟩ := dstore_sound h
      exact .inr (.inl ⟨w', by simp [execOp, hop, hA.ev hx, hA.ev hy, hw], hK⟩)
    · exact h.elim
  case h_4 op T x y yt hop =>
    split at h
    · rename_i vx vy hx hy
      by_cases ho : opqT P T y = true
      · rw [ho] at h
        simp only [cond_true] at h
        obtain ⟨b, hb, hK⟩ := h
        exact .inl ⟨_, w, by
          simp only [execOp, hop, hA.ev hx, hA.ev hy]
          have hv' := hb w
          simp only [Sem.run_bind] at hv' ⊢
          rw [hv']; rfl, hK⟩
      simp only [Bool.not_eq_true] at ho
      rw [ho] at h
      simp only [cond_false] at h
      by_cases hn : notNilI y vy = true
      · rw [hn] at h
        simp only [cond_true] at h
        have hnil : vy = .nilIface → ∃ c, y = .const c := by
          intro hv
          subst hv
          cases y <;> simp [notNilI] at hn ⊢
        rcases dbin_sound (xo := x) (yo := y) hnil h with hg | ⟨v, hv, hK⟩
        · exact gen_sound hA (by rw [hop]; rfl) hg
        · exact .inl ⟨v, w, by
            simp only [execOp, hop, hA.ev hx, hA.ev hy]
            have hv' := hv w
            simp only [Sem.run_bind] at hv' ⊢
            rw [hv']; rfl, hK⟩
      · simp only [Bool.not_eq_true] at hn; rw [hn] at h; exact h.elim
    · exact h.elim
  case h_5 T x i hop =>
    split at h
    · rename_i vx vi hx hi
      obtain ⟨v, hv, hK⟩ := dindexAddr_sound h
      exact .inl ⟨v, w, by simp [execOp, hop, hA.ev hx, hA.ev hi, hv], hK⟩
    · exact h.elim
  case h_6 T x i hop =>
    split at h
    · rename_i vx vi hx hi
      obtain ⟨v, hv, hK⟩ := dindex_sound h
      exact .inl ⟨v, w, by simp [execOp, hop, hA.ev hx, hA.ev hi, hv], hK⟩
    · exact h.elim
  case h_7 T x i hop =>
    split at h
    · rename_i vx hx
      obtain ⟨v, hv, hK⟩ := dfield_sound h
      exact .inl ⟨v, w, by simp [execOp, hop, hA.ev hx, hv], hK⟩
    · exact h.elim
  case h_8 T hop => exact genA_sound hA (by rw [hop]; rfl) h
  case h_9 T x hop => exact genA_sound hA (by rw [hop]; rfl) h
  case h_10 T n ps hop =>
    split at h
    · by_cases hk : known e o.op.operands = true
      · rw [hk] at h
        simp only [cond_true] at h
        have hc := known_congr hA (by rw [hop]; rfl) hk
        obtain ⟨r, w1, hr, hK⟩ := exRK_out h
        exact .inl ⟨r, w1, by rw [hc]; simp [execOp, hop]; rw [hr]; rfl, hK⟩
      · simp only [Bool.not_eq_true] at hk; rw [hk] at h; exact h.elim
    · exact genA_sound hA (by rw [hop]; rfl) h
  case h_11 T x lo hi mx hop =>
    by_cases hk : known e o.op.operands = true
    · rw [hk] at h
      simp only [cond_true] at h
      have hc := known_congr hA (by rw [hop]; rfl) hk
      obtain ⟨v, hv, hK⟩ := dslice_sound h
      exact .inl ⟨v, w, by rw [hc]; simp [execOp, hop, hv], hK⟩
    · simp only [Bool.not_eq_true] at hk; rw [hk] at h; exact h.elim
  case h_12 T l c hop =>
    split at h
    · rename_i vl vc hl hc
      obtain ⟨v, w', hv, hK⟩ := dmakeSlice_sound h
      exact .inl ⟨v, w', by simp [execOp, hop, hA.ev hl, hA.ev hc, hv], hK⟩
    · exact h.elim
  case h_13 s d x hop =>
    split at h
    · rename_i k n hx
      by_cases hs : (P.underlying s).isSome = true
      · rw [hs] at h
        simp only [cond_true] at h
        obtain ⟨ds, hds⟩ := cells_of _ hs
        split at h
        · rename_i k' hd
          exact .inl ⟨_, _, by simp [execOp, hop, hA.ev hx, convert, run_underlying' hds, run_underlying' hd, Conv.intToInt], h⟩
        · obtain ⟨r, w1, hr, hK⟩ := exRK_out h
          exact .inl ⟨r, w1, by simp [execOp, hop, hA.ev hx, hr], hK⟩
      · simp only [Bool.not_eq_true] at hs; rw [hs] at h; exact h.elim
    · rename_i v _ hx
      obtain ⟨r, w1, hr, hK⟩ := exRK_out h
      exact .inl ⟨r, w1, by simp [execOp, hop, hA.ev hx, hr], hK⟩
    · exact h.elim
  case h_14 t ps hop =>
    split at h
    · exact gen_sound hA (by rw [hop]; rfl) h
    · by_cases hk : known e o.op.operands = true
      · rw [hk] at h
        simp only [cond_true] at h
        have hc := known_congr hA (by rw [hop]; rfl) hk
        obtain ⟨cs, hr, hK⟩ := h
        exact .inl ⟨_, _, by rw [hc]; simp [execOp, hop]; rw [hr]; rfl, hK⟩
      · simp only [Bool.not_eq_true] at hk; rw [hk] at h; exact h.elim
  case h_15 T m i ok hop =>
    split at h
    · rename_i vm vi hm hi
      obtain ⟨r, w1, hr, hK⟩ := exRK_out h
      exact .inl ⟨r, w1, by simp [execOp, hop, hA.ev hm, hA.ev hi, hr], hK⟩
    · exact h.elim
  case h_16 T m i x hop =>
    split at h
    · rename_i vm vi vx hm hi hx
      obtain ⟨w1, hr, hK⟩ := h
      exact .inr (.inl ⟨w1, by simp [execOp, hop, hA.ev hm, hA.ev hi, hA.ev hx, hr], hK⟩)
    · exact h.elim
  case h_17 T r hop =>
    by_cases hk : known e o.op.operands = true
    · rw [hk] at h
      simp only [cond_true] at h
      have hc := known_congr hA (by rw [hop]; rfl) hk
      obtain ⟨v, w1, hr, hK⟩ := exRK_out h
      exact .inl ⟨v, w1, by rw [hc]; simp [execOp, hop, hr], hK⟩
    · simp only [Bool.not_eq_true] at hk; rw [hk] at h; exact h.elim
  case h_18 T x hop =>
    split at h
    · rename_i vx hx
      obtain ⟨v, w1, hr, hK⟩ := h
      exact .inl ⟨v, w1, by simp [execOp, hop, hA.ev hx, hr], hK⟩
    · exact h.elim
  case h_19 it isS hop =>
    split at h
    · rename_i vx hx
      rcases h with h | ⟨w1, hr, hK⟩
      · cases isS with
        | true =>
          obtain ⟨n, c, w1, hr, hK⟩ := h
          exact .inl ⟨_, w1, by simp [execOp, hop, hA.ev hx, hr], hK⟩
        | false =>
          obtain ⟨k, v, w1, hr, hK⟩ := h
          exact .inl ⟨_, w1, by simp [execOp, hop, hA.ev hx, hr], hK⟩
      · exact .inl ⟨_, w1, by simp [execOp, hop, hA.ev hx, hr], hK⟩
    · exact h.elim
  case h_20 c hop =>
    have bi : ∀ (b : Builtin) (r : Value) (w1 : World), c.callee = .builtin b → known e o.op.operands = true →
        (∀ cs, (Go.builtin b c.argTypes o.type cs (c.args.map (ro e))).run P w = .ok (.value r) w1) → K r w1 → Runs P o a w K := by
      intro b r w1 hb hk hr hK
      have hc := known_congr hA (by rw [hop]; rfl) hk
      exact .inl ⟨r, w1, by rw [hc]; simp [execOp, hop, resolve, hb, invoke, hr], hK⟩
    have kn : ∀ {X : Prop}, (bif known e o.op.operands then X else False) → known e o.op.operands = true ∧ X := by
      intro X hX
      by_cases hk : known e o.op.operands = true
      · rw [hk] at hX; exact ⟨hk, hX⟩
      · simp only [Bool.not_eq_true] at hk; rw [hk] at hX; exact hX.elim
    split at h
    · rename_i k hb
      split at h
      · rename_i f pre cap hg
        obtain ⟨hk, hcall, h⟩ := kn h
        have hc := known_congr hA (by rw [hop]; rfl) hk
        refine .inr (.inr ⟨f, pre ++ c.args.map (ro e) ++ cap, w, ?_, h.mono fun en w1 h1 => ?_⟩)
        · have hro : ro e (.tmp k) = .func (.func f) pre cap := by simp [ro, ev, hg]
          rw [hc]
          simp [execOp, hop, resolve, hb, hro, Deferred.ofValue, invoke, run_callFunc hcall]
        · obtain ⟨v, hv, hK⟩ := exRK_out h1
          exact ⟨v, hv, hK⟩
      · exact gen_sound hA (by rw [hop]; rfl) h
    · rename_i hb
      obtain ⟨hk, h⟩ := kn h
      obtain ⟨r, w1, hr, hK⟩ := exRK_out h
      exact bi _ r w1 hb hk (fun _ => by simp [Go.builtin, hr]) hK
    · rename_i hb
      obtain ⟨hk, h⟩ := kn h
      obtain ⟨r, w1, hr, hK⟩ := exRK_out h
      exact bi _ r w1 hb hk (fun _ => by simp [Go.builtin, hr]) hK
    · rename_i hb
      obtain ⟨hk, h⟩ := kn h
      obtain ⟨r, w1, hr, hK⟩ := exRK_out h
      exact bi _ r w1 hb hk (fun _ => by simp [Go.builtin, hr]) hK
    · rename_i hb
      obtain ⟨hk, h⟩ := kn h
      obtain ⟨r, w1, hr, hK⟩ := exRK_out h
      exact bi _ r w1 hb hk (fun _ => by simp [Go.builtin, hr]) hK
    · rename_i hb
      obtain ⟨hk, r, w1, hr, hK⟩ := kn h
      exact bi _ r w1 hb hk (fun _ => by simp [Go.builtin, hr]) hK
    · rename_i f hb
      split at h
      · rename_i fn hfn
        split at h
        · exact gen_sound hA (by rw [hop]; rfl) h
        · obtain ⟨hk, h⟩ := kn h
          obtain ⟨r, w1, hr, hK⟩ := exRK_out h
          have hc := known_congr hA (by rw [hop]; rfl) hk
          refine .inl ⟨r, w1, ?_, hK⟩
          rw [hc]
          have hro : ro e (.func f) = .func (.func f) #[] #[] := by simp [ro, ev]
          simp [execOp, hop, resolve, hb, hro, Deferred.ofValue, invoke, hr]
      · exact h.elim
    · rename_i hb
      obtain ⟨hk, h⟩ := kn h
      obtain ⟨r, w1, hr, hK⟩ := exRK_out h
      exact bi _ r w1 hb hk (fun _ => by simp [Go.builtin, hr]) hK
    · rename_i hb
      obtain ⟨hk, h⟩ := kn h
      obtain ⟨r, w1, hr, hK⟩ := exRK_out h
      exact bi _ r w1 hb hk (fun _ => by simp [Go.builtin, hr]) hK
    · rename_i hb
      obtain ⟨hk, r, w1, hr, hK⟩ := kn h
      exact bi _ r w1 hb hk (fun _ => by simp [Go.builtin, hr]) hK
    · rename_i hb
      split at h
      · obtain ⟨hk, h⟩ := kn h
        obtain ⟨r, w1, hr, hK⟩ := exRK_out h
        exact bi _ r w1 hb hk (fun _ => by simp [Go.builtin, hr]) hK
      · exact gen_sound hA (by rw [hop]; rfl) h
    · exact gen_sound hA (by rw [hop]; rfl) h
  case h_21 T x hop =>
    split at h
    · rename_i vx hx
      obtain ⟨v, hv, hK⟩ := darr_sound h
      exact .inl ⟨v, w, by simp [execOp, hop, hA.ev hx, hv], hK⟩
    · exact h.elim
  case h_22 T m i hop =>
    split at h
    · rename_i vm vi hm hi
      obtain ⟨v0, st, w1, hr, hK⟩ := h
      exact .inl ⟨_, w1, by simp [execOp, hop, hA.ev hm, hA.ev hi, hr], hK⟩
    · exact h.elim
  case h_23 T m s x hop =>
    split at h
    · rename_i vm vs vx hm hs hx
      obtain ⟨w1, hr, hK⟩ := h
      exact .inr (.inl ⟨w1, by simp [execOp, hop, hA.ev hm, hA.ev hs, hA.ev hx, hr], hK⟩)
    · exact h.elim
  case h_24 it hop =>
    split at h
    · rename_i vx hx
      obtain ⟨v, w1, hr, hK⟩ := exRK_out h
      exact .inl ⟨v, w1, by simp [execOp, hop, hA.ev hx, hr], hK⟩
    · exact h.elim
  case h_25 => exact h.elim
  case h_26 => 
    refine gen_sound hA ?_ h
    cases hop : o.op <;> first | rfl | simp_all

end

end Gx
