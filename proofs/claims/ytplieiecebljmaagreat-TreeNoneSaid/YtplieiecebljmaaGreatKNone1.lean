/- What a Go program of the model must show, as text that can be read; sound against the kit. -/
import Derived.Below
import Derived.KernelRfl
import Derived.Laws.BytesString
import Derived.OpenShut
import Derived.OrdersHeld
import Derived.ProofKit
import Derived.StillTail
import Derived.Tactics
import Derived.WalkKit
import Derived.WideKeyArgs
namespace Gx
open Go
structure Sl where
 a : Option Addr
 len : Nat
 cap : Nat
structure Fv where
 f : FuncId
 pre : Array Value
 cap : Array Value
inductive Lf where
 | int (k : IntKind) | bool | str | ptr | slice | map | agg | fn | any
def Lf.T : Lf → Type
 | .int _ => Int
 | .bool => Bool
 | .str => ByteArray
 | .ptr => Option Addr
 | .slice => Sl
 | .map => Option Nat
 | .agg => Array Value
 | .fn => Fv
 | .any => Value
def Lf.v : (l : Lf) → l.T → Value
 | .int k, (n : Int) => .int k n
 | .bool, (b : Bool) => .bool b
 | .str, (s : ByteArray) => .string s
 | .ptr, (p : Option Addr) => .pointer p
 | .slice, (s : Sl) => .slice s.a s.len s.cap
 | .map, (r : Option Nat) => .map r
 | .agg, (cs : Array Value) => .agg cs
 | .fn, (F : Fv) => .func (.func F.f) F.pre F.cap
 | .any, (v : Value) => v
inductive Kd where
 | one (l : Lf)
 | flat (ls : List Lf)
def exLf (l : Lf) (K : Value → Prop) : Prop :=
 match l with
 | .int k => ∃ n : Int, K (.int k n)
 | .bool => ∃ b : Bool, K (.bool b)
 | .str => ∃ s : ByteArray, K (.string s)
 | .ptr => ∃ p : Option Addr, K (.pointer p)
 | .slice => ∃ s : Sl, K (.slice s.a s.len s.cap)
 | .map => ∃ r : Option Nat, K (.map r)
 | .agg => ∃ cs : Array Value, K (.agg cs)
 | .fn => ∃ F : Fv, K (.func (.func F.f) F.pre F.cap)
 | .any => ∃ v : Value, K v
def exLfs : List Lf → (List Value → Prop) → Prop
 | [], K => K []
 | l :: ls, K => exLf l fun v => exLfs ls fun vs => K (v :: vs)
def exKd (k : Kd) (K : Value → Prop) : Prop :=
 match k with
 | .one l => exLf l K
 | .flat ls => exLfs ls fun vs => K (.agg vs.toArray)
def exKds : List Kd → (List Value → Prop) → Prop
 | [], K => K []
 | k :: ks, K => exKd k fun v => exKds ks fun vs => K (v :: vs)
theorem exLf_out {l : Lf} {K : Value → Prop} (h : exLf l K) : ∃ v, K v := by
 cases l <;> simp only [exLf] at h <;> obtain ⟨x, h⟩ := h <;> exact ⟨_, h⟩
theorem exLfs_out : ∀ {ls : List Lf} {K : List Value → Prop}, exLfs ls K → ∃ vs, K vs
 | [], _, h => ⟨_, h⟩
 | _ :: _, _, h => let ⟨_, h⟩ := exLf_out h; let ⟨_, h⟩ := exLfs_out h; ⟨_, h⟩
theorem exKd_out {k : Kd} {K : Value → Prop} (h : exKd k K) : ∃ v, K v := by
 cases k with
 | one l => exact exLf_out h
 | flat ls => obtain ⟨_, h⟩ := exLfs_out h; exact ⟨_, h⟩
theorem exKds_out : ∀ {ls : List Kd} {K : List Value → Prop}, exKds ls K → ∃ vs, K vs
 | [], _, h => ⟨_, h⟩
 | _ :: _, _, h => let ⟨_, h⟩ := exKd_out h; let ⟨_, h⟩ := exKds_out h; ⟨_, h⟩
abbrev Env := List (Nat × Value)
def Env.get : Env → Nat → Option Value
 | [], _ => none
 | (k, v) :: e, s => bif Nat.beq k s then some v else Env.get e s
def ev (e : Env) : Operand → Option Value
 | .tmp t => e.get t
 | .const v => some v
 | .global g => some (.pointer (some ⟨g, 0, none⟩))
 | .func f => some (.func (.func f) #[] #[])
def ro (e : Env) (x : Operand) : Value := (ev e x).getD undef
def known (e : Env) (xs : Array Operand) : Bool := xs.toList.all fun x => (ev e x).isSome
structure Agrees (e : Env) (a : Act) : Prop where
 get : ∀ s v, e.get s = some v → a.tmps[s]? = some v
theorem Agrees.ev {e : Env} {a : Act} (h : Agrees e a) {x : Operand} {v : Value} (hx : ev e x = some v) : a.eval x = v := by
 cases x with
 | tmp t =>
   have := h.get t v hx
   simp [Act.eval, Array.getD_eq_getD_getElem?, this]
 | const c => simpa [Gx.ev, Act.eval] using hx
 | global g => simpa [Gx.ev, Act.eval] using hx
 | func f => simpa [Gx.ev, Act.eval] using hx
theorem Agrees.ro {e : Env} {a : Act} (h : Agrees e a) {x : Operand} (hx : (Gx.ev e x).isSome = true) : a.eval x = ro e x := by
 obtain ⟨v, hv⟩ := Option.isSome_iff_exists.1 hx
 rw [h.ev hv, Gx.ro, hv]; rfl
def eput (d : Option Nat) (v : Value) (e : Env) : Env :=
 match d with
 | some d => (d, v) :: e
 | none => e
theorem get_cons (d : Nat) (v : Value) (e : Env) (s : Nat) : Env.get ((d, v) :: e) s = if d = s then some v else e.get s := by
 simp only [Env.get, cond_eq_ite]
 by_cases hds : d = s
 · subst hds; simp
 · have : Nat.beq d s = false := by
     cases hb : Nat.beq d s
     · rfl
     · exact absurd (Nat.eq_of_beq_eq_true hb) hds
   simp [this, hds]
theorem Agrees.put {e : Env} {a : Act} (h : Agrees e a) {d : Option Nat} {v : Value} (hd : ∀ k, d = some k → k < a.tmps.size) : Agrees (eput d v e) (a.put d v) := by
 cases d with
 | none => exact h
 | some d =>
   constructor
   intro s u hs
   rw [eput, get_cons] at hs
   simp only [Act.put]
   by_cases hds : d = s
   · subst hds
     simp only [if_true, Option.some.injEq] at hs
     subst hs
     simp [hd d rfl]
   · rw [if_neg hds] at hs
     rw [Array.getElem?_setIfInBounds_ne hds]
     exact h.get s u hs
inductive RK where
 | one (k : Kd)
 | tup (ks : List Kd)
def exRK (r : RK) (K : Value → Prop) : Prop :=
 match r with
 | .one k => exKd k K
 | .tup ks => exKds ks fun vs => K (.tuple vs.toArray)
theorem exRK_out {r : RK} {K : Value → Prop} (h : exRK r K) : ∃ v, K v := by
 cases r with
 | one k => exact exKd_out h
 | tup ks => obtain ⟨_, h⟩ := exKds_out h; exact ⟨_, h⟩
def rdCells (w : World) (A : Addr) : Nat → Nat → Option (List Value)
 | _, 0 => some []
 | i, n + 1 => match w.cell? (A.add i), rdCells w A (i + 1) n with
   | some v, some vs => some (v :: vs)
   | _, _ => none
def setCells (w : World) (A : Addr) : Nat → List Value → World
 | _, [] => w
 | i, v :: vs => setCells (w.setCell (A.add i) v) A (i + 1) vs
def Plain : Value → Prop
 | .agg _ => False
 | .tuple _ => False
 | _ => True
def StoreOk (w : World) (A : Addr) (vs : List Value) : Prop :=
 (∀ i, i < vs.length → (w.cell? (A.add i)).isSome = true ∧ w.frozen? (A.add i) = false) ∧ ∀ v ∈ vs, Plain v
def aggT : TypeDesc → Bool
 | .struct _ => true
 | .array _ _ => true
 | _ => false
def zrow (P : Program) (elem : TypeId) (n : Nat) : Array Value :=
 let zero := if n * P.cellsOf elem = 0 then #[] else (((P.info? elem).bind (·.zero)).getD undef).cells
 (Array.range (n * P.cellsOf elem)).map (zero[· % zero.size]!)
section
variable {P : Program} {w : World}
theorem run_underlying' {t : TypeId} {d : TypeDesc} (h : P.underlying t = some d) : (underlying t).run P w = .ok d w := by
 simp [underlying, program, Sem.run, bind, Sem.bind, h, pure]
theorem run_typeInfo' {t : TypeId} {d : TypeInfo} (h : P.info? t = some d) : (typeInfo t).run P w = .ok d w := by
 simp [typeInfo, program, Sem.run, bind, Sem.bind, h, pure]
theorem info_of_underlying {t : TypeId} {d : TypeDesc} (h : P.underlying t = some d) : ∃ i, P.info? t = some i := by
 unfold Program.underlying at h
 cases hi : P.info? t with
 | none => simp [hi] at h
 | some i => exact ⟨i, rfl⟩
theorem run_sizeOf' {t : TypeId} {d : TypeDesc} (h : P.underlying t = some d) : (Go.sizeOf t).run P w = .ok (P.cellsOf t) w := by
 obtain ⟨i, hi⟩ := info_of_underlying h
 simp [Go.sizeOf, run_typeInfo' hi, Program.cellsOf, hi]
theorem run_isAgg' {t : TypeId} {d : TypeDesc} (h : P.underlying t = some d) : (isAgg t).run P w = .ok (aggT d) w := by
 simp only [isAgg, Sem.run_bind, run_underlying' h, Result.andThen]
 cases d <;> rfl
theorem run_load' {A : Addr} {v : Value} (h : w.cell? A = some v) : (load A).run P w = .ok v w := by
 simp [load, Sem.run, h]
theorem run_loadCellsFrom {A : Addr} : ∀ (n i : Nat) (acc : Array Value) (vs : List Value), rdCells w A i n = some vs →
   (loadCellsFrom A i n acc).run P w = .ok (acc ++ vs.toArray) w
 | 0, i, acc, vs, h => by
   simp only [rdCells, Option.some.injEq] at h
   subst h
   simp [loadCellsFrom]
 | n + 1, i, acc, vs, h => by
   simp only [rdCells] at h
   cases h1 : w.cell? (A.add i) with
   | none => simp [h1] at h
   | some v =>
     cases h2 : rdCells w A (i + 1) n with
     | none => simp [h1, h2] at h
     | some us =>
       simp only [h1, h2, Option.some.injEq] at h
       subst h
       simp only [loadCellsFrom, Sem.run_bind, run_load' h1, Result.andThen]
       rw [run_loadCellsFrom n (i + 1) (acc.push v) us h2]
       simp
theorem run_loadVar_agg {T : TypeId} {d : TypeDesc} (hT : P.underlying T = some d) (hd : aggT d = true) {A : Addr} {vs : List Value} (h : rdCells w A 0 (P.cellsOf T) = some vs) :
   (loadVar T A).run P w = .ok (.agg vs.toArray) w := by
 simp only [loadVar, Sem.run_bind, run_isAgg' hT, Result.andThen, hd, if_true, run_sizeOf' hT, loadCells, run_loadCellsFrom _ _ _ _ h]
 simp
theorem run_loadVar_one {T : TypeId} {d : TypeDesc} (hT : P.underlying T = some d) (hd : aggT d = false) {A : Addr} {v : Value} (h : w.cell? A = some v) :
   (loadVar T A).run P w = .ok v w := by
 simp only [loadVar, Sem.run_bind, run_isAgg' hT, Result.andThen, hd, Bool.false_eq_true, if_false, run_load' h]
theorem run_store' {A : Addr} {v u : Value} (hv : Plain v) (h : w.cell? A = some u) (hf : w.frozen? A = false) : (store A v).run P w = .ok () (w.setCell A v) := by
 cases v <;> simp_all [store, Sem.run, Plain]
theorem setCell_isSome (w : World) (A B : Addr) (v : Value) : ((w.setCell A v).cell? B).isSome = (w.cell? B).isSome := by
 simp only [World.setCell, World.cell?, Array.getElem?_modify]
 by_cases hb : A.block = B.block
 · simp only [hb, if_true]
   cases w.heap[B.block]? with
   | none => rfl
   | some o =>
     cases o <;> simp
     by_cases hs : B.spot.isSome <;> simp [hs]
     by_cases hs2 : A.spot.isSome <;> simp [hs2]
     rw [Bool.eq_iff_iff]; simp
 · simp [hb]
theorem setCell_frozen (w : World) (A B : Addr) (v : Value) : (w.setCell A v).frozen? B = w.frozen? B := by
 simp only [World.setCell, World.frozen?, Array.getElem?_modify]
 by_cases hb : A.block = B.block
 · simp only [hb, if_true]
   cases w.heap[B.block]? with
   | none => rfl
   | some o => cases o <;> rfl
 · simp [hb]
theorem run_storeCells {A : Addr} : ∀ (vs : List Value) (i : Nat) (w : World), (∀ j, j < vs.length → (w.cell? (A.add (i + j))).isSome = true ∧ w.frozen? (A.add (i + j)) = false) → (∀ v ∈ vs, Plain v) →
   (storeCells A vs i).run P w = .ok () (setCells w A i vs)
 | [], i, w, _, _ => rfl
 | v :: vs, i, w, h, hp => by
   have h0 := h 0 (by simp)
   simp only [Nat.add_zero] at h0
   obtain ⟨u, hu⟩ := Option.isSome_iff_exists.1 h0.1
   simp only [storeCells, Sem.run_bind, run_store' (P := P) (hp v (by simp)) hu h0.2, Result.andThen, setCells]
   refine run_storeCells vs (i + 1) (w.setCell (A.add i) v) (fun j hj => ?_) (fun x hx => hp x (by simp [hx]))
   have := h (j + 1) (by simp; omega)
   rw [setCell_isSome, setCell_frozen, show i + 1 + j = i + (j + 1) by omega]
   exact this
theorem run_storeVar {T : TypeId} {d : TypeDesc} (hT : P.underlying T = some d) {A : Addr} {v : Value} (hs : v.cells.size = P.cellsOf T) (h : StoreOk w A v.cells.toList) :
   (storeVar T A v).run P w = .ok () (setCells w A 0 v.cells.toList) := by
 simp only [storeVar, Sem.run_bind, run_sizeOf' hT, Result.andThen, hs, ne_eq, not_true, if_false]
 simpa using run_storeCells v.cells.toList 0 w (by simpa using h.1) h.2
end
def dflat : List Lf → Addr → Nat → World → (List Value → Prop) → Prop
 | [], _, _, _, K => K []
 | l :: ls, A, i, w, K => exLf l fun v => w.cell? (A.add i) = some v ∧ dflat ls A (i + 1) w fun vs => K (v :: vs)
def dload (P : Program) (tk : TypeId → RK) (T : TypeId) (A : Addr) (w : World) (K : Value → Prop) : Prop :=
 match P.underlying T with
 | none => False
 | some d =>
   bif aggT d then
     match tk T with
     | .one (.flat ls) => bif Nat.beq (P.cellsOf T) ls.length then dflat ls A 0 w fun vs => K (.agg vs.toArray) else False
     | _ => ∃ cs : List Value, rdCells w A 0 (P.cellsOf T) = some cs ∧ K (.agg cs.toArray)
   else
     match tk T with
     | .one (.one l) => exLf l fun v => w.cell? A = some v ∧ K v
     | _ => False
def dstore (P : Program) (tk : TypeId → RK) (T : TypeId) (A : Addr) (x : Value) (w : World) (K : World → Prop) : Prop :=
 match P.underlying T with
 | none => False
 | some d =>
   bif aggT d then
     match x with
     | .agg cs => StoreOk w A cs.toList ∧ cs.size = P.cellsOf T ∧ K (setCells w A 0 cs.toList)
     | _ => False
   else bif Nat.beq (P.cellsOf T) 1 then
     match tk T with
     | .one (.one .any) => Plain x ∧ (∃ u, w.cell? A = some u) ∧ w.frozen? A = false ∧ K (w.setCell A x)
     | _ => match x with
       | .agg _ => False
       | .tuple _ => False
       | _ => (∃ u, w.cell? A = some u) ∧ w.frozen? A = false ∧ K (w.setCell A x)
   else False
def AggEq (P : Program) (T : TypeId) (xs ys : Array Value) (b : Bool) : Prop :=
 P.eqGuardType P.depth T = false ∧ ∀ w, (Op.equal T (.agg xs) (.agg ys)).run P w = .ok b w
def ifaceNil : Value → Option Bool
 | .nilIface => some true
 | .iface _ _ => some false
 | _ => none
def isIfaceT : Option TypeDesc → Bool
 | some (.interface _) => true
 | _ => false
def isPtrT : Option TypeDesc → Bool
 | some (.pointer _) => true
 | _ => false
def isSliceT : Option TypeDesc → Bool
 | some (.slice _) => true
 | _ => false
def isMapT : Option TypeDesc → Bool
 | some (.map _ _) => true
 | _ => false
def kEq : IntKind → IntKind → Bool := fun a b => decide (a = b)
def dbin (P : Program) (op : BinOp) (T : TypeId) (x y : Value) (K : Value → Prop) (G : Prop) : Prop :=
 match y with
 | .nilIface => bif isIfaceT (P.underlying T) then
     match op with
     | .eql => ∃ b, ifaceNil x = some b ∧ K (.bool b)
     | .neq => ∃ b, ifaceNil x = some b ∧ K (.bool (!b))
     | _ => False
   else False
 | .pointer none => bif isPtrT (P.underlying T) then
     match op, x with
     | .eql, .pointer p => K (.bool p.isNone)
     | .neq, .pointer p => K (.bool (!p.isNone))
     | _, _ => False
   else False
 | .slice none _ _ => bif isSliceT (P.underlying T) then
     match op, x with
     | .eql, .slice a _ _ => K (.bool a.isNone)
     | .neq, .slice a _ _ => K (.bool (!a.isNone))
     | _, _ => False
   else False
 | .map none => bif isMapT (P.underlying T) then
     match op, x with
     | .eql, .map r => K (.bool r.isNone)
     | .neq, .map r => K (.bool (!r.isNone))
     | _, _ => False
   else False
 | .agg ys =>
     match op, x with
     | .eql, .agg xs => ∃ b, AggEq P T xs ys b ∧ K (.bool b)
     | .neq, .agg xs => ∃ b, AggEq P T xs ys b ∧ K (.bool (!b))
     | _, _ => False
 | .int k' b =>
     match op, x with
     | .quo, .int k a => bif kEq k k' then b ≠ 0 ∧ K (.int k (k.wrap (a.tdiv b))) else False
     | .rem, .int k a => bif kEq k k' then b ≠ 0 ∧ K (.int k (a.tmod b)) else False
     | .shl, .int k a => 0 ≤ b ∧ K (.int k (k.wrap (a * 2 ^ (min b.toNat k.bits))))
     | .shr, .int k a => 0 ≤ b ∧ K (.int k (a.fdiv (2 ^ (min b.toNat k.bits))))
     | _, _ => G
 | .bool b => match P.underlying T with
     | some .bool => match op, x with
       | .eql, .bool a => K (.bool (a == b))
       | .neq, .bool a => K (.bool (!(a == b)))
       | _, _ => False
     | _ => False
 | .string b =>
     match op, x with
     | .add, .string a => ((a.size + b.size : Nat) : Int) ≤ 9223372036854775807 ∧ K (.string (a ++ b))
     | _, _ => G
 | _ => G
section
variable {P : Program}
theorem equal_succ (T : TypeId) (x y : Value) : Op.equal T x y = Op.equalIn (9999 + 1) T x y := rfl
theorem run_ifaceNil_d (d : Nat) {T : TypeId} {x : Value} {b : Bool} (hT : isIfaceT (P.underlying T) = true) (h : ifaceNil x = some b) (w : World) :
   (Op.equalIn (d + 1) T x .nilIface).run P w = .ok b w := by
 cases hu : P.underlying T with
 | none => simp [hu, isIfaceT] at hT
 | some d =>
   cases d <;> simp only [hu, isIfaceT, Bool.false_eq_true] at hT
   simp only [Op.equalIn, Sem.run_bind, run_underlying' hu, Result.andThen]
   cases x <;> simp only [ifaceNil, reduceCtorEq, Option.some.injEq] at h <;> subst h <;> rfl
theorem run_ptrNil_d (d : Nat) {T : TypeId} {p : Option Addr} (hT : isPtrT (P.underlying T) = true) (w : World) :
   (Op.equalIn (d + 1) T (.pointer p) (.pointer none)).run P w = .ok p.isNone w := by
 cases hu : P.underlying T with
 | none => simp [hu, isPtrT] at hT
 | some d =>
   cases d <;> simp only [hu, isPtrT, Bool.false_eq_true] at hT
   simp only [Op.equalIn, Sem.run_bind, run_underlying' hu, Result.andThen]
   cases p <;> rfl
theorem run_sliceNil_d (d : Nat) {T : TypeId} {a : Option Addr} {l c l' c' : Nat} (hT : isSliceT (P.underlying T) = true) (w : World) :
   (Op.equalIn (d + 1) T (.slice a l c) (.slice none l' c')).run P w = .ok a.isNone w := by
 cases hu : P.underlying T with
 | none => simp [hu, isSliceT] at hT
 | some d =>
   cases d <;> simp only [hu, isSliceT, Bool.false_eq_true] at hT
   simp only [Op.equalIn, Sem.run_bind, run_underlying' hu, Result.andThen]
   cases a <;> rfl
theorem run_mapNil_d (d : Nat) {T : TypeId} {r : Option Nat} (hT : isMapT (P.underlying T) = true) (w : World) :
   (Op.equalIn (d + 1) T (.map r) (.map none)).run P w = .ok r.isNone w := by
 cases hu : P.underlying T with
 | none => simp [hu, isMapT] at hT
 | some d =>
   cases d <;> simp only [hu, isMapT, Bool.false_eq_true] at hT
   simp only [Op.equalIn, Sem.run_bind, run_underlying' hu, Result.andThen]
   cases r <;> rfl
theorem run_ifaceNil {T : TypeId} {x : Value} {b : Bool} (hT : isIfaceT (P.underlying T) = true) (h : ifaceNil x = some b) (w : World) :
   (Op.equal T x .nilIface).run P w = .ok b w := by rw [equal_succ]; exact run_ifaceNil_d _ hT h w
theorem run_ptrNil {T : TypeId} {p : Option Addr} (hT : isPtrT (P.underlying T) = true) (w : World) :
   (Op.equal T (.pointer p) (.pointer none)).run P w = .ok p.isNone w := by rw [equal_succ]; exact run_ptrNil_d _ hT w
theorem run_sliceNil {T : TypeId} {a : Option Addr} {l c l' c' : Nat} (hT : isSliceT (P.underlying T) = true) (w : World) :
   (Op.equal T (.slice a l c) (.slice none l' c')).run P w = .ok a.isNone w := by rw [equal_succ]; exact run_sliceNil_d _ hT w
theorem run_mapNil {T : TypeId} {r : Option Nat} (hT : isMapT (P.underlying T) = true) (w : World) :
   (Op.equal T (.map r) (.map none)).run P w = .ok r.isNone w := by rw [equal_succ]; exact run_mapNil_d _ hT w
theorem run_aggGuard {T : TypeId} {xs ys : Array Value} (h : P.eqGuardType P.depth T = false) (op : BinOp) (x y : Operand) (w : World) :
   (eqGuard op T x y (.agg xs) (.agg ys)).run P w = .ok () w := by
 cases op <;> simp [eqGuard, program, Sem.run, bind, Sem.bind, h, pure]
theorem run_boolEq {T : TypeId} {a b : Bool} (hT : P.underlying T = some .bool) (w : World) : (Op.equal T (.bool a) (.bool b)).run P w = .ok (a == b) w := by
 have e1 : ∀ (d : Nat) (w : World), (Op.equalIn (d + 1) T (.bool a) (.bool b)).run P w = .ok (a == b) w := by
   intro d w
   simp [Op.equalIn, run_underlying' hT]
 rw [equal_succ]; exact e1 _ w
theorem dbin_sound {op : BinOp} {T : TypeId} {x y : Value} {xo yo : Operand} {K : Value → Prop} {G : Prop}
   (hy : y = .nilIface → ∃ c, yo = .const c)
   (h : dbin P op T x y K G) :
   G ∨ ∃ v, (∀ w, (do eqGuard op T xo yo x y; binOp op T x y : Sem Value).run P w = .ok v w) ∧ K v := by
 unfold dbin at h
 split at h
 case h_1 =>
   obtain ⟨c, hc⟩ := hy rfl
   by_cases hT : isIfaceT (P.underlying T) = true
   · rw [hT] at h
     simp only [cond_true] at h
     split at h
     · obtain ⟨b, hb, hK⟩ := h
       refine .inr ⟨_, fun w => ?_, hK⟩
       have := run_ifaceNil (P := P) hT hb w
       cases x <;> simp only [ifaceNil, reduceCtorEq, Option.some.injEq] at hb <;> subst hc hb <;> simp [eqGuard, binOp, this]
     · obtain ⟨b, hb, hK⟩ := h
       refine .inr ⟨_, fun w => ?_, hK⟩
       have := run_ifaceNil (P := P) hT hb w
       cases x <;> simp only [ifaceNil, reduceCtorEq, Option.some.injEq] at hb <;> subst hc hb <;> simp [eqGuard, binOp, this]
     · exact h.elim
   · simp only [Bool.not_eq_true] at hT; rw [hT] at h; exact h.elim
 case h_2 =>
   by_cases hT : isPtrT (P.underlying T) = true
   · rw [hT] at h
     simp only [cond_true] at h
     split at h
     · exact .inr ⟨_, fun w => by simp [eqGuard, binOp, run_ptrNil (P := P) hT], h⟩
     · exact .inr ⟨_, fun w => by simp [eqGuard, binOp, run_ptrNil (P := P) hT], h⟩
     · exact h.elim
   · simp only [Bool.not_eq_true] at hT; rw [hT] at h; exact h.elim
 case h_3 =>
   by_cases hT : isSliceT (P.underlying T) = true
   · rw [hT] at h
     simp only [cond_true] at h
     split at h
     · exact .inr ⟨_, fun w => by simp [eqGuard, binOp, run_sliceNil (P := P) hT], h⟩
     · exact .inr ⟨_, fun w => by simp [eqGuard, binOp, run_sliceNil (P := P) hT], h⟩
     · exact h.elim
   · simp only [Bool.not_eq_true] at hT; rw [hT] at h; exact h.elim
 case h_4 =>
   by_cases hT : isMapT (P.underlying T) = true
   · rw [hT] at h
     simp only [cond_true] at h
     split at h
     · exact .inr ⟨_, fun w => by simp [eqGuard, binOp, run_mapNil (P := P) hT], h⟩
     · exact .inr ⟨_, fun w => by simp [eqGuard, binOp, run_mapNil (P := P) hT], h⟩
     · exact h.elim
   · simp only [Bool.not_eq_true] at hT; rw [hT] at h; exact h.elim
 case h_5 =>
   split at h
   · obtain ⟨b, ⟨h1, h2⟩, hK⟩ := h
     exact .inr ⟨_, fun w => by simp [run_aggGuard h1, binOp, h2], hK⟩
   · obtain ⟨b, ⟨h1, h2⟩, hK⟩ := h
     exact .inr ⟨_, fun w => by simp [run_aggGuard h1, binOp, h2], hK⟩
   · exact h.elim
 case h_6 k' b =>
   split at h
   · rename_i k a
     by_cases hk : k = k'
     · subst hk
       simp only [kEq, decide_true, cond_true] at h
       exact .inr ⟨_, fun w => by simp [eqGuard, binOp, Op.intDiv, h.1], h.2⟩
     · simp [kEq, hk] at h
   · rename_i k a
     by_cases hk : k = k'
     · subst hk
       simp only [kEq, decide_true, cond_true] at h
       exact .inr ⟨_, fun w => by simp [eqGuard, binOp, Op.intDiv, h.1], h.2⟩
     · simp [kEq, hk] at h
   · exact .inr ⟨_, fun w => by simp [eqGuard, binOp, Op.shift, show ¬ b < 0 by omega], h.2⟩
   · exact .inr ⟨_, fun w => by simp [eqGuard, binOp, Op.shift, show ¬ b < 0 by omega], h.2⟩
   · exact .inl h
 case h_7 b =>
   split at h
   · rename_i hT
     split at h
     · exact .inr ⟨_, fun w => by simp [eqGuard, binOp, run_boolEq hT], h⟩
     · exact .inr ⟨_, fun w => by simp [eqGuard, binOp, run_boolEq hT], h⟩
     · exact h.elim
   · exact h.elim
 case h_8 b =>
   split at h
   · rename_i a
     refine .inr ⟨_, fun w => ?_, h.2⟩
     have h1 := h.1
     simp [eqGuard, binOp, Op.stringOp, IntKind.max, IntKind.signed, IntKind.bits]
     omega
   · exact .inl h
 case h_9 => exact .inl h
end
def darr (P : Program) (T : TypeId) (x : Value) (K : Value → Prop) : Prop :=
 match P.underlying T with
 | some (.array n _) => match x with
   | .slice a len _ => n ≤ len ∧ ∃ A, a = some A ∧ K (.pointer (some A))
   | _ => False
 | _ => False
def dindexAddr (P : Program) (T : TypeId) (x i : Value) (K : Value → Prop) : Prop :=
 match i with
 | .int _ n =>
   match P.underlying T with
   | some (.slice elem) => bif (P.underlying elem).isSome then
       match x with
       | .slice a len _ => ∃ A, a = some A ∧ (0 ≤ n ∧ n < (len : Int)) ∧ K (.pointer (some (A.add (n.toNat * P.cellsOf elem))))
       | _ => False
     else False
   | some (.array len elem) => bif (P.underlying elem).isSome then
       match x with
       | .pointer (some A) => (0 ≤ n ∧ n < (len : Int)) ∧ K (.pointer (some (A.add (n.toNat * P.cellsOf elem))))
       | _ => False
     else False
   | _ => False
 | _ => False
def dpart (P : Program) (tk : TypeId → RK) (T : TypeId) (cs : Array Value) (off : Nat) (K : Value → Prop) : Prop :=
 match P.underlying T with
 | none => False
 | some d =>
   bif aggT d then K (.agg (cs.extract off (off + P.cellsOf T)))
   else match tk T with
     | .one (.one l) => exLf l fun v => cs[off]? = some v ∧ K v
     | _ => False
def dindex (P : Program) (tk : TypeId → RK) (T : TypeId) (x i : Value) (K : Value → Prop) : Prop :=
 match i with
 | .int _ n =>
   match P.underlying T with
   | some (.array len elem) => match x with
       | .agg cs => (0 ≤ n ∧ n < (len : Int)) ∧ dpart P tk elem cs (n.toNat * P.cellsOf elem) K
       | _ => False
   | some .string => match x with
       | .string s => 0 ≤ n ∧ ∃ b : UInt8, s.data.toList[n.toNat]? = some b ∧ K (.int .u8 b.toNat)
       | _ => False
   | _ => False
 | _ => False
def dfield (P : Program) (tk : TypeId → RK) (T : TypeId) (x : Value) (i : Nat) (K : Value → Prop) : Prop :=
 match P.underlying T with
 | some (.struct fs) => match fs[i]? with
   | some f => match x with
     | .agg cs => dpart P tk f.type cs f.offset K
     | _ => False
   | none => False
 | _ => False
def bnd (v : Option Value) (y d : Nat) (K : Nat → Prop) : Prop :=
 match v with
 | none => K d
 | some (.int _ i) => (0 ≤ i ∧ i ≤ (y : Int)) ∧ K i.toNat
 | _ => False
def cutA (a : Option Addr) (sz l m : Nat) : Option Addr := if m = l then a else a.map (·.add (l * sz))
def dslice (P : Program) (T : TypeId) (x : Value) (lo hi mx : Option Value) (K : Value → Prop) : Prop :=
 match P.underlying T with
 | some .string => match mx, x with
   | none, .string s => bnd hi s.size s.size fun h => bnd lo h 0 fun l => K (.string (s.extract l h))
   | _, _ => False
 | some (.slice elem) => bif (P.underlying elem).isSome then
     match x with
     | .slice a len cap => match mx with
       | none => bnd hi cap len fun h => bnd lo h 0 fun l => K (.slice (cutA a (P.cellsOf elem) l cap) (h - l) (cap - l))
       | some m' => match hi with
         | none => False
         | some h' => bnd (some m') cap 0 fun m => bnd (some h') m 0 fun h => bnd lo h 0 fun l => K (.slice (cutA a (P.cellsOf elem) l m) (h - l) (m - l))
     | _ => False
   else False
 | some (.array n elem) => bif (P.underlying elem).isSome then
     match mx, x with
     | none, .pointer (some A) => bnd hi n n fun h => bnd lo h 0 fun l => K (.slice (cutA (some A) (P.cellsOf elem) l n) (h - l) (n - l))
     | _, _ => False
   else False
 | _ => False
def dmakeSlice (P : Program) (T : TypeId) (l c : Value) (w : World) (K : Value → World → Prop) : Prop :=
 match P.underlying T with
 | some (.slice elem) => bif (P.underlying elem).isSome then
     bif ((P.info? elem).bind (·.zero)).isSome then
     match l, c with
     | .int _ n, .int _ m => (0 ≤ n ∧ n ≤ m ∧ m ≤ 9223372036854775807 ∧ (P.bytesOf elem : Int) * m ≤ 140737488355328) ∧
         K (.slice (some ⟨w.heap.size, 0, none⟩) n.toNat m.toNat) { w with heap := w.heap.push (.cells (zrow P elem m.toNat) elem) }
     | _, _ => False
     else False
   else False
 | _ => False
section
variable {P : Program} {w : World}
theorem cells_of (o : Option TypeDesc) (h : o.isSome = true) : ∃ d, o = some d := Option.isSome_iff_exists.1 h
theorem darr_sound {T : TypeId} {x : Value} {K : Value → Prop} (h : darr P T x K) : ∃ v, (∀ w, (Instr.arrayAt T x).run P w = .ok v w) ∧ K v := by
 unfold darr at h
 split at h
 · rename_i n e hT
   split at h
   · rename_i a len cap
     obtain ⟨h1, A, rfl, hK⟩ := h
     exact ⟨_, fun w => by simp [Instr.arrayAt, run_underlying' hT, Nat.not_lt.2 h1], hK⟩
   · exact h.elim
 · exact h.elim
theorem dindexAddr_sound {T : TypeId} {x i : Value} {K : Value → Prop} (h : dindexAddr P T x i K) : ∃ v, (∀ w, (Instr.indexAt T x i).run P w = .ok v w) ∧ K v := by
 unfold dindexAddr at h
 split at h
 · rename_i k n
   split at h
   · rename_i elem hT
     by_cases he : (P.underlying elem).isSome = true
     · rw [he] at h
       simp only [cond_true] at h
       split at h
       · obtain ⟨A, rfl, hb, hK⟩ := h
         obtain ⟨d, hd⟩ := cells_of _ he
         exact ⟨_, fun w => by simp [Instr.indexAt, asIntOf, run_underlying' hT, hb, run_sizeOf' hd], hK⟩
       · exact h.elim
     · simp only [Bool.not_eq_true] at he; rw [he] at h; exact h.elim
   · rename_i len elem hT
     by_cases he : (P.underlying elem).isSome = true
     · rw [he] at h
       simp only [cond_true] at h
       split at h
       · obtain ⟨hb, hK⟩ := h
         obtain ⟨d, hd⟩ := cells_of _ he
         exact ⟨_, fun w => by simp [Instr.indexAt, asIntOf, Instr.sureAddr, run_underlying' hT, hb, run_sizeOf' hd], hK⟩
       · exact h.elim
     · simp only [Bool.not_eq_true] at he; rw [he] at h; exact h.elim
   · exact h.elim
 · exact h.elim
theorem dpart_sound {tk : TypeId → RK} {T : TypeId} {cs : Array Value} {off : Nat} {K : Value → Prop} (h : dpart P tk T cs off K) : ∃ v, (∀ w, (part T cs off).run P w = .ok v w) ∧ K v := by
 unfold dpart at h
 split at h
 · exact h.elim
 · rename_i d hT
   cases hd : aggT d with
   | true =>
     rw [hd] at h
     exact ⟨_, fun w => by simp [part, run_isAgg' hT, hd, run_sizeOf' hT], h⟩
   | false =>
     rw [hd] at h
     simp only [cond_false] at h
     split at h
     · obtain ⟨v, hv, hK⟩ := exLf_out h
       exact ⟨v, fun w => by simp [part, run_isAgg' hT, hd, hv], hK⟩
     · exact h.elim
theorem dindex_sound {tk : TypeId → RK} {T : TypeId} {x i : Value} {K : Value → Prop} (h : dindex P tk T x i K) : ∃ v, (∀ w, (Instr.index T x i).run P w = .ok v w) ∧ K v := by
 unfold dindex at h
 split at h
 · rename_i k n
   split at h
   · rename_i len elem hT
     split at h
     · obtain ⟨hb, h⟩ := h
       obtain ⟨v, hv, hK⟩ := dpart_sound h
       refine ⟨v, fun w => ?_, hK⟩
       have hs : (Go.sizeOf elem).run P w = .ok (P.cellsOf elem) w := by
         unfold dpart at h
         cases he : P.underlying elem with
         | none => simp [he] at h
         | some d => exact run_sizeOf' he
       simp [Instr.index, asIntOf, run_underlying' hT, hb, hs, hv]
     · exact h.elim
   · rename_i hT
     split at h
     · rename_i s
       obtain ⟨hb, b, hs, hK⟩ := h
       have hs' : s[n.toNat]? = some b := by
         obtain ⟨h1, h2⟩ := List.getElem?_eq_some_iff.1 hs
         have h3 : n.toNat < s.size := by simpa using h1
         rw [getElem?_pos s n.toNat h3]
         simp only [Option.some.injEq]
         rw [← h2]
         rfl
       exact ⟨_, fun w => by simp [Instr.index, asIntOf, run_underlying' hT, hb, hs'], hK⟩
     · exact h.elim
   · exact h.elim
 · exact h.elim
theorem dfield_sound {tk : TypeId → RK} {T : TypeId} {x : Value} {i : Nat} {K : Value → Prop} (h : dfield P tk T x i K) : ∃ v, (∀ w, (Instr.field T x i).run P w = .ok v w) ∧ K v := by
 unfold dfield at h
 split at h
 · rename_i fs hT
   split at h
   · rename_i f hf
     split at h
     · obtain ⟨v, hv, hK⟩ := dpart_sound h
       exact ⟨v, fun w => by simp [Instr.field, run_underlying' hT, hf, asAgg, hv], hK⟩
     · exact h.elim
   · exact h.elim
 · exact h.elim
theorem bnd_sound {v : Option Value} {y d : Nat} {c : BoundsCode} {K : Nat → Prop} (h : bnd v y d K) :
   (v = none ∧ K d) ∨ ∃ u n, v = some u ∧ (∀ w, (Instr.sliceBound u y c).run P w = .ok n w) ∧ K n := by
 unfold bnd at h
 split at h
 · exact .inl ⟨rfl, h⟩
 · exact .inr ⟨_, _, rfl, fun w => by simp [Instr.sliceBound, asIntOf, h.1], h.2⟩
 · exact h.elim
theorem dslice_sound {T : TypeId} {x : Value} {lo hi mx : Option Value} {K : Value → Prop} (h : dslice P T x lo hi mx K) :
   ∃ v, (∀ w, (Instr.sliceAt T x lo hi mx).run P w = .ok v w) ∧ K v := by
 unfold dslice at h
 split at h
 · rename_i hT
   split at h
   · rename_i s
     rcases bnd_sound (P := P) (c := .sliceAlen) h with ⟨e1, h1⟩ | ⟨u, n, e1, hr, h1⟩
     · rcases bnd_sound (P := P) (c := .sliceB) h1 with ⟨e2, h2⟩ | ⟨u2, n2, e2, hr2, h2⟩
       · exact ⟨_, fun w => by simp [Instr.sliceAt, Instr.slice, run_underlying' hT, Instr.sliceBounds, e1, e2], h2⟩
       · exact ⟨_, fun w => by simp [Instr.sliceAt, Instr.slice, run_underlying' hT, Instr.sliceBounds, e1, e2, hr2], h2⟩
     · rcases bnd_sound (P := P) (c := .sliceB) h1 with ⟨e2, h2⟩ | ⟨u2, n2, e2, hr2, h2⟩
       · exact ⟨_, fun w => by simp [Instr.sliceAt, Instr.slice, run_underlying' hT, Instr.sliceBounds, e1, e2, hr], h2⟩
       · exact ⟨_, fun w => by simp [Instr.sliceAt, Instr.slice, run_underlying' hT, Instr.sliceBounds, e1, e2, hr, hr2], h2⟩
   · exact h.elim
 · rename_i elem hT
   by_cases he : (P.underlying elem).isSome = true
   · rw [he] at h
     simp only [cond_true] at h
     obtain ⟨d, hd⟩ := cells_of _ he
     have hsz := fun w : World => run_sizeOf' (w := w) hd
     split at h
     · rename_i a len cap
       split at h
       · rcases bnd_sound (P := P) (c := .sliceAcap) h with ⟨e1, h1⟩ | ⟨u, n, e1, hr, h1⟩
         · rcases bnd_sound (P := P) (c := .sliceB) h1 with ⟨e2, h2⟩ | ⟨u2, n2, e2, hr2, h2⟩
           · exact ⟨_, fun w => by simp [Instr.sliceAt, Instr.slice, run_underlying' hT, Instr.sliceBounds, hsz, cutA, e1, e2], h2⟩
           · exact ⟨_, fun w => by simp [Instr.sliceAt, Instr.slice, run_underlying' hT, Instr.sliceBounds, hr2, hsz, cutA, e1, e2], h2⟩
         · rcases bnd_sound (P := P) (c := .sliceB) h1 with ⟨e2, h2⟩ | ⟨u2, n2, e2, hr2, h2⟩
           · exact ⟨_, fun w => by simp [Instr.sliceAt, Instr.slice, run_underlying' hT, Instr.sliceBounds, hr, hsz, cutA, e1, e2], h2⟩
           · exact ⟨_, fun w => by simp [Instr.sliceAt, Instr.slice, run_underlying' hT, Instr.sliceBounds, hr, hr2, hsz, cutA, e1, e2], h2⟩
       · split at h
         · exact h.elim
         · rcases bnd_sound (P := P) (c := .slice3Acap) h with ⟨e0, h1⟩ | ⟨u, n, e0, hr, h1⟩
           · cases e0
           · cases e0
             rcases bnd_sound (P := P) (c := .slice3B) h1 with ⟨e0, h2⟩ | ⟨u1, n1, e0, hr1, h2⟩
             · cases e0
             · cases e0
               rcases bnd_sound (P := P) (c := .slice3C) h2 with ⟨e2, h3⟩ | ⟨u2, n2, e2, hr2, h3⟩
               · exact ⟨_, fun w => by simp [Instr.sliceAt, Instr.slice, run_underlying' hT, Instr.sliceBounds, hr, hr1, hsz, cutA, e2], h3⟩
               · exact ⟨_, fun w => by simp [Instr.sliceAt, Instr.slice, run_underlying' hT, Instr.sliceBounds, hr, hr1, hr2, hsz, cutA, e2], h3⟩
     · exact h.elim
   · simp only [Bool.not_eq_true] at he; rw [he] at h; exact h.elim
 · rename_i n elem hT
   by_cases he : (P.underlying elem).isSome = true
   · rw [he] at h
     simp only [cond_true] at h
     obtain ⟨d, hd⟩ := cells_of _ he
     have hsz := fun w : World => run_sizeOf' (w := w) hd
     split at h
     · rename_i A
       rcases bnd_sound (P := P) (c := .sliceAlen) h with ⟨e1, h1⟩ | ⟨u, n1, e1, hr, h1⟩
       · rcases bnd_sound (P := P) (c := .sliceB) h1 with ⟨e2, h2⟩ | ⟨u2, n2, e2, hr2, h2⟩
         · refine ⟨_, fun w => ?_, h2⟩
           simp [Instr.sliceAt, run_underlying' hT, Instr.sureAddr, Instr.sliceBounds, hsz, cutA, e1, e2]; try (split <;> rfl)
         · refine ⟨_, fun w => ?_, h2⟩
           simp [Instr.sliceAt, run_underlying' hT, Instr.sureAddr, Instr.sliceBounds, hr2, hsz, cutA, e1, e2]; try (split <;> rfl)
       · rcases bnd_sound (P := P) (c := .sliceB) h1 with ⟨e2, h2⟩ | ⟨u2, n2, e2, hr2, h2⟩
         · refine ⟨_, fun w => ?_, h2⟩
           simp [Instr.sliceAt, run_underlying' hT, Instr.sureAddr, Instr.sliceBounds, hr, hsz, cutA, e1, e2]; try (split <;> rfl)
         · refine ⟨_, fun w => ?_, h2⟩
           simp [Instr.sliceAt, run_underlying' hT, Instr.sureAddr, Instr.sliceBounds, hr, hr2, hsz, cutA, e1, e2]; try (split <;> rfl)
     · exact h.elim
   · simp only [Bool.not_eq_true] at he; rw [he] at h; exact h.elim
 · exact h.elim
theorem wrap64_id {n : Int} (h0 : 0 ≤ n) (h1 : n ≤ 9223372036854775807) : IntKind.i64.wrap n = n := by
 have e : n % 18446744073709551616 = n := Int.emod_eq_of_lt h0 (by omega)
 simp [IntKind.wrap, IntKind.signed, IntKind.bits, e]
 omega
theorem dmakeSlice_sound {T : TypeId} {l c : Value} {K : Value → World → Prop} (h : dmakeSlice P T l c w K) :
   ∃ v w', (Instr.makeSlice T l c).run P w = .ok v w' ∧ K v w' := by
 unfold dmakeSlice at h
 split at h
 · rename_i elem hT
   by_cases he : (P.underlying elem).isSome = true
   · rw [he] at h
     simp only [cond_true] at h
     by_cases hz : ((P.info? elem).bind (·.zero)).isSome = true
     · rw [hz] at h
       simp only [cond_true] at h
       split at h
       · rename_i k n k' m
         obtain ⟨⟨h0, h1, h2, h3⟩, hK⟩ := h
         obtain ⟨d, hd⟩ := cells_of _ he
         obtain ⟨i, hi⟩ := info_of_underlying hd
         obtain ⟨z, hz'⟩ := Option.isSome_iff_exists.1 hz
         simp only [hi, Option.bind_some] at hz'
         have hb : P.bytesOf elem = i.bytes := by simp [Program.bytesOf, hi]
         have hc : P.cellsOf elem = i.size := by simp [Program.cellsOf, hi]
         rw [hb] at h3
         have e1 := wrap64_id h0 (by omega)
         have e2 := wrap64_id (n := m) (by omega) h2
         refine ⟨_, _, ?_, hK⟩
         have hn : ¬ (m < 0) := by omega
         have hn2 : ¬ (281474976710656 < (i.bytes : Int) * m) := by omega
         simp [Instr.makeSlice, run_underlying' hT, asInt, asIntOf, run_typeInfo' hi, e1, e2, hn, hn2, run_sizeOf' hd, show ¬ n < 0 by omega, show ¬ m < n by omega]
         by_cases hs : m.toNat * P.cellsOf elem = 0
         · simp [hs, newRow, newObj, Sem.run, zrow]
         · simp [zeroValue, run_typeInfo' hi, hz', newRow, newObj, Sem.run, zrow, hs, hi]
       · exact h.elim
     · simp only [Bool.not_eq_true] at hz; rw [hz] at h; exact h.elim
   · simp only [Bool.not_eq_true] at he; rw [he] at h; exact h.elim
 · exact h.elim
end
def Nx (w : World) (K : World → Prop) : Prop := K w
def byteAt (s : ByteArray) (n : Nat) : Option UInt8 := s.data.toList[n]?
def bAnd (k : IntKind) (a b : Int) : Int := k.wrap ((BitVec.ofInt k.bits a &&& BitVec.ofInt k.bits b).toNat : Int)
def bOr (k : IntKind) (a b : Int) : Int := k.wrap ((BitVec.ofInt k.bits a ||| BitVec.ofInt k.bits b).toNat : Int)
def bXor (k : IntKind) (a b : Int) : Int := k.wrap ((BitVec.ofInt k.bits a ^^^ BitVec.ofInt k.bits b).toNat : Int)
def bAndNot (k : IntKind) (a b : Int) : Int := k.wrap ((BitVec.ofInt k.bits a &&& ~~~BitVec.ofInt k.bits b).toNat : Int)
def genA (P : Program) (o : Oper) (K : Value → World → Prop) (e : Env) (w : World) : Prop :=
 bif known e o.op.operands then
   match (execOp (ro e) o).run P w with
   | .ok (.value v) w' => Nx w' fun w1 => K v w1
   | _ => False
 else False
def elemKd (P : Program) (tk : TypeId → RK) (T : TypeId) : RK :=
 match P.underlying T with
 | some (.slice e) => tk e
 | _ => .one (.one .agg)
def Lf.isSl : Lf → Bool
 | .slice => true
 | _ => false
def opqEl : RK → Bool
 | .one (.one .agg) => true
 | .one (.flat ls) => ls.any Lf.isSl
 | _ => false
def gen (P : Program) (tk : TypeId → RK) (o : Oper) (K : Value → World → Prop) (e : Env) (w : World) : Prop :=
 bif known e o.op.operands then
   match (execOp (ro e) o).run P w with
   | .ok (.value v) w' => K v w'
   | .ok .skip w' => K undef w'
   | .ok (.enter f args) w' => Calls P f args w' fun en w'' => exRK (tk o.type) fun v => en = .returned v ∧ K v w''
   | _ => False
 else False
def Callable (P : Program) (f : FuncId) : Prop := ∃ fn, P.funcs[f]? = some fn ∧ (fn.name == "runtime.NumGoroutine") = false ∧ fn.body.isNone = false
theorem run_callFunc {P : Program} {f : FuncId} (h : Callable P f) (args : Array Value) (w : World) : (callFunc f args).run P w = .ok (.enter f args) w := by
 obtain ⟨fn, h1, h2, h3⟩ := h
 have h2' : ¬ fn.name = "runtime.NumGoroutine" := by simpa using h2
 have h3' : ¬ fn.body = none := by
   intro h; rw [h] at h3; cases h3
 simp [callFunc, program, Sem.run, bind, Sem.bind, h1, h2', h3', pure]
def isSel : Op → Bool
 | .select _ _ => true
 | _ => false
def opqT (P : Program) (T : TypeId) : Operand → Bool
 | .const _ => false
 | _ => isIfaceT (P.underlying T) || isPtrT (P.underlying T)
def OpqEq (P : Program) (op : BinOp) (T : TypeId) (xo yo : Operand) (x y : Value) (b : Bool) : Prop :=
 ∀ w, Sem.run P (do eqGuard op T xo yo x y; binOp op T x y : Sem Value) w = .ok (.bool b) w
def notNilI : Operand → Value → Bool
 | .const _, _ => true
 | _, .nilIface => false
 | _, _ => true
def DOp (P : Program) (tk : TypeId → RK) (o : Oper) (K : Value → World → Prop) (e : Env) (w : World) : Prop :=
 match o.op with
 | .nilCheck x => match ev e x with
   | some (.pointer p) => ∃ A, p = some A ∧ K (.pointer (some A)) w
   | _ => False
 | .load T x => match ev e x with
   | some (.pointer (some A)) => dload P tk T A w fun v => K v w
   | _ => False
 | .store T x y => match ev e x, ev e y with
   | some (.pointer (some A)), some v => dstore P tk T A v w fun w' => Nx w' fun w1 => K undef w1
   | _, _ => False
 | .binOp op T x y _ => match ev e x, ev e y with
   | some vx, some vy => bif opqT P T y then (∃ b : Bool, OpqEq P op T x y vx vy b ∧ K (.bool b) w) else
       bif notNilI y vy then dbin P op T vx vy (fun v => K v w) (gen P tk o K e w) else False
   | _, _ => False
 | .indexAddr T x i => match ev e x, ev e i with
   | some vx, some vi => dindexAddr P T vx vi fun v => K v w
   | _, _ => False
 | .index T x i => match ev e x, ev e i with
   | some vx, some vi => dindex P tk T vx vi fun v => K v w
   | _, _ => False
 | .field T x i => match ev e x with
   | some vx => dfield P tk T vx i fun v => K v w
   | _ => False
 | .alloc _ => genA P o K e w
 | .box _ _ => genA P o K e w
 | .buildSlice T n ps => bif opqEl (elemKd P tk T) then
     (bif known e o.op.operands then
       exRK (tk o.type) fun r => ∃ w1, (Instr.buildSlice T n (ps.map fun p => (p.1, ro e p.2))).run P w = .ok r w1 ∧ K r w1
     else False)
   else genA P o K e w
 | .slice T x lo hi mx => bif known e o.op.operands then
     dslice P T (ro e x) (lo.map (ro e)) (hi.map (ro e)) (mx.map (ro e)) fun v => K v w
   else False
 | .makeSlice T l c => match ev e l, ev e c with
   | some vl, some vc => dmakeSlice P T vl vc w fun v w' => Nx w' fun w1 => K v w1
   | _, _ => False
 | .convert s d x => match ev e x with
   | some (.int j n) => bif (P.underlying s).isSome then
       match P.underlying d with
       | some (.int k) => K (.int k (k.wrap n)) w
       | _ => exRK (tk o.type) fun r => ∃ w1, (convert s d (.int j n)).run P w = .ok r w1 ∧ K r w1
     else False
   | some v => exRK (tk o.type) fun r => ∃ w1, (convert s d v).run P w = .ok r w1 ∧ K r w1
   | none => False
 | .build t ps => match tk t with
   | .one (.flat _) => gen P tk o K e w
   | _ => bif known e o.op.operands then
       ∃ cs : Array Value, (Instr.build t (ps.map fun p => (p.1, ro e p.2))).run P w = .ok (.agg cs) w ∧ K (.agg cs) w
     else False
 | .lookup T m i ok => match ev e m, ev e i with
   | some vm, some vi => exRK (tk o.type) fun r => ∃ w1, (Instr.lookup T vm vi ok).run P w = .ok r w1 ∧ K r w1
   | _, _ => False
 | .mapUpdate T m i x => match ev e m, ev e i, ev e x with
   | some vm, some vi, some vx => ∃ w1, (Instr.mapUpdate T vm vi vx).run P w = .ok () w1 ∧ K undef w1
   | _, _, _ => False
 | .makeMap T r => bif known e o.op.operands then exRK (tk o.type) fun v => ∃ w1, (Instr.makeMap T (r.map (ro e))).run P w = .ok v w1 ∧ K v w1 else False
 | .range T x => match ev e x with
   | some vx => ∃ v w1, (Instr.range T vx).run P w = .ok v w1 ∧ K v w1
   | _ => False
 | .next it isS => match ev e it with
   | some vx => (bif isS then ∃ (n : Int) (c : Int) (w1 : World), (Instr.next vx isS o.type).run P w = .ok (.tuple #[.bool true, .int .i64 n, .int .i32 c]) w1 ∧ K (.tuple #[.bool true, .int .i64 n, .int .i32 c]) w1
       else ∃ (k : Value) (v : Value) (w1 : World), (Instr.next vx isS o.type).run P w = .ok (.tuple #[.bool true, k, v]) w1 ∧ K (.tuple #[.bool true, k, v]) w1) ∨
       (∃ w1 : World, (Instr.next vx isS o.type).run P w = .ok (.tuple #[.bool false]) w1 ∧ K (.tuple #[.bool false]) w1)
   | _ => False
 | .call c => match c.callee with
   | .value (.tmp k) => match e.get k with
     | some (.func (.func f) pre cap) => bif known e o.op.operands then
         Callable P f ∧ Calls P f (pre ++ c.args.map (ro e) ++ cap) w fun en w1 => exRK (tk o.type) fun v => en = .returned v ∧ K v w1
       else False
     | _ => gen P tk o K e w
   | .builtin .append => bif known e o.op.operands then exRK (tk o.type) fun r => ∃ w1, (Builtin.append_ c.argTypes o.type (c.args.map (ro e))).run P w = .ok r w1 ∧ K r w1 else False
   | .builtin .copy => bif known e o.op.operands then exRK (tk o.type) fun r => ∃ w1, (Builtin.copy_ c.argTypes o.type (c.args.map (ro e))).run P w = .ok r w1 ∧ K r w1 else False
   | .builtin .min => bif known e o.op.operands then exRK (tk o.type) fun r => ∃ w1, (Builtin.min_ c.argTypes o.type (c.args.map (ro e))).run P w = .ok r w1 ∧ K r w1 else False
   | .builtin .max => bif known e o.op.operands then exRK (tk o.type) fun r => ∃ w1, (Builtin.max_ c.argTypes o.type (c.args.map (ro e))).run P w = .ok r w1 ∧ K r w1 else False
   | .builtin .delete => bif known e o.op.operands then ∃ r w1, (Builtin.delete_ c.argTypes o.type (c.args.map (ro e))).run P w = .ok r w1 ∧ K r w1 else False
   | .value (.func f) => match P.funcs[f]? with
     | some fn => match fn.body with
       | some _ => gen P tk o K e w
       | none => bif known e o.op.operands then exRK (tk o.type) fun r => ∃ w1, (callFunc f (c.args.map (ro e))).run P w = .ok (.value r) w1 ∧ K r w1 else False
     | none => False
   | .builtin .unsafeString => bif known e o.op.operands then exRK (tk o.type) fun r => ∃ w1, (Builtin.unsafeString_ c.argTypes o.type (c.args.map (ro e))).run P w = .ok r w1 ∧ K r w1 else False
   | .builtin .unsafeSliceData => bif known e o.op.operands then exRK (tk o.type) fun r => ∃ w1, (Builtin.unsafeSliceData_ c.argTypes o.type (c.args.map (ro e))).run P w = .ok r w1 ∧ K r w1 else False
   | .builtin .clear => bif known e o.op.operands then ∃ r w1, (Builtin.clear_ c.argTypes o.type (c.args.map (ro e))).run P w = .ok r w1 ∧ K r w1 else False
   | .builtin .len => match ((c.args.map (ro e))[0]? : Option Value) with
     | some (Value.map _) => bif known e o.op.operands then exRK (tk o.type) fun r => ∃ w1, (Builtin.len_ c.argTypes o.type (c.args.map (ro e))).run P w = .ok r w1 ∧ K r w1 else False
     | _ => gen P tk o K e w
   | _ => gen P tk o K e w
 | .sliceToArrayPointer T x => match ev e x with
   | some vx => darr P T vx fun v => K v w
   | _ => False
 | .mapEntry T m i => match ev e m, ev e i with
   | some vm, some vi => ∃ (v0 : Value) (st : Int) (w1 : World), (Instr.mapEntry T vm vi).run P w = .ok (.tuple #[v0, .int .i64 st]) w1 ∧ K (.tuple #[v0, .int .i64 st]) w1
   | _, _ => False
 | .entryStore T m s x => match ev e m, ev e s, ev e x with
   | some vm, some vs, some vx => ∃ w1, (Instr.entryStore T vm vs vx).run P w = .ok () w1 ∧ K undef w1
   | _, _, _ => False
 | .entry it => match ev e it with
   | some vx => exRK (tk o.type) fun v => ∃ w1, (Instr.entry vx).run P w = .ok v w1 ∧ K v w1
   | _ => False
 | .select _ _ => False
 | _ => gen P tk o K e w
def Runs (P : Program) (o : Oper) (a : Act) (w : World) (K : Value → World → Prop) : Prop :=
 (∃ v w', (execOp a.eval o).run P w = .ok (.value v) w' ∧ K v w') ∨
 (∃ w', (execOp a.eval o).run P w = .ok .skip w' ∧ K undef w') ∨
 (∃ f args w', (execOp a.eval o).run P w = .ok (.enter f args) w' ∧ Calls P f args w' fun en w'' => ∃ v, en = .returned v ∧ K v w'')
theorem Runs.wp {P : Program} {o : Oper} {a : Act} {w : World} {K : Value → World → Prop} {next : Act → World → Prop} {Q : Exit → Act → World → Prop}
   (h : Runs P o a w K) (hn : ∀ v w', K v w' → next (a.put o.dst v) w') : o.wp P a w next Q := by
 unfold Oper.wp
 rcases h with ⟨v, w', h, hK⟩ | ⟨w', h, hK⟩ | ⟨f, args, w', h, hc⟩
 · rw [h]; exact hn _ _ hK
 · rw [h]; exact hn _ _ hK
 · rw [h]
   exact hc.mono fun en w'' ⟨v, hv, hK⟩ => by subst hv; exact hn _ _ hK
section
variable {P : Program} {tk : TypeId → RK} {o : Oper} {K : Value → World → Prop} {e : Env} {a : Act} {w : World}
theorem known_eval (hA : Agrees e a) {xs : Array Operand} (h : known e xs = true) : ∀ x ∈ xs, a.eval x = ro e x := by
 intro x hx
 exact hA.ro (List.all_eq_true.1 h x (by simpa using hx))
theorem known_congr (hA : Agrees e a) (hs : isSel o.op = false) (h : known e o.op.operands = true) : execOp a.eval o = execOp (ro e) o :=
 execOp_congr o (fun cs b hc => by rw [hc] at hs; cases hs) (known_eval hA h)
theorem gen_sound (hA : Agrees e a) (hs : isSel o.op = false) (h : gen P tk o K e w) : Runs P o a w K := by
 unfold gen at h
 by_cases hk : known e o.op.operands = true
 · rw [hk] at h
   simp only [cond_true] at h
   have hc := known_congr hA hs hk
   unfold Runs
   rw [hc]
   split at h
   · rename_i v w' hr
     exact .inl ⟨v, w', hr, h⟩
   · rename_i w' hr
     exact .inr (.inl ⟨w', hr, h⟩)
   · rename_i f args w' hr
     refine .inr (.inr ⟨f, args, w', hr, h.mono fun en w'' hen => ?_⟩)
     exact exRK_out hen
   · exact h.elim
 · simp only [Bool.not_eq_true] at hk
   rw [hk] at h
   exact h.elim
theorem genA_sound (hA : Agrees e a) (hs : isSel o.op = false) (h : genA P o K e w) : Runs P o a w K := by
 unfold genA at h
 by_cases hk : known e o.op.operands = true
 · rw [hk] at h
   simp only [cond_true] at h
   have hc := known_congr hA hs hk
   unfold Runs
   rw [hc]
   split at h
   · rename_i v w' hr
     exact .inl ⟨v, w', hr, h⟩
   · exact h.elim
 · simp only [Bool.not_eq_true] at hk
   rw [hk] at h
   exact h.elim
theorem dflat_sound : ∀ {ls : List Lf} {A : Addr} {i : Nat} {K : List Value → Prop}, dflat ls A i w K → ∃ vs, rdCells w A i ls.length = some vs ∧ K vs
 | [], _, _, _, h => ⟨[], rfl, h⟩
 | l :: ls, A, i, K, h => by
   obtain ⟨v, hv, h⟩ := exLf_out h
   obtain ⟨vs, hvs, h⟩ := dflat_sound h
   exact ⟨v :: vs, by simp [rdCells, hv, hvs], h⟩
theorem dload_sound {T : TypeId} {A : Addr} {K : Value → Prop} (h : dload P tk T A w K) : ∃ v, (Instr.loadAt T (.pointer (some A))).run P w = .ok v w ∧ K v := by
 have e1 : (Instr.loadAt T (.pointer (some A))).run P w = (loadVar T A).run P w := by simp [Instr.loadAt, Instr.sureAddr]
 rw [e1]
 unfold dload at h
 split at h
 · exact h.elim
 · rename_i d hT
   cases hd : aggT d with
   | true =>
     rw [hd] at h
     simp only [cond_true] at h
     split at h
     · rename_i ls _
       by_cases hb : Nat.beq (P.cellsOf T) ls.length = true
       · rw [hb] at h
         simp only [cond_true] at h
         obtain ⟨vs, hvs, h⟩ := dflat_sound h
         rw [← Nat.eq_of_beq_eq_true hb] at hvs
         exact ⟨_, run_loadVar_agg hT hd hvs, h⟩
       · simp only [Bool.not_eq_true] at hb; rw [hb] at h; exact h.elim
     · obtain ⟨cs, hc, h⟩ := h
       exact ⟨_, run_loadVar_agg hT hd hc, h⟩
   | false =>
     rw [hd] at h
     simp only [cond_false] at h
     split at h
     · obtain ⟨v, hv, h⟩ := exLf_out h
       exact ⟨v, run_loadVar_one hT hd hv, h⟩
     · exact h.elim
theorem plain_cells {v : Value} (h : Plain v) : v.cells = #[v] := by cases v <;> first | rfl | exact h.elim
theorem add_zero' (A : Addr) : A.add 0 = A := rfl
theorem dstore_sound {T : TypeId} {A : Addr} {x : Value} {K : World → Prop} (h : dstore P tk T A x w K) :
   ∃ w', (Instr.storeAt T (.pointer (some A)) x).run P w = .ok () w' ∧ K w' := by
 have e1 : (Instr.storeAt T (.pointer (some A)) x).run P w = (storeVar T A x).run P w := by simp [Instr.storeAt, Instr.sureAddr]
 rw [e1]
 unfold dstore at h
 split at h
 · exact h.elim
 · rename_i d hT
   cases hd : aggT d with
   | true =>
     rw [hd] at h
     simp only [cond_true] at h
     split at h
     · rename_i cs
       exact ⟨_, run_storeVar (v := .agg cs) hT h.2.1 h.1, h.2.2⟩
     · exact h.elim
   | false =>
     rw [hd] at h
     simp only [cond_false] at h
     have one : ∀ (hp : Plain x) (hb : Nat.beq (P.cellsOf T) 1 = true), ((∃ u, w.cell? A = some u) ∧ w.frozen? A = false ∧ K (w.setCell A x)) → ∃ w', (storeVar T A x).run P w = .ok () w' ∧ K w' := by
       intro hp hb ⟨⟨u, hu⟩, hf, hK⟩
       refine ⟨_, run_storeVar (v := x) hT ?_ ?_, ?_⟩
       · rw [plain_cells hp, Nat.eq_of_beq_eq_true hb]; rfl
       · rw [plain_cells hp]
         refine ⟨fun i hi => ?_, fun v hv => ?_⟩
         · have : i = 0 := by simpa using hi
           subst this
           rw [add_zero', hu]
           exact ⟨rfl, hf⟩
         · have : v = x := by simpa using hv
           subst this; exact hp
       · rw [plain_cells hp]
         exact hK
     by_cases hb : Nat.beq (P.cellsOf T) 1 = true
     · have hb' := hb
       rw [hb] at h
       simp only [cond_true] at h
       split at h
       · exact one h.1 hb' h.2
       · split at h
         · exact h.elim
         · exact h.elim
         · rename_i h1 h2
           refine one ?_ hb' h
           cases x <;> first | exact trivial | (exact absurd rfl (h1 _)) | (exact absurd rfl (h2 _))
     · simp only [Bool.not_eq_true] at hb; rw [hb] at h; exact h.elim
theorem DOp_sound (hA : Agrees e a) (h : DOp P tk o K e w) : Runs P o a w K := by
 unfold DOp at h
 split at h
 case h_1 x hop =>
   split at h
   · rename_i p hx
     obtain ⟨A, rfl, hK⟩ := h
     exact .inl ⟨_, _, by simp [execOp, hop, hA.ev hx], hK⟩
   · exact h.elim
 case h_2 T x hop =>
   split at h
   · rename_i A hx
     obtain ⟨v, hv, hK⟩ := dload_sound h
     exact .inl ⟨v, w, by simp [execOp, hop, hA.ev hx, hv], hK⟩
   · exact h.elim
 case h_3 T x y hop =>
   split at h
   · rename_i A v hx hy
     obtain ⟨w', hw, hK⟩ := dstore_sound h
     exact .inr (.inl ⟨w', by simp [execOp, hop, hA.ev hx, hA.ev hy, hw], hK⟩)
   · exact h.elim
 case h_4 op T x y yt hop =>
   split at h
   · rename_i vx vy hx hy
     by_cases ho : opqT P T y = true
     · rw [ho] at h
       simp only [cond_true] at h
       obtain ⟨b, hb, hK⟩ := h
       exact .inl ⟨_, w, by
         simp only [execOp, hop, hA.ev hx, hA.ev hy]
         have hv' := hb w
         simp only [Sem.run_bind] at hv' ⊢
         rw [hv']; rfl, hK⟩
     simp only [Bool.not_eq_true] at ho
     rw [ho] at h
     simp only [cond_false] at h
     by_cases hn : notNilI y vy = true
     · rw [hn] at h
       simp only [cond_true] at h
       have hnil : vy = .nilIface → ∃ c, y = .const c := by
         intro hv
         subst hv
         cases y <;> simp [notNilI] at hn ⊢
       rcases dbin_sound (xo := x) (yo := y) hnil h with hg | ⟨v, hv, hK⟩
       · exact gen_sound hA (by rw [hop]; rfl) hg
       · exact .inl ⟨v, w, by
           simp only [execOp, hop, hA.ev hx, hA.ev hy]
           have hv' := hv w
           simp only [Sem.run_bind] at hv' ⊢
           rw [hv']; rfl, hK⟩
     · simp only [Bool.not_eq_true] at hn; rw [hn] at h; exact h.elim
   · exact h.elim
 case h_5 T x i hop =>
   split at h
   · rename_i vx vi hx hi
     obtain ⟨v, hv, hK⟩ := dindexAddr_sound h
     exact .inl ⟨v, w, by simp [execOp, hop, hA.ev hx, hA.ev hi, hv], hK⟩
   · exact h.elim
 case h_6 T x i hop =>
   split at h
   · rename_i vx vi hx hi
     obtain ⟨v, hv, hK⟩ := dindex_sound h
     exact .inl ⟨v, w, by simp [execOp, hop, hA.ev hx, hA.ev hi, hv], hK⟩
   · exact h.elim
 case h_7 T x i hop =>
   split at h
   · rename_i vx hx
     obtain ⟨v, hv, hK⟩ := dfield_sound h
     exact .inl ⟨v, w, by simp [execOp, hop, hA.ev hx, hv], hK⟩
   · exact h.elim
 case h_8 T hop => exact genA_sound hA (by rw [hop]; rfl) h
 case h_9 T x hop => exact genA_sound hA (by rw [hop]; rfl) h
 case h_10 T n ps hop =>
   cases hq : opqEl (elemKd P tk T) with
   | true =>
     rw [hq] at h
     simp only [cond_true] at h
     by_cases hk : known e o.op.operands = true
     · rw [hk] at h
       simp only [cond_true] at h
       have hc := known_congr hA (by rw [hop]; rfl) hk
       obtain ⟨r, w1, hr, hK⟩ := exRK_out h
       exact .inl ⟨r, w1, by rw [hc]; simp [execOp, hop]; rw [hr]; rfl, hK⟩
     · simp only [Bool.not_eq_true] at hk; rw [hk] at h; exact h.elim
   | false =>
     rw [hq] at h
     exact genA_sound hA (by rw [hop]; rfl) h
 case h_11 T x lo hi mx hop =>
   by_cases hk : known e o.op.operands = true
   · rw [hk] at h
     simp only [cond_true] at h
     have hc := known_congr hA (by rw [hop]; rfl) hk
     obtain ⟨v, hv, hK⟩ := dslice_sound h
     exact .inl ⟨v, w, by rw [hc]; simp [execOp, hop, hv], hK⟩
   · simp only [Bool.not_eq_true] at hk; rw [hk] at h; exact h.elim
 case h_12 T l c hop =>
   split at h
   · rename_i vl vc hl hc
     obtain ⟨v, w', hv, hK⟩ := dmakeSlice_sound h
     exact .inl ⟨v, w', by simp [execOp, hop, hA.ev hl, hA.ev hc, hv], hK⟩
   · exact h.elim
 case h_13 s d x hop =>
   split at h
   · rename_i k n hx
     by_cases hs : (P.underlying s).isSome = true
     · rw [hs] at h
       simp only [cond_true] at h
       obtain ⟨ds, hds⟩ := cells_of _ hs
       split at h
       · rename_i k' hd
         exact .inl ⟨_, _, by simp [execOp, hop, hA.ev hx, convert, run_underlying' hds, run_underlying' hd, Conv.intToInt], h⟩
       · obtain ⟨r, w1, hr, hK⟩ := exRK_out h
         exact .inl ⟨r, w1, by simp [execOp, hop, hA.ev hx, hr], hK⟩
     · simp only [Bool.not_eq_true] at hs; rw [hs] at h; exact h.elim
   · rename_i v _ hx
     obtain ⟨r, w1, hr, hK⟩ := exRK_out h
     exact .inl ⟨r, w1, by simp [execOp, hop, hA.ev hx, hr], hK⟩
   · exact h.elim
 case h_14 t ps hop =>
   split at h
   · exact gen_sound hA (by rw [hop]; rfl) h
   · by_cases hk : known e o.op.operands = true
     · rw [hk] at h
       simp only [cond_true] at h
       have hc := known_congr hA (by rw [hop]; rfl) hk
       obtain ⟨cs, hr, hK⟩ := h
       exact .inl ⟨_, _, by rw [hc]; simp [execOp, hop]; rw [hr]; rfl, hK⟩
     · simp only [Bool.not_eq_true] at hk; rw [hk] at h; exact h.elim
 case h_15 T m i ok hop =>
   split at h
   · rename_i vm vi hm hi
     obtain ⟨r, w1, hr, hK⟩ := exRK_out h
     exact .inl ⟨r, w1, by simp [execOp, hop, hA.ev hm, hA.ev hi, hr], hK⟩
   · exact h.elim
 case h_16 T m i x hop =>
   split at h
   · rename_i vm vi vx hm hi hx
     obtain ⟨w1, hr, hK⟩ := h
     exact .inr (.inl ⟨w1, by simp [execOp, hop, hA.ev hm, hA.ev hi, hA.ev hx, hr], hK⟩)
   · exact h.elim
 case h_17 T r hop =>
   by_cases hk : known e o.op.operands = true
   · rw [hk] at h
     simp only [cond_true] at h
     have hc := known_congr hA (by rw [hop]; rfl) hk
     obtain ⟨v, w1, hr, hK⟩ := exRK_out h
     exact .inl ⟨v, w1, by rw [hc]; simp [execOp, hop, hr], hK⟩
   · simp only [Bool.not_eq_true] at hk; rw [hk] at h; exact h.elim
 case h_18 T x hop =>
   split at h
   · rename_i vx hx
     obtain ⟨v, w1, hr, hK⟩ := h
     exact .inl ⟨v, w1, by simp [execOp, hop, hA.ev hx, hr], hK⟩
   · exact h.elim
 case h_19 it isS hop =>
   split at h
   · rename_i vx hx
     rcases h with h | ⟨w1, hr, hK⟩
     · cases isS with
       | true =>
         obtain ⟨n, c, w1, hr, hK⟩ := h
         exact .inl ⟨_, w1, by simp [execOp, hop, hA.ev hx, hr], hK⟩
       | false =>
         obtain ⟨k, v, w1, hr, hK⟩ := h
         exact .inl ⟨_, w1, by simp [execOp, hop, hA.ev hx, hr], hK⟩
     · exact .inl ⟨_, w1, by simp [execOp, hop, hA.ev hx, hr], hK⟩
   · exact h.elim
 case h_20 c hop =>
   have bi : ∀ (b : Builtin) (r : Value) (w1 : World), c.callee = .builtin b → known e o.op.operands = true →
       (∀ cs, (Go.builtin b c.argTypes o.type cs (c.args.map (ro e))).run P w = .ok (.value r) w1) → K r w1 → Runs P o a w K := by
     intro b r w1 hb hk hr hK
     have hc := known_congr hA (by rw [hop]; rfl) hk
     exact .inl ⟨r, w1, by rw [hc]; simp [execOp, hop, resolve, hb, invoke, hr], hK⟩
   have kn : ∀ {X : Prop}, (bif known e o.op.operands then X else False) → known e o.op.operands = true ∧ X := by
     intro X hX
     by_cases hk : known e o.op.operands = true
     · rw [hk] at hX; exact ⟨hk, hX⟩
     · simp only [Bool.not_eq_true] at hk; rw [hk] at hX; exact hX.elim
   split at h
   · rename_i k hb
     split at h
     · rename_i f pre cap hg
       obtain ⟨hk, hcall, h⟩ := kn h
       have hc := known_congr hA (by rw [hop]; rfl) hk
       refine .inr (.inr ⟨f, pre ++ c.args.map (ro e) ++ cap, w, ?_, h.mono fun en w1 h1 => ?_⟩)
       · have hro : ro e (.tmp k) = .func (.func f) pre cap := by simp [ro, ev, hg]
         rw [hc]
         simp [execOp, hop, resolve, hb, hro, Deferred.ofValue, invoke, run_callFunc hcall]
       · obtain ⟨v, hv, hK⟩ := exRK_out h1
         exact ⟨v, hv, hK⟩
     · exact gen_sound hA (by rw [hop]; rfl) h
   · rename_i hb
     obtain ⟨hk, h⟩ := kn h
     obtain ⟨r, w1, hr, hK⟩ := exRK_out h
     exact bi _ r w1 hb hk (fun _ => by simp [Go.builtin, hr]) hK
   · rename_i hb
     obtain ⟨hk, h⟩ := kn h
     obtain ⟨r, w1, hr, hK⟩ := exRK_out h
     exact bi _ r w1 hb hk (fun _ => by simp [Go.builtin, hr]) hK
   · rename_i hb
     obtain ⟨hk, h⟩ := kn h
     obtain ⟨r, w1, hr, hK⟩ := exRK_out h
     exact bi _ r w1 hb hk (fun _ => by simp [Go.builtin, hr]) hK
   · rename_i hb
     obtain ⟨hk, h⟩ := kn h
     obtain ⟨r, w1, hr, hK⟩ := exRK_out h
     exact bi _ r w1 hb hk (fun _ => by simp [Go.builtin, hr]) hK
   · rename_i hb
     obtain ⟨hk, r, w1, hr, hK⟩ := kn h
     exact bi _ r w1 hb hk (fun _ => by simp [Go.builtin, hr]) hK
   · rename_i f hb
     split at h
     · rename_i fn hfn
       split at h
       · exact gen_sound hA (by rw [hop]; rfl) h
       · obtain ⟨hk, h⟩ := kn h
         obtain ⟨r, w1, hr, hK⟩ := exRK_out h
         have hc := known_congr hA (by rw [hop]; rfl) hk
         refine .inl ⟨r, w1, ?_, hK⟩
         rw [hc]
         have hro : ro e (.func f) = .func (.func f) #[] #[] := by simp [ro, ev]
         simp [execOp, hop, resolve, hb, hro, Deferred.ofValue, invoke, hr]
     · exact h.elim
   · rename_i hb
     obtain ⟨hk, h⟩ := kn h
     obtain ⟨r, w1, hr, hK⟩ := exRK_out h
     exact bi _ r w1 hb hk (fun _ => by simp [Go.builtin, hr]) hK
   · rename_i hb
     obtain ⟨hk, h⟩ := kn h
     obtain ⟨r, w1, hr, hK⟩ := exRK_out h
     exact bi _ r w1 hb hk (fun _ => by simp [Go.builtin, hr]) hK
   · rename_i hb
     obtain ⟨hk, r, w1, hr, hK⟩ := kn h
     exact bi _ r w1 hb hk (fun _ => by simp [Go.builtin, hr]) hK
   · rename_i hb
     split at h
     · obtain ⟨hk, h⟩ := kn h
       obtain ⟨r, w1, hr, hK⟩ := exRK_out h
       exact bi _ r w1 hb hk (fun _ => by simp [Go.builtin, hr]) hK
     · exact gen_sound hA (by rw [hop]; rfl) h
   · exact gen_sound hA (by rw [hop]; rfl) h
 case h_21 T x hop =>
   split at h
   · rename_i vx hx
     obtain ⟨v, hv, hK⟩ := darr_sound h
     exact .inl ⟨v, w, by simp [execOp, hop, hA.ev hx, hv], hK⟩
   · exact h.elim
 case h_22 T m i hop =>
   split at h
   · rename_i vm vi hm hi
     obtain ⟨v0, st, w1, hr, hK⟩ := h
     exact .inl ⟨_, w1, by simp [execOp, hop, hA.ev hm, hA.ev hi, hr], hK⟩
   · exact h.elim
 case h_23 T m s x hop =>
   split at h
   · rename_i vm vs vx hm hs hx
     obtain ⟨w1, hr, hK⟩ := h
     exact .inr (.inl ⟨w1, by simp [execOp, hop, hA.ev hm, hA.ev hs, hA.ev hx, hr], hK⟩)
   · exact h.elim
 case h_24 it hop =>
   split at h
   · rename_i vx hx
     obtain ⟨v, w1, hr, hK⟩ := exRK_out h
     exact .inl ⟨v, w1, by simp [execOp, hop, hA.ev hx, hr], hK⟩
   · exact h.elim
 case h_25 => exact h.elim
 case h_26 => 
   refine gen_sound hA ?_ h
   cases hop : o.op <;> first | rfl | simp_all
end
end Gx
namespace Gx
open Go
inductive An where
 | run
 | split (n : Nat)
 | pure (n : Nat)
 | ent (ks : List Kd)
def pv (P : Program) (o : Oper) (e : Env) : Option Value :=
 match o.op with
 | .move x => ev e x
 | .assign x => ev e x
 | .unOp .not _ x => match ev e x with
   | some (.bool b) => some (.bool (!b))
   | _ => none
 | .binOp op T x y _ => match ev e y with
   | some (.int k' b) => match ev e x with
     | some (.int k a) => bif kEq k k' then
         match op with
         | .add => some (.int k (k.wrap (a + b)))
         | .sub => some (.int k (k.wrap (a - b)))
         | .mul => some (.int k (k.wrap (a * b)))
         | .quo => match b with
           | .ofNat (.succ m) => some (.int k (k.wrap (a.tdiv (.ofNat (.succ m)))))
           | _ => none
         | .rem => match b with
           | .ofNat (.succ m) => some (.int k (a.tmod (.ofNat (.succ m))))
           | _ => none
         | .and => some (.int k (k.wrap (BitVec.ofInt k.bits a &&& BitVec.ofInt k.bits b).toNat))
         | .or => some (.int k (k.wrap (BitVec.ofInt k.bits a ||| BitVec.ofInt k.bits b).toNat))
         | .eql => some (.bool (a == b))
         | .neq => some (.bool (a != b))
         | .lss => some (.bool (a < b))
         | .leq => some (.bool (a ≤ b))
         | .gtr => some (.bool (a > b))
         | .geq => some (.bool (a ≥ b))
         | _ => none
       else none
     | _ => none
   | some (.bool b) => match ev e x with
     | some (.bool a) => match P.underlying T with
       | some .bool => match op with
         | .eql => some (.bool (a == b))
         | .neq => some (.bool (!(a == b)))
         | _ => none
       | _ => none
     | _ => none
   | some (.string b) => match ev e x with
     | some (.string a) => match op with
       | .eql => some (.bool (a.toList == b.toList))
       | .neq => some (.bool (!(a.toList == b.toList)))
       | _ => none
     | _ => none
   | some (.pointer none) => match ev e x with
     | some (.pointer p) => bif isPtrT (P.underlying T) then match op with
         | .eql => some (.bool p.isNone)
         | .neq => some (.bool (!p.isNone))
         | _ => none
       else none
     | _ => none
   | some (.slice none _ _) => match ev e x with
     | some (.slice p _ _) => bif isSliceT (P.underlying T) then match op with
         | .eql => some (.bool p.isNone)
         | .neq => some (.bool (!p.isNone))
         | _ => none
       else none
     | _ => none
   | _ => none
 | .convert s d x => match ev e x with
   | some (.int _ n) => match P.underlying d with
     | some (.int k) => bif (P.underlying s).isSome then some (.int k (k.wrap n)) else none
     | _ => none
   | _ => none
 | .call { callee := .builtin .len, args := args, argTypes := ats } => match args[0]?, ats[0]? with
   | some x, some T => match ev e x, P.underlying T with
     | some (.slice _ n _), some (.slice _) => some (.int .i64 n)
     | some (.string s), some .string => some (.int .i64 s.size)
     | _, _ => none
   | _, _ => none
 | .call { callee := .builtin .cap, args := args, argTypes := ats } => match args[0]?, ats[0]? with
   | some x, some T => match ev e x, P.underlying T with
     | some (.slice _ _ c), some (.slice _) => some (.int .i64 c)
     | _, _ => none
   | _, _ => none
 | _ => none
def gval (ops : Array Oper) (e : Env) (j : Nat) : Option Value := ((ops[j]?).bind (·.dst)).bind e.get
def gslot (ops : Array Oper) (j : Nat) : Option Nat := (ops[j]?).bind (·.dst)
def pickK (o : Oper) (e : Env) (K : Bool → Prop) : Prop :=
 match o.guard with
 | none => match o.op with
   | .pick x y z => match ev e x with
     | some (.bool b) => match ev e (bif b then y else z) with
       | some (.bool r) => K r
       | _ => False
     | _ => False
   | _ => False
 | some _ => False
def guardK (ops : Array Oper) (o : Oper) (e : Env) (run skip : Prop) : Prop :=
 match o.guard with
 | none => run
 | some (j, want) => match gval ops e j with
   | none => False
   | some (.bool b) => bif Bool.xor b want then skip else run
   | some _ => skip
def guardV {α : Type} (ops : Array Oper) (o : Oper) (e : Env) (run skip : Option α) : Option α :=
 match o.guard with
 | none => run
 | some (j, want) => match gval ops e j with
   | none => none
   | some (.bool b) => bif Bool.xor b want then skip else run
   | some _ => skip
def pickV (o : Oper) (e : Env) : Option Bool :=
 match o.op with
 | .pick x y z => match ev e x with
   | some (.bool b) => match ev e (bif b then y else z) with
     | some (.bool r) => some r
     | _ => none
   | _ => none
 | _ => none
def grpK (ops : Array Oper) (o : Oper) (e : Env) : Option (Nat × Bool) :=
 match o.guard with
 | none => none
 | some (j, _) => match gslot ops j with
   | none => none
   | some s => match e.get s with
     | some (.bool c) => some (s, c)
     | _ => none
def wantedPick (ops : Array Oper) (o : Oper) (e : Env) : Bool :=
 match o.guard with
 | none => true
 | some (j, want) => match gval ops e j with
   | some (.bool b) => !(Bool.xor b want)
   | _ => false
def disj (e : Env) (ds : List Nat) : Bool := e.all fun p => !(ds.any fun d => Nat.beq d p.1)
def dsts (l : List Oper) : List Nat := l.filterMap (·.dst)
def PV (P : Program) (ops : Array Oper) : Nat → List Oper → List An → Env → Option Env
 | 0, _, _, _ => none
 | _ + 1, [], _, e => some e
 | n + 1, o :: rest, .pure m :: as, e =>
   match grpK ops o e, rest.drop (m - 1) with
   | none, _ =>
     match guardV ops o e none (some undef) with
     | some v => PV P ops n rest as (eput o.dst v e)
     | none => none
   | some (s, c), pk :: rest' =>
     match PV P ops n (o :: rest.take (m - 1)) (.run :: as.take (m - 1)) ((s, .bool true) :: e), PV P ops n (o :: rest.take (m - 1)) (.run :: as.take (m - 1)) ((s, .bool false) :: e) with
     | some e1, some e2 =>
       match pickV pk e1, pickV pk e2 with
       | some r1, some r2 => bif wantedPick ops pk e && disj e (dsts (o :: rest.take (m - 1))) then PV P ops n rest' (as.drop m) (eput pk.dst (.bool (cond c r1 r2)) e) else none
       | _, _ => none
     | _, _ => none
   | _, _ => none
 | n + 1, o :: rest, _ :: as, e =>
   match guardV ops o e (pv P o e) (some undef) with
   | some v => PV P ops n rest as (eput o.dst v e)
   | none => none
 | n + 1, o :: rest, [], e =>
   match guardV ops o e (pv P o e) (some undef) with
   | some v => PV P ops n rest [] (eput o.dst v e)
   | none => none
inductive Jn {α : Type} (B : α → Prop) (k : α) : Prop where
 | mk (h : B k)
theorem Jn.out {α : Type} {B : α → Prop} {k : α} (h : Jn B k) : B k := by cases h with | mk h => exact h
def DEnt (P : Program) (ks : List Kd) (o : Oper) (K : Value → World → Prop) (e : Env) (w : World) : Prop :=
 match o.op with
 | .entry it => match ev e it with
   | some vx => exKds ks fun vs => ∃ w1, (Instr.entry vx).run P w = .ok (.tuple vs.toArray) w1 ∧ K (.tuple vs.toArray) w1
   | _ => False
 | _ => False
theorem DEnt_sound {P : Program} {ks : List Kd} {o : Oper} {K : Value → World → Prop} {e : Env} {w : World} {a : Act} (hA : Agrees e a) (h : DEnt P ks o K e w) : Runs P o a w K := by
 unfold DEnt at h
 split at h
 · rename_i it hop
   split at h
   · rename_i vx hx
     obtain ⟨v, w1, hr, hK⟩ := exKds_out h
     exact .inl ⟨_, w1, by simp [execOp, hop, hA.ev hx, hr], hK⟩
   · exact h.elim
 · exact h.elim
def DOps (P : Program) (tk : TypeId → RK) (ops : Array Oper) : Nat → List Oper → List An → (Env → World → Prop) → Env → World → Prop
 | 0, _, _, _, _, _ => False
 | _ + 1, [], _, K, e, w => K e w
 | n + 1, o :: rest, .ent ks :: as, K, e, w =>
   guardK ops o e (DEnt P ks o (fun v w' => DOps P tk ops n rest as K (eput o.dst v e) w') e w) (DOps P tk ops n rest as K (eput o.dst undef e) w)
 | n + 1, o :: rest, .pure m :: as, K, e, w =>
   match grpK ops o e, rest.drop (m - 1) with
   | none, _ => guardK ops o e False (DOps P tk ops n rest as K (eput o.dst undef e) w)
   | some (s, c), pk :: rest' =>
     match PV P ops n (o :: rest.take (m - 1)) (.run :: as.take (m - 1)) ((s, .bool true) :: e), PV P ops n (o :: rest.take (m - 1)) (.run :: as.take (m - 1)) ((s, .bool false) :: e) with
     | some e1, some e2 =>
       match pickV pk e1, pickV pk e2 with
       | some r1, some r2 => bif wantedPick ops pk e && disj e (dsts (o :: rest.take (m - 1))) then DOps P tk ops n rest' (as.drop m) K (eput pk.dst (.bool (cond c r1 r2)) e) w else False
       | _, _ => False
     | _, _ => False
   | _, _ => False
 | n + 1, o :: rest, .split m :: as, K, e, w =>
   match grpK ops o e, rest.drop (m - 1) with
   | none, _ => guardK ops o e False (DOps P tk ops n rest as K (eput o.dst undef e) w)
   | some (s, c), pk :: rest' =>
     bif wantedPick ops pk e && disj e (dsts (o :: rest.take (m - 1))) then
       Jn (fun k : Bool → World → Prop =>
           (c = true → DOps P tk ops n (o :: rest.take (m - 1)) (.run :: as.take (m - 1)) (fun e' w' => match pickV pk e' with | some r => k r w' | none => False) ((s, .bool true) :: e) w) ∧
           (c = false → DOps P tk ops n (o :: rest.take (m - 1)) (.run :: as.take (m - 1)) (fun e' w' => match pickV pk e' with | some r => k r w' | none => False) ((s, .bool false) :: e) w))
         (fun r w' => DOps P tk ops n rest' (as.drop m) K (eput pk.dst (.bool r) e) w')
     else False
   | _, _ => False
 | n + 1, o :: rest, _ :: as, K, e, w =>
   guardK ops o e (DOp P tk o (fun v w' => DOps P tk ops n rest as K (eput o.dst v e) w') e w) (DOps P tk ops n rest as K (eput o.dst undef e) w)
 | n + 1, o :: rest, [], K, e, w =>
   guardK ops o e (DOp P tk o (fun v w' => DOps P tk ops n rest [] K (eput o.dst v e) w') e w) (DOps P tk ops n rest [] K (eput o.dst undef e) w)
structure Keep (ds : List Nat) (a a' : Act) : Prop where
 defers : a'.defers = a.defers
 size : a'.tmps.size = a.tmps.size
 same : ∀ s, s ∉ ds → a'.tmps[s]? = a.tmps[s]?
theorem Keep.refl (ds : List Nat) (a : Act) : Keep ds a a := ⟨rfl, rfl, fun _ _ => rfl⟩
theorem Keep.trans {ds : List Nat} {a b c : Act} (h : Keep ds a b) (k : Keep ds b c) : Keep ds a c :=
 ⟨k.defers.trans h.defers, k.size.trans h.size, fun s hs => (k.same s hs).trans (h.same s hs)⟩
theorem Keep.mono {ds es : List Nat} {a b : Act} (h : Keep ds a b) (hs : ∀ s, s ∈ ds → s ∈ es) : Keep es a b :=
 ⟨h.defers, h.size, fun s hn => h.same s fun hm => hn (hs s hm)⟩
theorem Keep.put {a : Act} {d : Option Nat} {v : Value} {ds : List Nat} (hd : ∀ k, d = some k → k ∈ ds) : Keep ds a (a.put d v) := by
 cases d with
 | none => exact .refl _ _
 | some d => exact ⟨rfl, by simp [Act.put], fun s hs => by
     have : d ≠ s := fun h => hs (h ▸ hd d rfl)
     simp [Act.put, Array.getElem?_setIfInBounds_ne this]⟩
def PostL (a : Act) (ds : List Nat) (K : Env → World → Prop) (x : Exit) (a' : Act) (w' : World) : Prop :=
 x = .normal ∧ Keep ds a a' ∧ ∃ e', Agrees e' a' ∧ K e' w'
theorem wpList_mono {P : Program} {ops : Array Oper} {Q Q' : Exit → Act → World → Prop} (hq : ∀ x a w, Q x a w → Q' x a w) :
   ∀ (l : List Oper) (a : Act) (w : World), wpList P ops Q l a w → wpList P ops Q' l a w
 | [], _, _, h => hq _ _ _ h
 | o :: l, a, w, h => by
   simp only [wpList] at h ⊢
   split
   · rename_i hw
     rw [if_pos hw] at h
     refine h.imp (fun h => ?_) (fun ⟨h1, a', w', h2⟩ => ⟨h1, a', w', hq _ _ _ h2⟩)
     have := Oper.wp_mono (Q := Q) (fun a w => wpList_mono hq l a w) h
     unfold Oper.wp at this ⊢
     revert this
     generalize (execOp a.eval o).run P w = r
     intro this
     cases r with
     | ok nx w' =>
       cases nx <;> simp only [Oper.upon] at this ⊢ <;> first
         | exact this
         | (exact Calls.mono this fun e w'' he => by
             cases e with
             | returned v => exact he
             | panicked c => exact hq _ _ _ he
             | outgrown => exact let ⟨a', w', h2⟩ := he; ⟨a', w', hq _ _ _ h2⟩)
     | halt x w' => cases x <;> simp only [Oper.upon] at this ⊢ <;> first | exact hq _ _ _ this | exact this
   · rename_i hw
     rw [if_neg hw] at h
     exact wpList_mono hq l _ _ h
theorem wpList_append {P : Program} {ops : Array Oper} {Q : Exit → Act → World → Prop} (l2 : List Oper) :
   ∀ (l1 : List Oper) (a : Act) (w : World), wpList P ops (fun x a w => x = .normal ∧ wpList P ops Q l2 a w) l1 a w → wpList P ops Q (l1 ++ l2) a w
 | [], _, _, h => h.2
 | o :: l, a, w, h => by
   simp only [List.cons_append, wpList] at h ⊢
   split
   · rename_i hw
     rw [if_pos hw] at h
     rcases h with h | ⟨_, a', w', h2, _⟩
     · left
       have := Oper.wp_mono (fun a w => wpList_append l2 l a w) h
       unfold Oper.wp at this ⊢
       revert this
       generalize (execOp a.eval o).run P w = r
       intro this
       cases r with
       | ok nx w' =>
         cases nx <;> simp only [Oper.upon] at this ⊢ <;> first
           | exact this
           | (exact Calls.mono this fun e w'' he => by
               cases e with
               | returned v => exact he
               | panicked c => cases he.1
               | outgrown => exact let ⟨a', w', h2⟩ := he; by cases h2.1)
       | halt x w' => cases x <;> simp only [Oper.upon] at this ⊢ <;> first | (cases this.1; done) | exact this
     · cases h2
   · rename_i hw
     rw [if_neg hw] at h
     exact wpList_append l2 l _ _ h
section
variable {P : Program} {tk : TypeId → RK} {ops : Array Oper}
def vb : Value → Option Bool
 | .bool b => some b
 | _ => none
theorem gval_yielded {e : Env} {a : Act} (hA : Agrees e a) {j : Nat} {v : Value} (h : gval ops e j = some v) :
   yielded ops a.tmps j = vb v := by
 unfold gval at h
 unfold yielded
 cases hd : (ops[j]?).bind (·.dst) with
 | none => rw [hd] at h; simp at h
 | some s =>
   rw [hd] at h
   simp only [Option.bind_some] at h ⊢
   rw [hA.get _ _ h]
   cases v <;> rfl
theorem guardK_sound {o : Oper} {e : Env} {a : Act} (hA : Agrees e a) {R S : Prop} (h : guardK ops o e R S) :
   (Region.wanted o (yielded ops a.tmps) = true ∧ R) ∨ (Region.wanted o (yielded ops a.tmps) = false ∧ S) := by
 unfold guardK at h
 unfold Region.wanted
 split at h
 · rename_i hg; rw [hg]; exact .inl ⟨rfl, h⟩
 · rename_i j want hg
   rw [hg]
   simp only
   split at h
   · exact h.elim
   · rename_i b hv
     rw [gval_yielded hA hv]
     cases b <;> cases want <;> first | exact .inl ⟨rfl, h⟩ | exact .inr ⟨rfl, h⟩
   · rename_i v hnb hv
     rw [gval_yielded hA hv]
     cases v <;> first | exact absurd rfl (hnb _) | exact .inr ⟨by cases want <;> rfl, h⟩
theorem guardK_mono {o : Oper} {e : Env} {R R' S : Prop} (h : guardK ops o e R S) (hr : R → R') : guardK ops o e R' S := by
 unfold guardK at h ⊢
 split at h
 · exact hr h
 · rename_i j want hg
   split at h
   · exact h
   · rename_i b hv
     cases hb : Bool.xor b want <;> rw [hb] at h <;> first | exact hr h | exact h
   · exact h
theorem guardV_mono {α : Type} {o : Oper} {e : Env} {R S : Option α} {r : α} (h : guardV ops o e none S = some r) : guardV ops o e R S = some r := by
 unfold guardV at h ⊢
 split at h
 · cases h
 · rename_i j want hg
   split at h
   · exact h
   · rename_i b hv
     cases hb : Bool.xor b want with
     | true => rw [hb] at h; exact h
     | false => rw [hb] at h; cases h
   · exact h
theorem guardV_sound {α : Type} {o : Oper} {e : Env} {a : Act} (hA : Agrees e a) {R S : Option α} {r : α} (h : guardV ops o e R S = some r) :
   (Region.wanted o (yielded ops a.tmps) = true ∧ R = some r) ∨ (Region.wanted o (yielded ops a.tmps) = false ∧ S = some r) := by
 unfold guardV at h
 unfold Region.wanted
 split at h
 · rename_i hg; rw [hg]; exact .inl ⟨rfl, h⟩
 · rename_i j want hg
   rw [hg]
   simp only
   split at h
   · cases h
   · rename_i b hv
     rw [gval_yielded hA hv]
     cases b <;> cases want <;> first | exact .inl ⟨rfl, h⟩ | exact .inr ⟨rfl, h⟩
   · rename_i v hnb hv
     rw [gval_yielded hA hv]
     cases v <;> first | exact absurd rfl (hnb _) | exact .inr ⟨by cases want <;> rfl, h⟩
theorem pv_sound {o : Oper} {e : Env} {a : Act} (hA : Agrees e a) {v : Value} (h : pv P o e = some v) (w : World) : (execOp a.eval o).run P w = .ok (.value v) w := by
 unfold pv at h
 split at h
 · rename_i x hop
   simp [execOp, hop, hA.ev h]
 · rename_i x hop
   simp [execOp, hop, hA.ev h]
 · rename_i t x hop
   split at h
   · rename_i b hx
     cases h
     simp [execOp, hop, hA.ev hx, Op.unary]
   · cases h
 · rename_i op T x y yt hop
   split at h
   · rename_i k' b hy
     split at h
     · rename_i k c hx
       by_cases hk : k = k'
       · subst hk
         simp only [kEq, decide_true, cond_true] at h
         split at h
         case h_4 => 
           split at h
           · cases h
             simp [execOp, hop, hA.ev hx, hA.ev hy, eqGuard, binOp, Op.intDiv]
             intro hz; exfalso; revert hz; simp; omega
           · cases h
         case h_5 =>
           split at h
           · cases h
             simp [execOp, hop, hA.ev hx, hA.ev hy, eqGuard, binOp, Op.intDiv]
             intro hz; exfalso; revert hz; simp; omega
           · cases h
         all_goals first
           | (cases h; simp [execOp, hop, hA.ev hx, hA.ev hy, eqGuard, binOp, Op.intArith, Op.intBits, Op.intCmp]; done)
           | cases h
       · simp [kEq, hk] at h
     · cases h
   · rename_i b hy
     split at h
     · rename_i c hx
       split at h
       · rename_i hT
         have e1 : ∀ (d : Nat) (w : World), (Op.equalIn (d + 1) T (.bool c) (.bool b)).run P w = .ok (c == b) w := by
           intro d w
           simp [Op.equalIn, run_underlying' hT]
         have e2 : ∀ w : World, (Op.equal T (.bool c) (.bool b)).run P w = .ok (c == b) w := fun w => by rw [equal_succ]; exact e1 _ w
         split at h
         · cases h
           simp [execOp, hop, hA.ev hx, hA.ev hy, eqGuard, binOp, e2]
         · cases h
           simp [execOp, hop, hA.ev hx, hA.ev hy, eqGuard, binOp, e2]
         · cases h
       · cases h
     · cases h
   · rename_i b hy
     split at h
     · rename_i c hx
       split at h
       · cases h
         have e1 : (binOp .eql T (.string c) (.string b)).run P w = .ok (.bool (c.toList == b.toList)) w := rfl
         simp only [execOp, hop, hA.ev hx, hA.ev hy]
         simp [eqGuard, e1]
       · cases h
         have e1 : (binOp .neq T (.string c) (.string b)).run P w = .ok (.bool (!(c.toList == b.toList))) w := rfl
         simp only [execOp, hop, hA.ev hx, hA.ev hy]
         simp [eqGuard, e1]
       · cases h
     · cases h
   · rename_i hy
     split at h
     · rename_i p hx
       by_cases hT : isPtrT (P.underlying T) = true
       · rw [hT] at h
         simp only [cond_true] at h
         split at h
         · cases h; simp [execOp, hop, hA.ev hx, hA.ev hy, eqGuard, binOp, run_ptrNil (P := P) hT]
         · cases h; simp [execOp, hop, hA.ev hx, hA.ev hy, eqGuard, binOp, run_ptrNil (P := P) hT]
         · cases h
       · simp only [Bool.not_eq_true] at hT; rw [hT] at h; cases h
     · cases h
   · rename_i l c hy
     split at h
     · rename_i p _ _ hx
       by_cases hT : isSliceT (P.underlying T) = true
       · rw [hT] at h
         simp only [cond_true] at h
         split at h
         · cases h; simp [execOp, hop, hA.ev hx, hA.ev hy, eqGuard, binOp, run_sliceNil (P := P) hT]
         · cases h; simp [execOp, hop, hA.ev hx, hA.ev hy, eqGuard, binOp, run_sliceNil (P := P) hT]
         · cases h
       · simp only [Bool.not_eq_true] at hT; rw [hT] at h; cases h
     · cases h
   · cases h
 · rename_i s d x hop
   split at h
   · rename_i k n hx
     split at h
     · rename_i k' hd
       by_cases hs : (P.underlying s).isSome = true
       · rw [hs] at h
         cases h
         obtain ⟨ds, hds⟩ := cells_of _ hs
         simp [execOp, hop, hA.ev hx, convert, run_underlying' hds, run_underlying' hd, Conv.intToInt]
       · simp only [Bool.not_eq_true] at hs; rw [hs] at h; cases h
     · cases h
   · cases h
 · rename_i args ats hop
   split at h
   · rename_i x T hx0 hT0
     split at h
     · rename_i p n c el hx hT
       cases h
       simp [execOp, hop, resolve, invoke, Go.builtin, Builtin.len_, hT0, hx0, run_underlying' hT, hA.ev hx, goInt]
     · rename_i s hx hT
       cases h
       simp [execOp, hop, resolve, invoke, Go.builtin, Builtin.len_, hT0, hx0, run_underlying' hT, hA.ev hx, goInt]
     · cases h
   · cases h
 · rename_i args ats hop
   split at h
   · rename_i x T hx0 hT0
     split at h
     · rename_i p n c el hx hT
       cases h
       simp [execOp, hop, resolve, invoke, Go.builtin, Builtin.cap_, hT0, hx0, run_underlying' hT, hA.ev hx, goInt]
     · cases h
   · cases h
 · cases h
theorem disj_keep {e : Env} {ds : List Nat} {a a' : Act} (hA : Agrees e a) (hd : disj e ds = true) (hk : Keep ds a a') : Agrees e a' := by
 constructor
 intro s v hs
 have hm : ∃ u, (s, u) ∈ e := by
   clear hd hA
   induction e with
   | nil => cases hs
   | cons p e ih =>
     obtain ⟨k, u⟩ := p
     rw [get_cons] at hs
     by_cases hks : k = s
     · subst hks; exact ⟨u, by simp⟩
     · rw [if_neg hks] at hs
       obtain ⟨u, hu⟩ := ih hs
       exact ⟨u, by simp [hu]⟩
 obtain ⟨u, hu⟩ := hm
 have h1 := List.all_eq_true.1 hd _ hu
 simp only [Bool.not_eq_true', List.any_eq_false] at h1
 rw [hk.same s fun hmem => h1 s hmem (Nat.beq_refl s)]
 exact hA.get s v hs
theorem pick_run {pk : Oper} {e : Env} {a : Act} (hA : Agrees e a) {r : Bool} (h : pickV pk e = some r) (w : World) :
   (execOp a.eval pk).run P w = .ok (.value (.bool r)) w := by
 unfold pickV at h
 split at h
 · rename_i x y z hop
   split at h
   · rename_i b hb
     split at h
     · rename_i r' hr
       cases h
       simp only [execOp, hop, hA.ev hb]
       cases b
       · simp only [cond_false] at hr
         simp [asBool, hA.ev hr]
       · simp only [cond_true] at hr
         simp [asBool, hA.ev hr]
     · cases h
   · cases h
 · cases h
theorem wantedPick_sound {pk : Oper} {e : Env} {a : Act} (hA : Agrees e a) (h : wantedPick ops pk e = true) : Region.wanted pk (yielded ops a.tmps) = true := by
 unfold wantedPick at h
 unfold Region.wanted
 split at h
 · rename_i hg; rw [hg]
 · rename_i j want hg
   rw [hg]
   simp only
   split at h
   · rename_i b hv
     rw [gval_yielded hA hv]
     cases b <;> cases want <;> first | rfl | cases h
   · cases h
theorem grpK_sound {o : Oper} {e : Env} {s : Nat} {c : Bool} (h : grpK ops o e = some (s, c)) : e.get s = some (.bool c) := by
 unfold grpK at h
 split at h
 · cases h
 · split at h
   · cases h
   · split at h
     · rename_i hs; cases h; exact hs
     · cases h
theorem Agrees.lit {e : Env} {a : Act} (hA : Agrees e a) {s : Nat} {v : Value} (h : e.get s = some v) : Agrees ((s, v) :: e) a := by
 constructor
 intro t u ht
 rw [get_cons] at ht
 by_cases hst : s = t
 · subst hst
   rw [if_pos rfl] at ht
   cases ht
   exact hA.get _ _ h
 · rw [if_neg hst] at ht
   exact hA.get _ _ ht
theorem split_list {α : Type} (o : α) (rest : List α) (m : Nat) {pk : α} {rest' : List α} (h : rest.drop m = pk :: rest') :
   o :: rest = (o :: rest.take m) ++ (pk :: rest') := by
 rw [← h]; simp
theorem bif_and {b c : Bool} {α : Type} {x y z : α} (h : (bif b && c then x else y) = z) (hy : y ≠ z) : b = true ∧ c = true ∧ x = z := by
 cases b <;> cases c <;> first | exact absurd h hy | exact ⟨rfl, rfl, h⟩
theorem PV_sound : ∀ (n : Nat) (l : List Oper) (as : List An) (e e' : Env) (a : Act) (w : World), Agrees e a → (∀ d ∈ dsts l, d < a.tmps.size) →
   PV P ops n l as e = some e' → wpList P ops (fun x a' w' => x = .normal ∧ Keep (dsts l) a a' ∧ Agrees e' a' ∧ w' = w) l a w := by
 intro n
 induction n with
 | zero => intro l as e e' a w _ _ h; cases h
 | succ n ih =>
   intro l as e e' a w hA hb h
   have one : ∀ (o : Oper) (rest : List Oper) (as' : List An), (∀ d ∈ dsts (o :: rest), d < a.tmps.size) →
       (match guardV ops o e (pv P o e) (some undef) with | some v => PV P ops n rest as' (eput o.dst v e) | none => none) = some e' →
       wpList P ops (fun x a' w' => x = .normal ∧ Keep (dsts (o :: rest)) a a' ∧ Agrees e' a' ∧ w' = w) (o :: rest) a w := by
     intro o rest as' hb h
     have hod : ∀ k, o.dst = some k → k ∈ dsts (o :: rest) := fun k hk => by simp [dsts, hk]
     have hrest : ∀ k, k ∈ dsts rest → k ∈ dsts (o :: rest) := fun k hk => by
       simp only [dsts, List.filterMap_cons]
       split
       · exact hk
       · exact List.mem_cons_of_mem _ hk
     split at h
     · rename_i v hv
       have next : ∀ (a' : Act), a' = a.put o.dst v → wpList P ops (fun x a' w' => x = .normal ∧ Keep (dsts (o :: rest)) a a' ∧ Agrees e' a' ∧ w' = w) rest a' w := by
         intro a' ha'
         subst ha'
         have hk : Keep (dsts (o :: rest)) a (a.put o.dst v) := Keep.put hod
         have := ih rest as' (eput o.dst v e) e' (a.put o.dst v) w (hA.put fun k hk => hb k (hod k hk)) (fun d hd => by rw [hk.size]; exact hb d (hrest d hd)) h
         exact wpList_mono (fun x a' w' ⟨h1, h2, h3, h4⟩ => ⟨h1, hk.trans (h2.mono hrest), h3, h4⟩) _ _ _ this
       rcases guardV_sound hA hv with ⟨hw, hp⟩ | ⟨hw, hp⟩
       · simp only [wpList, hw, if_true]
         left
         unfold Oper.wp
         rw [pv_sound hA hp w]
         exact next _ rfl
       · simp only [wpList, hw, Bool.false_eq_true, if_false]
         cases hp
         exact next _ rfl
     · cases h
   cases l with
   | nil =>
     simp only [PV, Option.some.injEq] at h
     subst h
     exact ⟨rfl, .refl _ _, hA, rfl⟩
   | cons o rest =>
     cases as with
     | nil => exact one o rest [] hb (by simpa only [PV] using h)
     | cons an as =>
       cases an with
       | run => exact one o rest as hb (by simpa only [PV] using h)
       | split m => exact one o rest as hb (by simpa only [PV] using h)
       | ent ks => exact one o rest as hb (by simpa only [PV] using h)
       | pure m =>
         simp only [PV] at h
         split at h
         · refine one o rest as hb ?_
           cases hv : guardV ops o e none (some undef) with
           | none => rw [hv] at h; cases h
           | some v => rw [hv] at h; rw [guardV_mono hv]; exact h
         · rename_i s c pk rest' hg hd
           split at h
           · rename_i e1 e2 h1 h2
             split at h
             · rename_i r1 r2 hr1 hr2
               obtain ⟨hwp, hdj, h⟩ := bif_and h (by simp)
               rw [split_list o rest (m - 1) hd] at hb ⊢
               have hgs := grpK_sound hg
               refine wpList_append _ _ _ _ ?_
               have hsub : ∀ k, k ∈ dsts (o :: rest.take (m - 1)) → k ∈ dsts ((o :: rest.take (m - 1)) ++ (pk :: rest')) := fun k hk => by
                 simp only [dsts, List.filterMap_append, List.mem_append]; exact .inl hk
               have hsub2 : ∀ k, k ∈ dsts (pk :: rest') → k ∈ dsts ((o :: rest.take (m - 1)) ++ (pk :: rest')) := fun k hk => by
                 simp only [dsts, List.filterMap_append, List.mem_append]; exact .inr hk
               have hpk : ∀ k, pk.dst = some k → k ∈ dsts (pk :: rest') := fun k hk => by simp [dsts, hk]
               have hrest : ∀ k, k ∈ dsts rest' → k ∈ dsts (pk :: rest') := fun k hk => by
                 simp only [dsts, List.filterMap_cons]
                 split
                 · exact hk
                 · exact List.mem_cons_of_mem _ hk
               have fin : ∀ (eg : Env) (r : Bool) (a1 : Act), Keep (dsts (o :: rest.take (m - 1))) a a1 → Agrees eg a1 → pickV pk eg = some r → r = cond c r1 r2 →
                   wpList P ops (fun x a' w' => x = .normal ∧ Keep (dsts ((o :: rest.take (m - 1)) ++ (pk :: rest'))) a a' ∧ Agrees e' a' ∧ w' = w) (pk :: rest') a1 w := by
                 intro eg r a1 hk1 hA1 hp hr
                 have hAe := disj_keep hA hdj hk1
                 simp only [wpList, wantedPick_sound hAe hwp, if_true]
                 left
                 unfold Oper.wp
                 rw [pick_run hA1 hp w]
                 simp only [Oper.upon]
                 have hk2 : Keep (dsts (pk :: rest')) a1 (a1.put pk.dst (.bool r)) := Keep.put hpk
                 have := ih rest' (as.drop m) (eput pk.dst (.bool (cond c r1 r2)) e) e' (a1.put pk.dst (.bool r)) w
                   (by rw [hr]; exact hAe.put fun k hk => by rw [hk1.size]; exact hb k (hsub2 k (hpk k hk)))
                   (fun d hd => by rw [hk2.size, hk1.size]; exact hb d (hsub2 d (hrest d hd))) h
                 refine wpList_mono (fun x a' w' ⟨g1, g2, g3, g4⟩ => ⟨g1, (hk1.mono hsub).trans ((hk2.mono hsub2).trans (g2.mono fun k hk => hsub2 k (hrest k hk))), g3, g4⟩) _ _ _ this
               cases c with
               | true =>
                 have := ih _ _ _ e1 a w (hA.lit hgs) (fun d hd => hb d (hsub d hd)) h1
                 exact wpList_mono (fun x a' w' ⟨g1, g2, g3, g4⟩ => ⟨g1, by subst g4; exact fin e1 r1 a' g2 g3 hr1 rfl⟩) _ _ _ this
               | false =>
                 have := ih _ _ _ e2 a w (hA.lit hgs) (fun d hd => hb d (hsub d hd)) h2
                 exact wpList_mono (fun x a' w' ⟨g1, g2, g3, g4⟩ => ⟨g1, by subst g4; exact fin e2 r2 a' g2 g3 hr2 rfl⟩) _ _ _ this
             · cases h
           · cases h
         · cases h
theorem DOps_sound : ∀ (n : Nat) (l : List Oper) (as : List An) (K : Env → World → Prop) (e : Env) (a : Act) (w : World), Agrees e a → (∀ d ∈ dsts l, d < a.tmps.size) →
   DOps P tk ops n l as K e w → wpList P ops (PostL a (dsts l) K) l a w := by
 intro n
 induction n with
 | zero => intro l as K e a w _ _ h; cases h
 | succ n ih =>
   intro l as K e a w hA hb h
   have one : ∀ (o : Oper) (rest : List Oper) (as' : List An), (∀ d ∈ dsts (o :: rest), d < a.tmps.size) →
       guardK ops o e (DOp P tk o (fun v w' => DOps P tk ops n rest as' K (eput o.dst v e) w') e w) (DOps P tk ops n rest as' K (eput o.dst undef e) w) →
       wpList P ops (PostL a (dsts (o :: rest)) K) (o :: rest) a w := by
     intro o rest as' hb h
     have hod : ∀ k, o.dst = some k → k ∈ dsts (o :: rest) := fun k hk => by simp [dsts, hk]
     have hrest : ∀ k, k ∈ dsts rest → k ∈ dsts (o :: rest) := fun k hk => by
       simp only [dsts, List.filterMap_cons]
       split
       · exact hk
       · exact List.mem_cons_of_mem _ hk
     have next : ∀ (v : Value) (w' : World), DOps P tk ops n rest as' K (eput o.dst v e) w' → wpList P ops (PostL a (dsts (o :: rest)) K) rest (a.put o.dst v) w' := by
       intro v w' h
       have hk : Keep (dsts (o :: rest)) a (a.put o.dst v) := Keep.put hod
       have := ih rest as' K (eput o.dst v e) (a.put o.dst v) w' (hA.put fun k hk => hb k (hod k hk)) (fun d hd => by rw [hk.size]; exact hb d (hrest d hd)) h
       exact wpList_mono (fun x a' w' ⟨h1, h2, h3⟩ => ⟨h1, hk.trans (h2.mono hrest), h3⟩) _ _ _ this
     rcases guardK_sound hA h with ⟨hw, hp⟩ | ⟨hw, hp⟩
     · simp only [wpList, hw, if_true]
       exact .inl ((DOp_sound hA hp).wp next)
     · simp only [wpList, hw, Bool.false_eq_true, if_false]
       exact next _ _ hp
   have oneE : ∀ (o : Oper) (rest : List Oper) (ks : List Kd) (as' : List An), (∀ d ∈ dsts (o :: rest), d < a.tmps.size) →
       guardK ops o e (DEnt P ks o (fun v w' => DOps P tk ops n rest as' K (eput o.dst v e) w') e w) (DOps P tk ops n rest as' K (eput o.dst undef e) w) →
       wpList P ops (PostL a (dsts (o :: rest)) K) (o :: rest) a w := by
     intro o rest ks as' hb h
     have hod : ∀ k, o.dst = some k → k ∈ dsts (o :: rest) := fun k hk => by simp [dsts, hk]
     have hrest : ∀ k, k ∈ dsts rest → k ∈ dsts (o :: rest) := fun k hk => by
       simp only [dsts, List.filterMap_cons]
       split
       · exact hk
       · exact List.mem_cons_of_mem _ hk
     have next : ∀ (v : Value) (w' : World), DOps P tk ops n rest as' K (eput o.dst v e) w' → wpList P ops (PostL a (dsts (o :: rest)) K) rest (a.put o.dst v) w' := by
       intro v w' h
       have hk : Keep (dsts (o :: rest)) a (a.put o.dst v) := Keep.put hod
       have := ih rest as' K (eput o.dst v e) (a.put o.dst v) w' (hA.put fun k hk => hb k (hod k hk)) (fun d hd => by rw [hk.size]; exact hb d (hrest d hd)) h
       exact wpList_mono (fun x a' w' ⟨h1, h2, h3⟩ => ⟨h1, hk.trans (h2.mono hrest), h3⟩) _ _ _ this
     rcases guardK_sound hA h with ⟨hw, hp⟩ | ⟨hw, hp⟩
     · simp only [wpList, hw, if_true]
       exact .inl ((DEnt_sound hA hp).wp next)
     · simp only [wpList, hw, Bool.false_eq_true, if_false]
       exact next _ _ hp
   cases l with
   | nil => exact ⟨rfl, .refl _ _, e, hA, h⟩
   | cons o rest =>
     cases as with
     | nil => exact one o rest [] hb (by simpa only [DOps] using h)
     | cons an as =>
       cases an with
       | run => exact one o rest as hb (by simpa only [DOps] using h)
       | ent ks => exact oneE o rest ks as hb (by simpa only [DOps] using h)
       | split m =>
         simp only [DOps] at h
         split at h
         · exact one o rest as hb (guardK_mono h False.elim)
         · rename_i s c pk rest' hg hd
           obtain ⟨hwp, hdj, h⟩ : wantedPick ops pk e = true ∧ disj e (dsts (o :: rest.take (m - 1))) = true ∧ _ := by
             cases h1 : wantedPick ops pk e <;> cases h2 : disj e (dsts (o :: rest.take (m - 1))) <;> rw [h1, h2] at h <;> first | exact h.elim | exact ⟨rfl, rfl, h⟩
           rw [split_list o rest (m - 1) hd] at hb ⊢
           have hgs := grpK_sound hg
           refine wpList_append _ _ _ _ ?_
           have hsub : ∀ k, k ∈ dsts (o :: rest.take (m - 1)) → k ∈ dsts ((o :: rest.take (m - 1)) ++ (pk :: rest')) := fun k hk => by
             simp only [dsts, List.filterMap_append, List.mem_append]; exact .inl hk
           have hsub2 : ∀ k, k ∈ dsts (pk :: rest') → k ∈ dsts ((o :: rest.take (m - 1)) ++ (pk :: rest')) := fun k hk => by
             simp only [dsts, List.filterMap_append, List.mem_append]; exact .inr hk
           have hpk : ∀ k, pk.dst = some k → k ∈ dsts (pk :: rest') := fun k hk => by simp [dsts, hk]
           have hrest : ∀ k, k ∈ dsts rest' → k ∈ dsts (pk :: rest') := fun k hk => by
             simp only [dsts, List.filterMap_cons]
             split
             · exact hk
             · exact List.mem_cons_of_mem _ hk
           have fin : ∀ (x : Exit) (a1 : Act) (w1 : World), PostL a (dsts (o :: rest.take (m - 1)))
               (fun e' w' => match pickV pk e' with | some r => DOps P tk ops n rest' (as.drop m) K (eput pk.dst (.bool r) e) w' | none => False) x a1 w1 →
               x = .normal ∧ wpList P ops (PostL a (dsts ((o :: rest.take (m - 1)) ++ (pk :: rest'))) K) (pk :: rest') a1 w1 := by
             rintro x a1 w1 ⟨hx, hk1, eg, hA1, h⟩
             refine ⟨hx, ?_⟩
             have hAe := disj_keep hA hdj hk1
             split at h
             · rename_i r hp
               simp only [wpList, wantedPick_sound hAe hwp, if_true]
               left
               unfold Oper.wp
               rw [pick_run hA1 hp w1]
               simp only [Oper.upon]
               have hk2 : Keep (dsts (pk :: rest')) a1 (a1.put pk.dst (.bool r)) := Keep.put hpk
               have := ih rest' (as.drop m) K (eput pk.dst (.bool r) e) (a1.put pk.dst (.bool r)) w1
                 (hAe.put fun k hk => by rw [hk1.size]; exact hb k (hsub2 k (hpk k hk)))
                 (fun d hd => by rw [hk2.size, hk1.size]; exact hb d (hsub2 d (hrest d hd))) h
               refine wpList_mono (fun x a' w' ⟨g1, g2, g3⟩ => ⟨g1, (hk1.mono hsub).trans ((hk2.mono hsub2).trans (g2.mono fun k hk => hsub2 k (hrest k hk))), g3⟩) _ _ _ this
             · exact h.elim
           have h := h.out
           cases c with
           | true =>
             have := ih _ _ _ _ a w (hA.lit hgs) (fun d hd => hb d (hsub d hd)) (h.1 rfl)
             exact wpList_mono fin _ _ _ this
           | false =>
             have := ih _ _ _ _ a w (hA.lit hgs) (fun d hd => hb d (hsub d hd)) (h.2 rfl)
             exact wpList_mono fin _ _ _ this
         · exact h.elim
       | pure m =>
         simp only [DOps] at h
         split at h
         · exact one o rest as hb (guardK_mono h False.elim)
         · rename_i s c pk rest' hg hd
           split at h
           · rename_i e1 e2 h1 h2
             split at h
             · rename_i r1 r2 hr1 hr2
               obtain ⟨hwp, hdj, h⟩ : wantedPick ops pk e = true ∧ disj e (dsts (o :: rest.take (m - 1))) = true ∧ _ := by
                 cases g1 : wantedPick ops pk e <;> cases g2 : disj e (dsts (o :: rest.take (m - 1))) <;> rw [g1, g2] at h <;> first | exact h.elim | exact ⟨rfl, rfl, h⟩
               rw [split_list o rest (m - 1) hd] at hb ⊢
               have hgs := grpK_sound hg
               refine wpList_append _ _ _ _ ?_
               have hsub : ∀ k, k ∈ dsts (o :: rest.take (m - 1)) → k ∈ dsts ((o :: rest.take (m - 1)) ++ (pk :: rest')) := fun k hk => by
                 simp only [dsts, List.filterMap_append, List.mem_append]; exact .inl hk
               have hsub2 : ∀ k, k ∈ dsts (pk :: rest') → k ∈ dsts ((o :: rest.take (m - 1)) ++ (pk :: rest')) := fun k hk => by
                 simp only [dsts, List.filterMap_append, List.mem_append]; exact .inr hk
               have hpk : ∀ k, pk.dst = some k → k ∈ dsts (pk :: rest') := fun k hk => by simp [dsts, hk]
               have hrest : ∀ k, k ∈ dsts rest' → k ∈ dsts (pk :: rest') := fun k hk => by
                 simp only [dsts, List.filterMap_cons]
                 split
                 · exact hk
                 · exact List.mem_cons_of_mem _ hk
               have fin : ∀ (eg : Env) (r : Bool) (a1 : Act), Keep (dsts (o :: rest.take (m - 1))) a a1 → Agrees eg a1 → pickV pk eg = some r → r = cond c r1 r2 →
                   wpList P ops (PostL a (dsts ((o :: rest.take (m - 1)) ++ (pk :: rest'))) K) (pk :: rest') a1 w := by
                 intro eg r a1 hk1 hA1 hp hr
                 have hAe := disj_keep hA hdj hk1
                 simp only [wpList, wantedPick_sound hAe hwp, if_true]
                 left
                 unfold Oper.wp
                 rw [pick_run hA1 hp w]
                 simp only [Oper.upon]
                 have hk2 : Keep (dsts (pk :: rest')) a1 (a1.put pk.dst (.bool r)) := Keep.put hpk
                 have := ih rest' (as.drop m) K (eput pk.dst (.bool (cond c r1 r2)) e) (a1.put pk.dst (.bool r)) w
                   (by rw [hr]; exact hAe.put fun k hk => by rw [hk1.size]; exact hb k (hsub2 k (hpk k hk)))
                   (fun d hd => by rw [hk2.size, hk1.size]; exact hb d (hsub2 d (hrest d hd))) h
                 refine wpList_mono (fun x a' w' ⟨g1, g2, g3⟩ => ⟨g1, (hk1.mono hsub).trans ((hk2.mono hsub2).trans (g2.mono fun k hk => hsub2 k (hrest k hk))), g3⟩) _ _ _ this
               cases c with
               | true =>
                 have := PV_sound n _ _ _ e1 a w (hA.lit hgs) (fun d hd => hb d (hsub d hd)) h1
                 exact wpList_mono (fun x a' w' ⟨g1, g2, g3, g4⟩ => ⟨g1, by subst g4; exact fin e1 r1 a' g2 g3 hr1 rfl⟩) _ _ _ this
               | false =>
                 have := PV_sound n _ _ _ e2 a w (hA.lit hgs) (fun d hd => hb d (hsub d hd)) h2
                 exact wpList_mono (fun x a' w' ⟨g1, g2, g3, g4⟩ => ⟨g1, by subst g4; exact fin e2 r2 a' g2 g3 hr2 rfl⟩) _ _ _ this
             · exact h.elim
           · exact h.elim
         · exact h.elim
end
end Gx
namespace Gx
open Go
structure Chg (W : Nat → Prop) (w w' : World) : Prop where
 os : w'.os = w.os
 tape : w'.tape = w.tape
 output : w'.output = w.output
 size : w.heap.size ≤ w'.heap.size
 block : ∀ k, k < w.heap.size → ¬ W k → w'.heap[k]? = w.heap[k]?
theorem Chg.refl (W : Nat → Prop) (w : World) : Chg W w w := ⟨rfl, rfl, rfl, Nat.le_refl _, fun _ _ _ => rfl⟩
theorem Chg.trans {W : Nat → Prop} {a b c : World} (h : Chg W a b) (k : Chg W b c) : Chg W a c :=
 ⟨k.os.trans h.os, k.tape.trans h.tape, k.output.trans h.output, Nat.le_trans h.size k.size, fun i hi hw => (k.block i (Nat.lt_of_lt_of_le hi h.size) hw).trans (h.block i hi hw)⟩
theorem Chg.mono {W V : Nat → Prop} {a b : World} (h : Chg W a b) (hv : ∀ k, k < a.heap.size → W k → V k) : Chg V a b :=
 ⟨h.os, h.tape, h.output, h.size, fun i hi hw => h.block i hi fun hW => hw (hv i hi hW)⟩
theorem Chg.cell {W : Nat → Prop} {w w' : World} (h : Chg W w w') {A : Addr} (hW : ¬ W A.block) {v : Value} (hv : w.cell? A = some v) : w'.cell? A = some v := by
 have hb : A.block < w.heap.size := by
   rcases Nat.lt_or_ge A.block w.heap.size with h1 | h1
   · exact h1
   · simp [World.cell?, Array.getElem?_eq_none h1] at hv
 unfold World.cell? at hv ⊢
 rw [h.block _ hb hW]
 exact hv
theorem Chg.rdCells {W : Nat → Prop} {w w' : World} (h : Chg W w w') {A : Addr} (hW : ¬ W A.block) : ∀ (n i : Nat) (vs : List Value), rdCells w A i n = some vs → rdCells w' A i n = some vs
 | 0, _, _, hv => hv
 | n + 1, i, vs, hv => by
   simp only [Gx.rdCells] at hv ⊢
   have hbl : (A.add i).block = A.block := by unfold Addr.add; split <;> rfl
   cases h1 : w.cell? (A.add i) with
   | none => simp [h1] at hv
   | some v =>
     cases h2 : Gx.rdCells w A (i + 1) n with
     | none => simp [h1, h2] at hv
     | some us =>
       simp only [h1, h2] at hv
       rw [h.cell (by rw [hbl]; exact hW) h1, Chg.rdCells h hW n (i + 1) us h2]
       exact hv
def Free {α : Type} : Sem α → Prop
 | .pure _ => True
 | .program k => ∀ p, Free (k p)
 | .halt _ => True
 | _ => False
theorem Free.bind {α β : Type} : ∀ {s : Sem α} {f : α → Sem β}, Free s → (∀ a, Free (f a)) → Free (s >>= f)
 | .pure a, _, _, hf => hf a
 | .program _, _, h, hf => fun p => Free.bind (h p) hf
 | .halt _, _, _, _ => trivial
 | .load .., _, h, _ => h.elim
 | .store .., _, h, _ => h.elim
 | .new .., _, h, _ => h.elim
 | .shape .., _, h, _ => h.elim
 | .freeze .., _, h, _ => h.elim
 | .frozen .., _, h, _ => h.elim
 | .getObj .., _, h, _ => h.elim
 | .setObj .., _, h, _ => h.elim
 | .choose .., _, h, _ => h.elim
 | .sys .., _, h, _ => h.elim
 | .mark .., _, h, _ => h.elim
theorem Free.run {α : Type} {P : Program} : ∀ {s : Sem α} {w w' : World} {v : α}, Free s → s.run P w = .ok v w' → ∀ u, s.run P u = .ok v u
 | .pure a, w, w', v, _, h, u => by
   simp only [Sem.run, Result.ok.injEq] at h ⊢
   exact ⟨h.1, trivial⟩
 | .program k, w, w', v, hf, h, u => Free.run (hf P) h u
 | .halt _, w, w', v, _, h, _ => by simp [Sem.run] at h
 | .load .., _, _, _, h, _, _ => h.elim
 | .store .., _, _, _, h, _, _ => h.elim
 | .new .., _, _, _, h, _, _ => h.elim
 | .shape .., _, _, _, h, _, _ => h.elim
 | .freeze .., _, _, _, h, _, _ => h.elim
 | .frozen .., _, _, _, h, _, _ => h.elim
 | .getObj .., _, _, _, h, _, _ => h.elim
 | .setObj .., _, _, _, h, _, _ => h.elim
 | .choose .., _, _, _, h, _, _ => h.elim
 | .sys .., _, _, _, h, _, _ => h.elim
 | .mark .., _, _, _, h, _, _ => h.elim
theorem free_program : Free program := fun _ => trivial
theorem free_underlying (t : TypeId) : Free (underlying t) := by
 unfold underlying
 refine Free.bind free_program fun p => ?_
 split <;> trivial
theorem free_typeInfo (t : TypeId) : Free (typeInfo t) := by
 unfold typeInfo
 refine Free.bind free_program fun p => ?_
 split <;> trivial
theorem free_sizeOf (t : TypeId) : Free (Go.sizeOf t) := Free.bind (free_typeInfo t) fun _ => trivial
theorem free_isAgg (t : TypeId) : Free (isAgg t) := by
 unfold isAgg
 refine Free.bind (free_underlying t) fun d => ?_
 split <;> trivial
theorem free_part (t : TypeId) (cs : Array Value) (off : Nat) : Free (part t cs off) := by
 unfold part
 refine Free.bind (free_isAgg t) fun d => ?_
 split
 · exact Free.bind (free_sizeOf t) fun _ => trivial
 · split <;> trivial
theorem free_field (t : TypeId) (x : Value) (i : Nat) : Free (Instr.field t x i) := by
 unfold Instr.field
 refine Free.bind (free_underlying t) fun d => ?_
 split
 · split
   · refine Free.bind ?_ fun _ => free_part _ _ _
     unfold asAgg; split <;> trivial
   · trivial
 · trivial
def isFree : Op → Bool
 | .move _ => true
 | .assign _ => true
 | .pick _ _ _ => true
 | .field _ _ _ => true
 | _ => false
def freeGen (P : Program) (o : Oper) (K : Value → Prop) (e : Env) (w : World) : Prop :=
 bif isFree o.op && known e o.op.operands then
   match (execOp (ro e) o).run P w with
   | .ok (.value v) _ => K v
   | _ => False
 else False
def uniGen (P : Program) (o : Oper) (K : Value → Prop) (e : Env) : Prop :=
 match pv P o e with
 | some v => K v
 | none => False
def dfieldAddr (P : Program) (T : TypeId) (x : Value) (i : Nat) (K : Value → Prop) : Prop :=
 match P.underlying T with
 | some (.struct fs) => match fs[i]? with
   | some f => match x with
     | .pointer (some A) => match P.underlying f.type with
       | some _ => bif Nat.beq (P.cellsOf f.type) 0 then False else K (.pointer (some (A.add f.offset)))
       | none => False
     | _ => False
   | none => False
 | _ => False
def dextract (x : Value) (i : Nat) (K : Value → Prop) : Prop :=
 match x with
 | .tuple vs => match vs[i]? with
   | some v => K v
   | none => False
 | _ => False
def isSens (o : Oper) : Bool :=
 match o.op with
 | .load _ _ => true
 | .convert _ _ _ => true
 | _ => false
def sensM : Nat → List Oper → Nat
 | _, [] => 0
 | i, o :: l => bif isSens o then 2 ^ i ||| sensM (i + 1) l else sensM (i + 1) l
def DStill (P : Program) (tk : TypeId → RK) (W : Nat → Prop) (w : World) (o : Oper) (K : Value → Prop) (e : Env) : Prop :=
 match o.op with
 | .nilCheck x => match ev e x with
   | some (.pointer p) => ∃ A, p = some A ∧ K (.pointer (some A))
   | _ => False
 | .load T x => match ev e x with
   | some (.pointer (some A)) => ¬ W A.block ∧ dload P tk T A w K
   | _ => False
 | .binOp op T x y _ => match ev e x, ev e y with
   | some vx, some vy => bif notNilI y vy then dbin P op T vx vy K (uniGen P o K e) else False
   | _, _ => False
 | .indexAddr T x i => match ev e x, ev e i with
   | some vx, some vi => dindexAddr P T vx vi K
   | _, _ => False
 | .index T x i => match ev e x, ev e i with
   | some vx, some vi => dindex P tk T vx vi K
   | _, _ => False
 | .field T x i => match ev e x with
   | some vx => dfield P tk T vx i K
   | _ => False
 | .fieldAddr T x i => match ev e x with
   | some vx => dfieldAddr P T vx i K
   | _ => False
 | .extract x i => match ev e x with
   | some vx => dextract vx i K
   | _ => False
 | .slice T x lo hi mx => bif known e o.op.operands then
     dslice P T (ro e x) (lo.map (ro e)) (hi.map (ro e)) (mx.map (ro e)) K
   else False
 | .convert s d x => match ev e x with
   | some (.int _ _) => uniGen P o K e
   | some v => exRK (tk o.type) fun r => (∀ w', Chg W w w' → (convert s d v).run P w' = .ok r w') ∧ K r
   | none => False
 | .build t ps => bif known e o.op.operands then
     ∃ cs : Array Value, (∀ w', (Instr.build t (ps.map fun p => (p.1, ro e p.2))).run P w' = .ok (.agg cs) w') ∧ K (.agg cs)
   else False
 | .unOp _ _ _ => uniGen P o K e
 | .call _ => uniGen P o K e
 | .move _ => freeGen P o K e w
 | .assign _ => freeGen P o K e w
 | .pick _ _ _ => freeGen P o K e w
 | .sliceToArrayPointer T x => match ev e x with
   | some vx => darr P T vx K
   | _ => False
 | _ => False
section
variable {P : Program} {tk : TypeId → RK} {W : Nat → Prop} {o : Oper} {K : Value → Prop} {e : Env} {a : Act} {w : World}
theorem freeGen_sound (hA : Agrees e a) (h : freeGen P o K e w) : ∃ v, (∀ w', (execOp a.eval o).run P w' = .ok (.value v) w') ∧ K v := by
 unfold freeGen at h
 cases hf : isFree o.op with
 | false => rw [hf] at h; exact h.elim
 | true =>
   cases hk : known e o.op.operands with
   | false => rw [hf, hk] at h; exact h.elim
   | true =>
     rw [hf, hk] at h
     simp only [Bool.and_self, cond_true] at h
     have hc := known_congr hA (by cases hop : o.op <;> rw [hop] at hf <;> first | rfl | cases hf) hk
     rw [hc]
     split at h
     · rename_i v w' hr
       refine ⟨v, fun u => Free.run ?_ hr u, h⟩
       cases hop : o.op <;> rw [hop] at hf <;> first | (cases hf; done) | skip
       · simp only [execOp, hop]; trivial
       · simp only [execOp, hop]; trivial
       · simp only [execOp, hop]
         refine Free.bind ?_ fun _ => trivial
         unfold asBool; split <;> trivial
       · simp only [execOp, hop]
         exact Free.bind (free_field _ _ _) fun _ => trivial
     · exact h.elim
theorem uniGen_sound (hA : Agrees e a) (h : uniGen P o K e) : ∃ v, (∀ w', (execOp a.eval o).run P w' = .ok (.value v) w') ∧ K v := by
 unfold uniGen at h
 split at h
 · rename_i v hv
   exact ⟨v, pv_sound hA hv, h⟩
 · exact h.elim
theorem DStill_sound (hA : Agrees e a) (h : DStill P tk W w o K e) : ∃ v, (∀ w', (isSens o = true → Chg W w w') → (execOp a.eval o).run P w' = .ok (.value v) w') ∧ K v := by
 have weak : (∃ v, (∀ w', (execOp a.eval o).run P w' = .ok (.value v) w') ∧ K v) → ∃ v, (∀ w', (isSens o = true → Chg W w w') → (execOp a.eval o).run P w' = .ok (.value v) w') ∧ K v :=
   fun ⟨v, h1, h2⟩ => ⟨v, fun w' _ => h1 w', h2⟩
 unfold DStill at h
 split at h
 case h_1 x hop =>
   split at h
   · rename_i p hx
     obtain ⟨A, rfl, hK⟩ := h
     exact ⟨_, fun w' _ => by simp [execOp, hop, hA.ev hx], hK⟩
   · exact h.elim
 case h_2 T x hop =>
   split at h
   · rename_i A hx
     obtain ⟨hW, h⟩ := h
     have key : ∃ v, (∀ w', Chg W w w' → (Instr.loadAt T (.pointer (some A))).run P w' = .ok v w') ∧ K v := by
       have e1 : ∀ w', (Instr.loadAt T (.pointer (some A))).run P w' = (loadVar T A).run P w' := fun w' => by simp [Instr.loadAt, Instr.sureAddr]
       unfold dload at h
       split at h
       · exact h.elim
       · rename_i d hT
         cases hd : aggT d with
         | true =>
           rw [hd] at h
           simp only [cond_true] at h
           split at h
           · rename_i ls _
             by_cases hb : Nat.beq (P.cellsOf T) ls.length = true
             · rw [hb] at h
               simp only [cond_true] at h
               obtain ⟨vs, hvs, h⟩ := dflat_sound h
               rw [← Nat.eq_of_beq_eq_true hb] at hvs
               exact ⟨_, fun w' hc => by rw [e1, run_loadVar_agg hT hd (hc.rdCells hW _ _ _ hvs)], h⟩
             · simp only [Bool.not_eq_true] at hb; rw [hb] at h; exact h.elim
           · obtain ⟨cs, hcs, h⟩ := h
             exact ⟨_, fun w' hc => by rw [e1, run_loadVar_agg hT hd (hc.rdCells hW _ _ _ hcs)], h⟩
         | false =>
           rw [hd] at h
           simp only [cond_false] at h
           split at h
           · obtain ⟨v, hv, h⟩ := exLf_out h
             exact ⟨v, fun w' hc => by rw [e1, run_loadVar_one hT hd (hc.cell hW hv)], h⟩
           · exact h.elim
     obtain ⟨v, hv, hK⟩ := key
     exact ⟨v, fun w' hc => by simp [execOp, hop, hA.ev hx, hv w' (hc (by unfold isSens; rw [hop]))], hK⟩
   · exact h.elim
 case h_3 op T x y yt hop =>
   split at h
   · rename_i vx vy hx hy
     by_cases hn : notNilI y vy = true
     · rw [hn] at h
       simp only [cond_true] at h
       have hnil : vy = .nilIface → ∃ c, y = .const c := by
         intro hv
         subst hv
         cases y <;> simp [notNilI] at hn ⊢
       rcases dbin_sound (xo := x) (yo := y) hnil h with hg | ⟨v, hv, hK⟩
       · exact weak (uniGen_sound hA hg)
       · exact ⟨v, fun w' _ => by
           simp only [execOp, hop, hA.ev hx, hA.ev hy]
           have hv' := hv w'
           simp only [Sem.run_bind] at hv' ⊢
           rw [hv']; rfl, hK⟩
     · simp only [Bool.not_eq_true] at hn; rw [hn] at h; exact h.elim
   · exact h.elim
 case h_4 T x i hop =>
   split at h
   · rename_i vx vi hx hi
     obtain ⟨v, hv, hK⟩ := dindexAddr_sound h
     exact ⟨v, fun w' _ => by simp [execOp, hop, hA.ev hx, hA.ev hi, hv], hK⟩
   · exact h.elim
 case h_5 T x i hop =>
   split at h
   · rename_i vx vi hx hi
     obtain ⟨v, hv, hK⟩ := dindex_sound h
     exact ⟨v, fun w' _ => by simp [execOp, hop, hA.ev hx, hA.ev hi, hv], hK⟩
   · exact h.elim
 case h_6 T x i hop =>
   split at h
   · rename_i vx hx
     obtain ⟨v, hv, hK⟩ := dfield_sound h
     exact ⟨v, fun w' _ => by simp [execOp, hop, hA.ev hx, hv], hK⟩
   · exact h.elim
 case h_7 T x i hop =>
   split at h
   · rename_i vx hx
     unfold dfieldAddr at h
     split at h
     · rename_i fs hT
       split at h
       · rename_i f hf
         split at h
         · rename_i A
           split at h
           · rename_i d hd
             cases hz : Nat.beq (P.cellsOf f.type) 0 with
             | true => rw [hz] at h; exact h.elim
             | false =>
               rw [hz] at h
               have hz' : ¬ P.cellsOf f.type = 0 := fun h0 => by rw [h0] at hz; cases hz
               exact ⟨_, fun w' _ => by simp [execOp, hop, hA.ev hx, Instr.fieldAt, run_underlying' hT, hf, Instr.sureAddr, fieldPlace, run_sizeOf' hd, hz'], h⟩
           · exact h.elim
         · exact h.elim
       · exact h.elim
     · exact h.elim
   · exact h.elim
 case h_8 x i hop =>
   split at h
   · rename_i vx hx
     unfold dextract at h
     split at h
     · rename_i vs
       split at h
       · rename_i v hv
         exact ⟨v, fun w' _ => by simp [execOp, hop, hA.ev hx, Instr.extract, hv], h⟩
       · exact h.elim
     · exact h.elim
   · exact h.elim
 case h_9 T x lo hi mx hop =>
   by_cases hk : known e o.op.operands = true
   · rw [hk] at h
     simp only [cond_true] at h
     have hc := known_congr hA (by rw [hop]; rfl) hk
     obtain ⟨v, hv, hK⟩ := dslice_sound h
     exact ⟨v, fun w' _ => by rw [hc]; simp [execOp, hop, hv], hK⟩
   · simp only [Bool.not_eq_true] at hk; rw [hk] at h; exact h.elim
 case h_10 s d x hop =>
   split at h
   · exact weak (uniGen_sound hA h)
   · rename_i v _ hx
     obtain ⟨r, hr, hK⟩ := exRK_out h
     exact ⟨r, fun w' hc => by simp [execOp, hop, hA.ev hx, hr w' (hc (by unfold isSens; rw [hop]))], hK⟩
   · exact h.elim
 case h_11 t ps hop =>
   by_cases hk : known e o.op.operands = true
   · rw [hk] at h
     simp only [cond_true] at h
     have hc := known_congr hA (by rw [hop]; rfl) hk
     obtain ⟨cs, hr, hK⟩ := h
     exact ⟨_, fun w' _ => by rw [hc]; simp [execOp, hop]; rw [hr]; rfl, hK⟩
   · simp only [Bool.not_eq_true] at hk; rw [hk] at h; exact h.elim
 case h_12 => exact weak (uniGen_sound hA h)
 case h_13 => exact weak (uniGen_sound hA h)
 case h_14 => exact weak (freeGen_sound hA h)
 case h_15 => exact weak (freeGen_sound hA h)
 case h_16 => exact weak (freeGen_sound hA h)
 case h_17 T x hop =>
   split at h
   · rename_i vx hx
     obtain ⟨v, hv, hK⟩ := darr_sound h
     exact ⟨v, fun w' _ => by simp [execOp, hop, hA.ev hx, hv], hK⟩
   · exact h.elim
 case h_18 => exact h.elim
end
inductive Tr where
 | take (i : Nat) (t : Tr)
 | eff (i : Nat) (t : Tr)
 | out (i : Nat) (b : Bool) (t : Tr)
 | two (i : Nat) (t : Tr) (j : Nat) (u : Tr)
 | three (i : Nat) (t : Tr) (j : Nat) (u : Tr) (k : Nat) (v : Tr)
 | sp (s : Nat) (t u : Tr)
 | fin
 | tail (as : List An)
def maskL : List Nat → Nat
 | [] => 0
 | d :: l => 2 ^ d ||| maskL l
theorem testBit_maskL : ∀ (l : List Nat) (k : Nat), (maskL l).testBit k = decide (k ∈ l)
 | [], k => by simp [maskL]
 | d :: l, k => by
   simp only [maskL, Nat.testBit_or, testBit_maskL l k, Nat.testBit_two_pow]
   by_cases h : d = k
   · subst h; simp
   · have : ¬ k = d := fun h' => h h'.symm
     simp [h, this]
def afterL (o : Oper) : List Nat := (o.after.toList.filter fun e => Region.binds .any e).map (·.on)
structure OrdM where
 M : List Nat
 A : List Nat
def mAt (l : List Nat) (i : Nat) : Nat := l.getD i 0
def rdyB (od : OrdM) (m i : Nat) : Bool := !(m.testBit i) && Nat.beq (mAt od.M i &&& m) (mAt od.M i)
def freeB (od : OrdM) (N m i : Nat) : Bool := Nat.beq (mAt od.A i &&& ((2 ^ N - 1) ^^^ m)) 0
def onlyB (od : OrdM) (m : Nat) (is : List Nat) : Nat → Bool
 | 0 => true
 | k + 1 => (is.any (Nat.beq k) || !(rdyB od m k)) && onlyB od m is k
def chkM (od : OrdM) : Nat → List Oper → Bool
 | _, [] => true
 | i, o :: l => Nat.beq (maskL (afterL o)) (mAt od.M i) && chkM od (i + 1) l
def chkRow (M : List Nat) (Ai i Di Ki : Nat) : Nat → List Nat → List Nat → List Nat → Bool
 | j, mj :: Ms, dj :: Ds, kj :: Ks => (Ai.testBit j || (Nat.beq i j || (mj.testBit i || (Nat.beq (Di &&& (kj ||| dj)) 0 && Nat.beq (dj &&& Ki) 0)))) && chkRow M Ai i Di Ki (j + 1) Ms Ds Ks
 | _, _, _, _ => true
def chkA (od : OrdM) (D K : List Nat) : Nat → List Nat → List Nat → Bool
 | i, d :: Ds, k :: Ks => chkRow od.M (mAt od.A i) i d k 0 od.M D K && chkA od D K (i + 1) Ds Ks
 | _, _, _ => true
def dMask (ops : List Oper) : List Nat := ops.map fun o => maskL o.dst.toList
def kMask (opsA : Array Oper) (ops : List Oper) : List Nat := ops.map fun o => maskL (o.looksAt opsA)
def natListEq : List Nat → List Nat → Bool
 | [], [] => true
 | a :: l, b :: r => Nat.beq a b && natListEq l r
 | _, _ => false
theorem natListEq_eq : ∀ {l r : List Nat}, natListEq l r = true → l = r
 | [], [], _ => rfl
 | a :: l, b :: r, h => by
   simp only [natListEq, Bool.and_eq_true] at h
   rw [Nat.eq_of_beq_eq_true h.1, natListEq_eq h.2]
def chkOrd (od : OrdM) (D K : List Nat) (opsA : Array Oper) : Bool :=
 Nat.beq od.M.length opsA.size && (chkM od 0 opsA.toList && (natListEq (dMask opsA.toList) D && (natListEq (kMask opsA opsA.toList) K && chkA od D K 0 D K)))
def seqC (od : OrdM) : Nat → Nat → Nat → Nat → Bool
 | 0, _, N, m => onlyB od m [] N
 | g + 1, k, N, m => (rdyB od m k && onlyB od m [k] N) && seqC od g (k + 1) N (m ||| 2 ^ k)
def DR (P : Program) (tk : TypeId → RK) (ops : Array Oper) (n : Nat) (od : OrdM) (W : Nat → Prop) : Tr → Nat → Nat → (Env → World → Prop) → Env → World → Prop
 | .take i t, f + 1, m, K, e, w =>
   bif rdyB od m i && (freeB od ops.size m i && Nat.blt i n) then
     match ops[i]? with
     | some o => guardK ops o e (DStill P tk W w o (fun v => DR P tk ops n od W t f (m ||| 2 ^ i) K (eput o.dst v e) w) e) (DR P tk ops n od W t f (m ||| 2 ^ i) K (eput o.dst undef e) w)
     | none => False
   else False
 | .eff i t, f + 1, m, K, e, w =>
   bif (rdyB od m i && onlyB od m [i] ops.size) && Nat.blt i n then
     match ops[i]? with
     | some o => guardK ops o e (DOp P tk o (fun v w' => Chg W w w' ∧ DR P tk ops n od W t f (m ||| 2 ^ i) K (eput o.dst v e) w') e w) (DR P tk ops n od W t f (m ||| 2 ^ i) K (eput o.dst undef e) w)
     | none => False
   else False
 | .out i b t, f + 1, m, K, e, w =>
   bif (rdyB od m i && onlyB od m [i] ops.size) && (Nat.blt i n && Nat.beq ((sensM 0 ops.toList &&& m) &&& mAt od.M i) (sensM 0 ops.toList &&& m)) then
     match ops[i]? with
     | some o => guardK ops o e (DOp P tk o (fun v w' => bif b then ∃ V : Nat → Prop, DR P tk ops n od V t f (m ||| 2 ^ i) K (eput o.dst v e) w' else DR P tk ops n od W t f (m ||| 2 ^ i) K (eput o.dst v e) w') e w) (DR P tk ops n od W t f (m ||| 2 ^ i) K (eput o.dst undef e) w)
     | none => False
   else False
 | .two i t j u, f + 1, m, K, e, w =>
   bif (rdyB od m i && onlyB od m [i, j] ops.size) && (Nat.blt i n && Nat.blt j n) then
     match ops[i]?, ops[j]? with
     | some o, some q =>
       guardK ops o e (DOp P tk o (fun v w' => Chg W w w' ∧ DR P tk ops n od W t f (m ||| 2 ^ i) K (eput o.dst v e) w') e w) (DR P tk ops n od W t f (m ||| 2 ^ i) K (eput o.dst undef e) w) ∧
       guardK ops q e (DOp P tk q (fun v w' => Chg W w w' ∧ DR P tk ops n od W u f (m ||| 2 ^ j) K (eput q.dst v e) w') e w) (DR P tk ops n od W u f (m ||| 2 ^ j) K (eput q.dst undef e) w)
     | _, _ => False
   else False
 | .three i t j u k x, f + 1, m, K, e, w =>
   bif (rdyB od m i && onlyB od m [i, j, k] ops.size) && (Nat.blt i n && (Nat.blt j n && Nat.blt k n)) then
     match ops[i]?, ops[j]?, ops[k]? with
     | some o, some q, some r =>
       guardK ops o e (DOp P tk o (fun v w' => Chg W w w' ∧ DR P tk ops n od W t f (m ||| 2 ^ i) K (eput o.dst v e) w') e w) (DR P tk ops n od W t f (m ||| 2 ^ i) K (eput o.dst undef e) w) ∧
       guardK ops q e (DOp P tk q (fun v w' => Chg W w w' ∧ DR P tk ops n od W u f (m ||| 2 ^ j) K (eput q.dst v e) w') e w) (DR P tk ops n od W u f (m ||| 2 ^ j) K (eput q.dst undef e) w) ∧
       guardK ops r e (DOp P tk r (fun v w' => Chg W w w' ∧ DR P tk ops n od W x f (m ||| 2 ^ k) K (eput r.dst v e) w') e w) (DR P tk ops n od W x f (m ||| 2 ^ k) K (eput r.dst undef e) w)
     | _, _, _ => False
   else False
 | .sp s t u, f, m, K, e, w =>
   match e.get s with
   | some (.bool c) => (c = true → DR P tk ops n od W t f m K ((s, .bool true) :: e) w) ∧ (c = false → DR P tk ops n od W u f m K ((s, .bool false) :: e) w)
   | _ => False
 | .fin, 0, m, K, e, w => bif onlyB od m [] ops.size && Nat.beq n ops.size then K e w else False
 | .tail as, 0, m, K, e, w => bif seqC od (ops.size - n) n ops.size m && Nat.blt n ops.size then DOps P tk ops (ops.size - n + 1) (ops.toList.drop n) as K e w else False
 | _, _, _, _, _, _ => False
def listA (N m : Nat) : Array Bool := (Array.range N).map fun i => m.testBit i
theorem listA_getD {N m i : Nat} {d : Bool} (h : i < N) : (listA N m).getD i d = m.testBit i := by
 simp [listA, h]
theorem listA_getD_ge {N m i : Nat} {d : Bool} (h : N ≤ i) : (listA N m).getD i d = d := by
 simp [listA, h]
theorem listA_set (N m i : Nat) : (listA N m).setIfInBounds i true = listA N (m ||| 2 ^ i) := by
 apply Array.ext
 · simp [listA]
 · intro j h1 h2
   have hj : j < N := by simpa [listA] using h2
   have h3 : j < (listA N m).size := by simpa [listA] using hj
   rw [Array.getElem_setIfInBounds h3]
   simp only [listA, Array.getElem_map, Array.getElem_range, Nat.testBit_or, Nat.testBit_two_pow]
   by_cases hij : i = j
   · subst hij; simp
   · simp [hij]
theorem listA_zero (N : Nat) : listA N 0 = Array.replicate N false := by
 apply Array.ext
 · simp [listA]
 · intro j h1 h2
   simp [listA]
section
variable {ops : Array Oper} {od : OrdM} {D K : List Nat}
theorem chkM_at : ∀ (l : List Oper) (i k : Nat) (o : Oper), chkM od i l = true → l[k]? = some o → mAt od.M (i + k) = maskL (afterL o)
 | [], _, _, _, _, h => by simp at h
 | p :: l, i, 0, o, hc, h => by
   simp only [chkM, Bool.and_eq_true] at hc
   simp only [List.getElem?_cons_zero, Option.some.injEq] at h
   subst h
   exact (Nat.eq_of_beq_eq_true hc.1).symm
 | p :: l, i, k + 1, o, hc, h => by
   simp only [chkM, Bool.and_eq_true] at hc
   have := chkM_at l (i + 1) k o hc.2 (by simpa using h)
   rw [show i + (k + 1) = i + 1 + k by omega]
   exact this
theorem chk_M (h : chkOrd od D K ops = true) {i : Nat} {o : Oper} (ho : ops[i]? = some o) : mAt od.M i = maskL (afterL o) := by
 simp only [chkOrd, Bool.and_eq_true] at h
 have := chkM_at ops.toList 0 i o h.2.1 (by simpa using ho)
 simpa using this
theorem land_eq_self {a b : Nat} (h : a &&& b = a) {k : Nat} (hk : a.testBit k = true) : b.testBit k = true := by
 have := congrArg (fun x => x.testBit k) h
 simp only [Nat.testBit_and, hk, Bool.true_and] at this
 exact this
theorem sensM_at : ∀ (l : List Oper) (i k : Nat) (o : Oper), l[k]? = some o → (sensM i l).testBit (i + k) = isSens o
 | [], _, _, _, h => by simp at h
 | p :: l, i, 0, o, h => by
   simp only [List.getElem?_cons_zero, Option.some.injEq] at h
   subst h
   have low : ∀ (l : List Oper) (i k : Nat), k < i → (sensM i l).testBit k = false := by
     intro l
     induction l with
     | nil => intro i k _; simp [sensM]
     | cons q l ih =>
       intro i k hk
       simp only [sensM]
       cases isSens q
       · exact ih (i + 1) k (by omega)
       · simp only [cond_true, Nat.testBit_or, Nat.testBit_two_pow, ih (i + 1) k (by omega), Bool.or_false, decide_eq_false_iff_not]
         omega
   simp only [sensM, Nat.add_zero]
   cases isSens p
   · exact low l (i + 1) i (by omega)
   · simp [Nat.testBit_or]
 | p :: l, i, k + 1, o, h => by
   have := sensM_at l (i + 1) k o (by simpa using h)
   rw [show i + 1 + k = i + (k + 1) by omega] at this
   simp only [sensM]
   cases isSens p
   · exact this
   · simp only [cond_true, Nat.testBit_or, Nat.testBit_two_pow, this]
     simp
theorem mem_afterL {o : Oper} {k : Nat} : k ∈ afterL o ↔ ∃ e ∈ o.after, Region.binds .any e = true ∧ e.on = k := by
 simp only [afterL, List.mem_map, List.mem_filter, Array.mem_toList_iff]
 constructor
 · rintro ⟨e, ⟨h1, h2⟩, h3⟩; exact ⟨e, h1, h2, h3⟩
 · rintro ⟨e, h1, h2, h3⟩; exact ⟨e, ⟨h1, h2⟩, h3⟩
def Small (N m : Nat) : Prop := ∀ k, N ≤ k → m.testBit k = false
theorem small_zero (N : Nat) : Small N 0 := fun k _ => by simp
theorem small_or {N m i : Nat} (h : Small N m) (hi : i < N) : Small N (m ||| 2 ^ i) := fun k hk => by
 simp only [Nat.testBit_or, h k hk, Nat.testBit_two_pow, Bool.false_or, decide_eq_false_iff_not]
 omega
theorem rdy_iff (hc : chkOrd od D K ops = true) {m i : Nat} (hm : Small ops.size m) : i ∈ Region.ready .any ops (listA ops.size m) ↔ i < ops.size ∧ rdyB od m i = true := by
 rw [mem_ready]
 constructor
 · rintro ⟨h1, o, ho, hall⟩
   have hi : i < ops.size := (Array.getElem?_eq_some_iff.1 ho).1
   refine ⟨hi, ?_⟩
   rw [listA_getD hi] at h1
   simp only [rdyB, h1, Bool.not_false, Bool.true_and]
   rw [chk_M hc ho]
   have : maskL (afterL o) &&& m = maskL (afterL o) := by
     apply Nat.eq_of_testBit_eq
     intro k
     simp only [Nat.testBit_and, testBit_maskL]
     by_cases hk : k ∈ afterL o
     · obtain ⟨e, he, hb, hon⟩ := mem_afterL.1 hk
       have h2 := hall e he hb
       rw [hon] at h2
       rcases Nat.lt_or_ge k ops.size with hlt | hge
       · rw [listA_getD hlt] at h2; simp [hk, h2]
       · rw [listA_getD_ge hge] at h2; cases h2
     · simp [hk]
   rw [this]; exact Nat.beq_refl _
 · rintro ⟨hi, h⟩
   simp only [rdyB, Bool.and_eq_true, Bool.not_eq_true'] at h
   have ho : ops[i]? = some ops[i] := by simp [hi]
   refine ⟨by rw [listA_getD hi]; exact h.1, ops[i], ho, fun e he hb => ?_⟩
   have h2 := Nat.eq_of_beq_eq_true h.2
   rw [chk_M hc ho] at h2
   have h3 : m.testBit e.on = true := land_eq_self h2 (by
     rw [testBit_maskL]; simp only [decide_eq_true_eq]; exact mem_afterL.2 ⟨e, he, hb, rfl⟩)
   have hlt : e.on < ops.size := by
     rcases Nat.lt_or_ge e.on ops.size with h | h
     · exact h
     · rw [hm _ h] at h3; cases h3
   rw [listA_getD hlt]; exact h3
theorem onlyB_spec : ∀ (N : Nat) {m : Nat} {is : List Nat}, onlyB od m is N = true → ∀ k, k < N → rdyB od m k = true → k ∈ is
 | 0, _, _, _, k, hk, _ => by omega
 | N + 1, m, is, h, k, hk, hr => by
   simp only [onlyB, Bool.and_eq_true, Bool.or_eq_true, Bool.not_eq_true'] at h
   rcases Nat.lt_or_ge k N with h1 | h1
   · exact onlyB_spec N h.2 k h1 hr
   · have : k = N := by omega
     subst this
     rcases h.1 with h2 | h2
     · obtain ⟨x, hx, hb⟩ := List.any_eq_true.1 h2
       rw [Nat.eq_of_beq_eq_true hb]; exact hx
     · rw [hr] at h2; cases h2
theorem ready_mem (hc : chkOrd od D K ops = true) {m : Nat} {is : List Nat} (hm : Small ops.size m) (h : onlyB od m is ops.size = true) :
   ∀ k ∈ Region.ready .any ops (listA ops.size m), k ∈ is := fun k hk =>
 let ⟨h1, h2⟩ := (rdy_iff hc hm).1 hk
 onlyB_spec _ h k h1 h2
theorem chkRow_at : ∀ (Ms Ds Ks : List Nat) (M0 : List Nat) (Ai i Di Ki j k : Nat) (mj dj kj : Nat), chkRow M0 Ai i Di Ki j Ms Ds Ks = true → Ms[k]? = some mj → Ds[k]? = some dj → Ks[k]? = some kj →
   Ai.testBit (j + k) = true ∨ i = j + k ∨ mj.testBit i = true ∨ (Di &&& (kj ||| dj) = 0 ∧ dj &&& Ki = 0)
 | [], _, _, _, _, _, _, _, _, _, _, _, _, _, h, _, _ => by simp at h
 | _ :: _, [], _, _, _, _, _, _, _, _, _, _, _, _, _, h, _ => by simp at h
 | _ :: _, _ :: _, [], _, _, _, _, _, _, _, _, _, _, _, _, _, h => by simp at h
 | mj0 :: Ms, dj0 :: Ds, kj0 :: Ks, M0, Ai, i, Di, Ki, j, k, mj, dj, kj, hc, h1, h2, h3 => by
   simp only [chkRow, Bool.and_eq_true, Bool.or_eq_true] at hc
   cases k with
   | zero =>
     simp only [List.getElem?_cons_zero, Option.some.injEq] at h1 h2 h3
     subst h1 h2 h3
     rcases hc.1 with h | h | h | h
     · exact .inl h
     · exact .inr (.inl (Nat.eq_of_beq_eq_true h))
     · exact .inr (.inr (.inl h))
     · exact .inr (.inr (.inr ⟨Nat.eq_of_beq_eq_true h.1, Nat.eq_of_beq_eq_true h.2⟩))
   | succ k =>
     have := chkRow_at Ms Ds Ks M0 Ai i Di Ki (j + 1) k mj dj kj hc.2 (by simpa using h1) (by simpa using h2) (by simpa using h3)
     rw [show j + (k + 1) = j + 1 + k by omega]
     exact this
theorem chkA_at : ∀ (Ds Ks : List Nat) (i k : Nat) (di ki : Nat), chkA od D K i Ds Ks = true → Ds[k]? = some di → Ks[k]? = some ki →
   chkRow od.M (mAt od.A (i + k)) (i + k) di ki 0 od.M D K = true
 | [], _, _, _, _, _, _, h, _ => by simp at h
 | _ :: _, [], _, _, _, _, _, _, h => by simp at h
 | d :: Ds, k0 :: Ks, i, k, di, ki, hc, h1, h2 => by
   simp only [chkA, Bool.and_eq_true] at hc
   cases k with
   | zero =>
     simp only [List.getElem?_cons_zero, Option.some.injEq] at h1 h2
     subst h1 h2
     exact hc.1
   | succ k =>
     have := chkA_at Ds Ks (i + 1) k di ki hc.2 (by simpa using h1) (by simpa using h2)
     rw [show i + (k + 1) = i + 1 + k by omega]
     exact this
theorem land_zero {a b : Nat} (h : a &&& b = 0) {k : Nat} (ha : a.testBit k = true) : b.testBit k = false := by
 have := congrArg (fun x => x.testBit k) h
 simp only [Nat.testBit_and, ha, Bool.true_and, Nat.zero_testBit] at this
 exact this
theorem apart_of {x y : Oper} (h1 : maskL x.dst.toList &&& (maskL (y.looksAt ops) ||| maskL y.dst.toList) = 0) (h2 : maskL y.dst.toList &&& maskL (x.looksAt ops) = 0) :
   x.apart ops y = true := by
 unfold Oper.apart
 simp only [Bool.and_eq_true]
 refine ⟨?_, ?_⟩
 · cases hx : x.dst with
   | none => rfl
   | some d =>
     rw [hx] at h1
     have h3 := land_zero h1 (k := d) (by rw [testBit_maskL]; simp)
     simp only [Nat.testBit_or, testBit_maskL, Bool.or_eq_false_iff, decide_eq_false_iff_not] at h3
     simp only [Bool.and_eq_true, Bool.not_eq_true', bne_iff_ne, ne_eq]
     refine ⟨by simpa using h3.1, fun h => ?_⟩
     rw [h] at h3
     simp at h3
 · cases hy : y.dst with
   | none => rfl
   | some d =>
     rw [hy] at h2
     have h3 := land_zero h2 (k := d) (by rw [testBit_maskL]; simp)
     simp only [testBit_maskL, decide_eq_false_iff_not] at h3
     simpa using h3
theorem free_of (hc : chkOrd od D K ops = true) {m i : Nat} {oi : Oper} (hi : ops[i]? = some oi) (h : freeB od ops.size m i = true) :
   ∀ j oj, ops[j]? = some oj → j ≠ i → (listA ops.size m).getD j true = false → (∀ e ∈ oj.after, Region.binds .any e = true → e.on ≠ i) → oi.apart ops oj = true := by
 intro j oj hj hji hun hno
 have hc' := hc
 simp only [chkOrd, Bool.and_eq_true] at hc
 obtain ⟨hlen, hM, hD, hK, hA⟩ := hc
 have hlen' := Nat.eq_of_beq_eq_true hlen
 have hD' := natListEq_eq hD
 have hK' := natListEq_eq hK
 have hji' : j < ops.size := (Array.getElem?_eq_some_iff.1 hj).1
 have gD : ∀ {k : Nat} {o : Oper}, ops[k]? = some o → D[k]? = some (maskL o.dst.toList) := fun {k o} ho => by
   rw [← hD']; simp [dMask, ho]
 have gK : ∀ {k : Nat} {o : Oper}, ops[k]? = some o → K[k]? = some (maskL (o.looksAt ops)) := fun {k o} ho => by
   rw [← hK']; simp [kMask, ho]
 have hrow := chkA_at D K 0 i _ _ hA (gD hi) (gK hi)
 have hMj : od.M[j]? = some (mAt od.M j) := by
   unfold mAt
   have : j < od.M.length := by omega
   simp [List.getD, this]
 have := chkRow_at od.M D K od.M _ _ _ _ 0 j _ _ _ hrow hMj (gD hj) (gK hj)
 simp only [Nat.zero_add] at this
 rcases this with h1 | h1 | h1 | h1
 · exfalso
   have h2 := Nat.eq_of_beq_eq_true h
   have h3 := land_zero h2 h1
   rw [listA_getD hji'] at hun
   simp [Nat.testBit_xor, Nat.testBit_two_pow_sub_one, hji', hun] at h3
 · exact absurd h1.symm hji
 · exfalso
   rw [chk_M hc' hj, testBit_maskL] at h1
   simp only [decide_eq_true_eq] at h1
   obtain ⟨e, he, hb, hon⟩ := mem_afterL.1 h1
   exact hno e he hb hon
 · exact apart_of h1.1 h1.2
end
def Past (ops : Array Oper) (listed : Array Bool) (j : Nat) : Prop :=
 ∀ k ok oj, ops[k]? = some ok → ops[j]? = some oj → isSens ok = true → listed.getD k false = true → ∃ e ∈ oj.after, Region.binds .any e = true ∧ e.on = k
def MH (P : Program) (ops : Array Oper) (Q : Exit → Act → World → Prop) (n : Nat) (L : Array Bool → Act → World → Prop) : Nat → (World → Prop) → Array Bool → Act → World → Prop
 | 0, _, listed, a, w => L listed a w
 | f + 1, S, listed, a, w => Region.ready .any ops listed ≠ [] ∧
     ∀ i ∈ Region.ready .any ops listed, i < n ∧ wpOp P ops Q i (fun a' w' => ∃ S' : World → Prop, ((∀ x, S' x → S x) ∨ Past ops listed i) ∧ S' w' ∧ MH P ops Q n L f S' (listed.setIfInBounds i true) a' w') a w
def TailWaits (ops : Array Oper) (n : Nat) : Prop :=
 ∀ listed, HeadInv .any ops n listed → ∀ i, i < n → listed.getD i true = false → ∀ t, n ≤ t → t ∉ Region.ready .any ops listed
theorem tailWaits_all (ops : Array Oper) : TailWaits ops ops.size := by
 intro listed _ i _ _ t ht hr
 obtain ⟨_, o, ho, _⟩ := mem_ready.1 hr
 have := (Array.getElem?_eq_some_iff.1 ho).1
 omega
theorem tailWaits_of {ops : Array Oper} {n : Nat} (hs : Region.sinkB .any ops n = true) (hc : Region.chainB .any ops n = true) (hn : n < ops.size) : TailWaits ops n :=
 fun _ inv i hi hun t ht => tail_waits hs hc hn inv _ i rfl hi hun t ht
section
variable {P : Program} {ops : Array Oper} {Q : Exit → Act → World → Prop} {n : Nat} {L : Array Bool → Act → World → Prop}
theorem YieldsIf.mono {S S' : World → Prop} {o : Oper} {v : Value} {a : Act} (h : YieldsIf P ops S o v a) (hs : ∀ x, S' x → S x) : YieldsIf P ops S' o v a :=
 h.imp (fun ⟨h1, h2⟩ => ⟨h1, fun w hw => h2 w (hs w hw)⟩) id
theorem MH_first (htw : TailWaits ops n) {i : Nat} {oi : Oper} {v : Value} (hi : ops[i]? = some oi) (hsel : ∀ (j : Nat) (o : Oper) cs b, ops[j]? = some o → o.op ≠ .select cs b)
   (hQ : ∀ c a w, Q (.panic c) (a.put oi.dst v) w → Q (.panic c) a w) (hin : i < n) (hdone : ∀ listed a w, L listed a w → ∀ j ∈ Region.ready .any ops listed, n ≤ j) :
   ∀ (f : Nat) (S T : World → Prop) (listed : Array Bool) (a : Act) (w : World), (∀ x, S x → T x) → (isSens oi = true ∨ ∀ x, T x) → HeadInv .any ops n listed →
     (∀ j oj, ops[j]? = some oj → j ≠ i → listed.getD j true = false → (∀ e ∈ oj.after, Region.binds .any e = true → e.on ≠ i) → oi.apart ops oj = true) →
     i ∈ Region.ready .any ops listed → YieldsIf P ops T oi v a → S w →
     MH P ops Q n L f S (listed.setIfInBounds i true) (a.put oi.dst v) w → MH P ops Q n L (f + 1) S listed a w := by
 intro f
 induction f with
 | zero =>
   intro S T listed a w hST hTT inv _ hr hy hS H
   have hun := (mem_ready.1 hr).1
   refine ⟨fun h => (by rw [h] at hr; cases hr), fun j hj => ?_⟩
   have hjn : j < n := by
     rcases Nat.lt_or_ge j n with h | h
     · exact h
     · exact absurd hj (htw listed inv i hin hun j h)
   refine ⟨hjn, ?_⟩
   by_cases hji : j = i
   · subst hji; exact (YieldsIf.mono hy hST).wpOp hi hS ⟨S, .inl fun _ h => h, hS, H⟩
   · have := hdone _ _ _ H j (ready_mono hj hji)
     omega
 | succ f ih =>
   intro S T listed a w hST hTT inv hfree hr hy hS H
   have hun := (mem_ready.1 hr).1
   refine ⟨fun h => (by rw [h] at hr; cases hr), fun j hj => ?_⟩
   have hjn : j < n := by
     rcases Nat.lt_or_ge j n with h | h
     · exact h
     · exact absurd hj (htw listed inv i hin hun j h)
   refine ⟨hjn, ?_⟩
   by_cases hji : j = i
   · subst hji; exact (YieldsIf.mono hy hST).wpOp hi hS ⟨S, .inl fun _ h => h, hS, H⟩
   · have h1 := (H.2 j (ready_mono hj hji)).2
     obtain ⟨hjun, oj, hoj, hall⟩ := mem_ready.1 hj
     have hnot : ∀ e ∈ oj.after, Region.binds .any e = true → e.on ≠ i := fun e he hb heq => by
       have h1 := hall e he hb
       rw [heq, getD_both hun] at h1
       cases h1
     have h2 := wpOp_putIf hoj (hfree j oj hoj hji hjun hnot) (fun cs b => hsel i oi cs b hi) (fun cs b => hsel j oj cs b hoj) hQ hy h1
     have hfree' : ∀ k ok, ops[k]? = some ok → k ≠ i → (listed.setIfInBounds j true).getD k true = false →
         (∀ e ∈ ok.after, Region.binds .any e = true → e.on ≠ i) → oi.apart ops ok = true := fun k ok hk hki hun hno => by
       refine hfree k ok hk hki ?_ hno
       by_cases hjk : j = k
       · subst hjk; exact hjun
       · rw [getD_set_ne true hjk] at hun; exact hun
     refine wpOp_mono (fun a' w' h3 => ?_) h2
     obtain ⟨hy', S', hsub, hS', hM⟩ := h3
     have hM' := hM
     rw [← Array.setIfInBounds_comm _ _ hji] at hM'
     have hpast : Past ops (listed.setIfInBounds i true) j → Past ops listed j := fun hp k ok oj' hk hj' hs hl => hp k ok oj' hk hj' hs (by
       by_cases hik : i = k
       · subst hik
         have : listed.getD i true = true := by
           simp only [Array.getD] at hl ⊢
           split at hl
           · rename_i hlt; simp [hlt] at hl ⊢; exact hl
           · cases hl
         rw [this] at hun; cases hun
       · simp only [Array.getD, Array.size_setIfInBounds] at hl ⊢
         split at hl
         · rename_i hlt
           simp only [hlt, dif_pos]
           simp only [Array.getInternal_eq_getElem] at hl ⊢
           rw [Array.getElem_setIfInBounds_ne _ hik]
           exact hl
         · cases hl)
     rcases hTT with hs | hall'
     · have hsub' : ∀ x, S' x → S x := by
         rcases hsub with h | h
         · exact h
         · exfalso
           obtain ⟨e, he, hb, hon⟩ := h i oi oj hi hoj hs (by
             have hlt : i < listed.size := by
               rcases Nat.lt_or_ge i listed.size with h | h
               · exact h
               · simp [Array.getD, Nat.not_lt.2 h] at hun
             simp [Array.getD, hlt])
           exact hnot e he hb hon
       exact ⟨S', .inl hsub', hS', ih S' T (listed.setIfInBounds j true) a' w' (fun x hx => hST x (hsub' x hx)) (.inl hs) (inv.set hj hjn) hfree' (ready_mono hr (Ne.symm hji)) hy' hS' hM'⟩
     · exact ⟨S', hsub.imp id hpast, hS', ih S' T (listed.setIfInBounds j true) a' w' (fun x _ => hall' x) (.inr hall') (inv.set hj hjn) hfree' (ready_mono hr (Ne.symm hji)) hy' hS' hM'⟩
theorem wpAny_of_MH {g : Nat} (hL : ∀ listed a w, L listed a w → wpAny P .any ops Q g listed a w) :
   ∀ (f : Nat) (S : World → Prop) (listed : Array Bool) (a : Act) (w : World), MH P ops Q n L f S listed a w → wpAny P .any ops Q (f + g) listed a w
 | 0, _, listed, a, w, h => by rw [Nat.zero_add]; exact hL _ _ _ h
 | f + 1, S, listed, a, w, h => by
   rw [show f + 1 + g = (f + g) + 1 by omega]
   exact ⟨fun h0 => absurd h0 h.1, fun i hi => wpOp_mono (fun a' w' ⟨S', _, _, h'⟩ => wpAny_of_MH hL f S' _ a' w' h') (h.2 i hi).2⟩
def LE (P : Program) (ops : Array Oper) (Q : Exit → Act → World → Prop) (n : Nat) (listed : Array Bool) (a : Act) (w : World) : Prop :=
 (Region.ready .any ops listed = [] ∧ n = ops.size ∧ Q .normal a w) ∨
 (Region.seqB .any ops (ops.size - n) n listed = true ∧ n < ops.size ∧ wpList P ops Q (ops.toList.drop n) a w)
theorem LE_done : ∀ listed a w, LE P ops Q n listed a w → ∀ j ∈ Region.ready .any ops listed, n ≤ j := by
 rintro listed a w (⟨h, _, _⟩ | ⟨h, hn, _⟩) j hj
 · rw [h] at hj; cases hj
 · exact seqB_ready h j hj
theorem LE_any : ∀ listed a w, LE P ops Q n listed a w → wpAny P .any ops Q (ops.size - n) listed a w := by
 rintro listed a w (⟨h, hn, hq⟩ | ⟨h, hn, hq⟩)
 · subst hn
   rw [Nat.sub_self]
   exact ⟨h, hq⟩
 · have := wpAny_of_seq (md := .any) (P := P) (Q' := Q) (ops.toList.drop n) n listed a w (fun j => by simp [List.getElem?_drop]) (by simpa using h) hq
   simpa using this
end
section
variable {P : Program} {tk : TypeId → RK} {ops : Array Oper} {n : Nat} {od : OrdM} {D0 K0 : List Nat} {W : Nat → Prop}
theorem seqC_sound (hc : chkOrd od D0 K0 ops = true) : ∀ (g k m : Nat), Small ops.size m → k + g = ops.size → seqC od g k ops.size m = true → Region.seqB .any ops g k (listA ops.size m) = true
 | 0, k, m, hm, hk, h => by
   simp only [seqC] at h
   simp only [Region.seqB, List.isEmpty_iff]
   cases hr : Region.ready .any ops (listA ops.size m) with
   | nil => rfl
   | cons x l =>
     have := ready_mem hc hm h x (by rw [hr]; simp)
     cases this
 | g + 1, k, m, hm, hk, h => by
   simp only [seqC, Bool.and_eq_true] at h
   simp only [Region.seqB, Bool.and_eq_true, decide_eq_true_eq]
   have hkk : k < ops.size := by omega
   have hmem : k ∈ Region.ready .any ops (listA ops.size m) := (rdy_iff hc hm).2 ⟨hkk, h.1.1⟩
   refine ⟨?_, ?_⟩
   · have hall := ready_mem hc hm h.1.2
     have hnd : (Region.ready .any ops (listA ops.size m)).Nodup := by
       unfold Region.ready
       exact List.Pairwise.filter _ List.nodup_range
     revert hmem hall hnd
     generalize Region.ready .any ops (listA ops.size m) = l
     intro hmem hall hnd
     match l, hmem, hall, hnd with
     | [], hmem, _, _ => cases hmem
     | [x], hmem, hall, _ => rw [List.mem_singleton.1 (hall x (by simp))]
     | x :: y :: l, _, hall, hnd =>
       have hx := List.mem_singleton.1 (hall x (by simp))
       have hy := List.mem_singleton.1 (hall y (by simp))
       simp [hx, hy] at hnd
   · rw [listA_set]
     exact seqC_sound hc g (k + 1) (m ||| 2 ^ k) (small_or hm hkk) (by omega) h.2
theorem DR_sound (hc : chkOrd od D0 K0 ops = true) (htw : TailWaits ops n) (hn : n ≤ ops.size) (hsel : Region.noSelect ops = true) {a0 : Act} (hb : ∀ d ∈ dsts ops.toList, d < a0.tmps.size) :
   ∀ (t : Tr) (W : Nat → Prop) (f : Nat) (m : Nat) (K : Env → World → Prop) (e : Env) (a : Act) (w : World), Agrees e a → Keep (dsts ops.toList) a0 a → Small ops.size m → HeadInv .any ops n (listA ops.size m) →
     DR P tk ops n od W t f m K e w → MH P ops (PostL a0 (dsts ops.toList) K) n (LE P ops (PostL a0 (dsts ops.toList) K) n) f (Chg W w) (listA ops.size m) a w := by
 intro t
 have hdst : ∀ (i : Nat) (o : Oper), ops[i]? = some o → ∀ k, o.dst = some k → k ∈ dsts ops.toList := by
   intro i o ho k hk
   simp only [dsts, List.mem_filterMap]
   exact ⟨o, by simpa using Array.mem_of_getElem? ho, hk⟩
 have effOne : ∀ (W : Nat → Prop) (t : Tr), (∀ (W : Nat → Prop) (f : Nat) (m : Nat) (K : Env → World → Prop) (e : Env) (a : Act) (w : World), Agrees e a → Keep (dsts ops.toList) a0 a → Small ops.size m → HeadInv .any ops n (listA ops.size m) →
     DR P tk ops n od W t f m K e w → MH P ops (PostL a0 (dsts ops.toList) K) n (LE P ops (PostL a0 (dsts ops.toList) K) n) f (Chg W w) (listA ops.size m) a w) →
     ∀ (f : Nat) (m : Nat) (K : Env → World → Prop) (e : Env) (a : Act) (w : World) (i : Nat) (o : Oper), Agrees e a → Keep (dsts ops.toList) a0 a → Small ops.size m → HeadInv .any ops n (listA ops.size m) →
     i ∈ Region.ready .any ops (listA ops.size m) → i < n → ops[i]? = some o →
     guardK ops o e (DOp P tk o (fun v w' => Chg W w w' ∧ DR P tk ops n od W t f (m ||| 2 ^ i) K (eput o.dst v e) w') e w) (DR P tk ops n od W t f (m ||| 2 ^ i) K (eput o.dst undef e) w) →
     wpOp P ops (PostL a0 (dsts ops.toList) K) i (fun a' w' => ∃ S' : World → Prop, ((∀ x, S' x → Chg W w x) ∨ Past ops (listA ops.size m) i) ∧ S' w' ∧ MH P ops (PostL a0 (dsts ops.toList) K) n (LE P ops (PostL a0 (dsts ops.toList) K) n) f S' ((listA ops.size m).setIfInBounds i true) a' w') a w := by
   intro W t ih f m K e a w i o hA hk hm inv hr hin ho h
   have next : ∀ (v : Value) (w' : World), Chg W w w' → DR P tk ops n od W t f (m ||| 2 ^ i) K (eput o.dst v e) w' →
       ∃ S' : World → Prop, ((∀ x, S' x → Chg W w x) ∨ Past ops (listA ops.size m) i) ∧ S' w' ∧ MH P ops (PostL a0 (dsts ops.toList) K) n (LE P ops (PostL a0 (dsts ops.toList) K) n) f S' ((listA ops.size m).setIfInBounds i true) (a.put o.dst v) w' := by
     intro v w' hC' h
     have hk' : Keep (dsts ops.toList) a (a.put o.dst v) := Keep.put (hdst i o ho)
     have hinv := inv.set hr hin
     rw [listA_set] at hinv ⊢
     exact ⟨Chg W w', .inl fun x hx => hC'.trans hx, .refl _ _, ih W f _ K _ _ w' (hA.put fun k hk2 => by rw [hk.size]; exact hb k (hdst i o ho k hk2)) (hk.trans hk') (small_or hm (by omega)) hinv h⟩
   unfold wpOp
   simp only [ho]
   rcases guardK_sound hA h with ⟨hw, hp⟩ | ⟨hw, hp⟩
   · simp only [hw, if_true]
     exact .inl ((DOp_sound hA hp).wp fun v w' ⟨h1, h2⟩ => next v w' h1 h2)
   · simp only [hw, Bool.false_eq_true, if_false]
     exact next _ _ (.refl _ _) hp
 have bif3 : ∀ {b c d : Bool} {X : Prop}, (bif b && (c && d) then X else False) → b = true ∧ c = true ∧ d = true ∧ X := by
   intro b c d X h
   cases b <;> cases c <;> cases d <;> first | exact h.elim | exact ⟨rfl, rfl, rfl, h⟩
 have bif2 : ∀ {b c : Bool} {X : Prop}, (bif b && c then X else False) → b = true ∧ c = true ∧ X := by
   intro b c X h
   cases b <;> cases c <;> first | exact h.elim | exact ⟨rfl, rfl, h⟩
 have blt : ∀ {i j : Nat}, Nat.blt i j = true → i < j := fun h => by
   have := Nat.le_of_ble_eq_true h
   omega
 have ne_nil : ∀ {m i : Nat}, Small ops.size m → rdyB od m i = true → i < ops.size → Region.ready .any ops (listA ops.size m) ≠ [] := fun hm h hi h0 => by
   have := (rdy_iff hc hm).2 ⟨hi, h⟩
   rw [h0] at this; cases this
 induction t with
 | take i t ih =>
   intro W f m K e a w hA hk hm inv h
   cases f with
   | zero => simp [DR] at h
   | succ f =>
     simp only [DR] at h
     obtain ⟨h1, h2, h3, h⟩ := bif3 h
     have hin := blt h3
     have hr : i ∈ Region.ready .any ops (listA ops.size m) := (rdy_iff hc hm).2 ⟨by omega, h1⟩
     split at h
     · rename_i o ho
       have fin : ∀ v, YieldsIf P ops (fun x => isSens o = true → Chg W w x) o v a → DR P tk ops n od W t f (m ||| 2 ^ i) K (eput o.dst v e) w →
           MH P ops (PostL a0 (dsts ops.toList) K) n (LE P ops (PostL a0 (dsts ops.toList) K) n) (f + 1) (Chg W w) (listA ops.size m) a w := by
         intro v hy h
         have hk' : Keep (dsts ops.toList) a (a.put o.dst v) := Keep.put (hdst i o ho)
         refine MH_first htw ho (Region.noSelect_spec hsel) (fun c a w hq => by cases hq.1) hin LE_done f (Chg W w) (fun x => isSens o = true → Chg W w x) _ a w (fun _ h _ => h) (by cases hs : isSens o <;> simp) inv (free_of hc ho h2) hr hy (.refl _ _) ?_
         have hinv := inv.set hr hin
         rw [listA_set] at hinv ⊢
         exact ih W f _ K _ _ w (hA.put fun k hk2 => by rw [hk.size]; exact hb k (hdst i o ho k hk2)) (hk.trans hk') (small_or hm (by omega)) hinv h
       rcases guardK_sound hA h with ⟨hw, hp⟩ | ⟨hw, hp⟩
       · obtain ⟨v, hv, hK⟩ := DStill_sound hA hp
         exact fin v (.inl ⟨hw, fun w' hc => hv w' hc⟩) hK
       · exact fin undef (.inr ⟨hw, rfl⟩) hp
     · exact h.elim
 | eff i t ih =>
   intro W f m K e a w hA hk hm inv h
   cases f with
   | zero => simp [DR] at h
   | succ f =>
     simp only [DR] at h
     obtain ⟨h12, h3, h⟩ := bif2 h
     simp only [Bool.and_eq_true] at h12
     have hin := blt h3
     split at h
     · rename_i o ho
       refine ⟨ne_nil hm h12.1 (by omega), fun j hj => ?_⟩
       have hji : j = i := by simpa using ready_mem hc hm h12.2 j hj
       subst hji
       exact ⟨hin, effOne W t ih f m K e a w j o hA hk hm inv hj hin ho h⟩
     · exact h.elim
 | out i b t ih =>
   intro W f m K e a w hA hk hm inv h
   cases f with
   | zero => simp [DR] at h
   | succ f =>
     simp only [DR] at h
     obtain ⟨h12, h3, h4, h⟩ := bif3 h
     simp only [Bool.and_eq_true] at h12
     have hin := blt h3
     have h4 := Nat.eq_of_beq_eq_true h4
     split at h
     · rename_i o ho
       refine ⟨ne_nil hm h12.1 (by omega), fun j hj => ?_⟩
       have hji : j = i := by simpa using ready_mem hc hm h12.2 j hj
       subst hji
       refine ⟨hin, ?_⟩
       have hpast : Past ops (listA ops.size m) j := by
         intro k ok oj hk' hj' hs hl
         have hkl : k < ops.size := (Array.getElem?_eq_some_iff.1 hk').1
         rw [listA_getD hkl] at hl
         have hb' : (sensM 0 ops.toList &&& m).testBit k = true := by
           rw [Nat.testBit_and, hl, Bool.and_true]
           exact (sensM_at ops.toList 0 k ok (by simpa using hk')).trans hs |> (by simpa using ·)
         have h5 : (mAt od.M j).testBit k = true := land_eq_self h4 hb'
         rw [chk_M hc hj', testBit_maskL] at h5
         simp only [decide_eq_true_eq] at h5
         exact mem_afterL.1 h5
       have next : ∀ (v : Value) (w' : World) (V : Nat → Prop), DR P tk ops n od V t f (m ||| 2 ^ j) K (eput o.dst v e) w' →
           ∃ S' : World → Prop, ((∀ x, S' x → Chg W w x) ∨ Past ops (listA ops.size m) j) ∧ S' w' ∧ MH P ops (PostL a0 (dsts ops.toList) K) n (LE P ops (PostL a0 (dsts ops.toList) K) n) f S' ((listA ops.size m).setIfInBounds j true) (a.put o.dst v) w' := by
         intro v w' V h
         have hk' : Keep (dsts ops.toList) a (a.put o.dst v) := Keep.put (hdst j o ho)
         have hinv := inv.set hj hin
         rw [listA_set] at hinv ⊢
         exact ⟨Chg V w', .inr hpast, .refl _ _, ih V f _ K _ _ w' (hA.put fun k hk2 => by rw [hk.size]; exact hb k (hdst j o ho k hk2)) (hk.trans hk') (small_or hm (by omega)) hinv h⟩
       unfold wpOp
       simp only [ho]
       rcases guardK_sound hA h with ⟨hw, hp⟩ | ⟨hw, hp⟩
       · simp only [hw, if_true]
         refine .inl ((DOp_sound hA hp).wp fun v w' h2 => ?_)
         cases b with
         | true =>
           obtain ⟨V, h2⟩ := h2
           exact next v w' V h2
         | false => exact next v w' W h2
       · simp only [hw, Bool.false_eq_true, if_false]
         exact next _ _ W hp
     · exact h.elim
 | two i t j u iht ihu =>
   intro W f m K e a w hA hk hm inv h
   cases f with
   | zero => simp [DR] at h
   | succ f =>
     simp only [DR] at h
     obtain ⟨h12, h3, h4, h⟩ := bif3 h
     simp only [Bool.and_eq_true] at h12
     have hi := blt h3
     split at h
     · rename_i o q ho hq
       refine ⟨ne_nil hm h12.1 (by omega), fun k hk' => ?_⟩
       have hki : k = i ∨ k = j := by simpa using ready_mem hc hm h12.2 k hk'
       rcases hki with hki | hki
       · subst hki
         exact ⟨blt h3, effOne W t iht f m K e a w k o hA hk hm inv hk' (blt h3) ho h.1⟩
       · subst hki
         exact ⟨blt h4, effOne W u ihu f m K e a w k q hA hk hm inv hk' (blt h4) hq h.2⟩
     · exact h.elim
 | three i t j u k x iht ihu ihx =>
   intro W f m K e a w hA hk hm inv h
   cases f with
   | zero => simp [DR] at h
   | succ f =>
     simp only [DR] at h
     obtain ⟨h12, h3, h45, h⟩ := bif3 (d := _) h
     obtain ⟨h4, h5⟩ : Nat.blt j n = true ∧ Nat.blt k n = true := by simpa using h45
     simp only [Bool.and_eq_true] at h12
     have hi := blt h3
     split at h
     · rename_i o q r ho hq hrr
       refine ⟨ne_nil hm h12.1 (by omega), fun y hk' => ?_⟩
       have hki : y = i ∨ y = j ∨ y = k := by simpa using ready_mem hc hm h12.2 y hk'
       rcases hki with hki | hki | hki
       · subst hki
         exact ⟨blt h3, effOne W t iht f m K e a w y o hA hk hm inv hk' (blt h3) ho h.1⟩
       · subst hki
         exact ⟨blt h4, effOne W u ihu f m K e a w y q hA hk hm inv hk' (blt h4) hq h.2.1⟩
       · subst hki
         exact ⟨blt h5, effOne W x ihx f m K e a w y r hA hk hm inv hk' (blt h5) hrr h.2.2⟩
     · exact h.elim
 | sp s t u iht ihu =>
   intro W f m K e a w hA hk hm inv h
   have h' : match e.get s with
     | some (.bool c) => (c = true → DR P tk ops n od W t f m K ((s, .bool true) :: e) w) ∧ (c = false → DR P tk ops n od W u f m K ((s, .bool false) :: e) w)
     | _ => False := by cases f <;> simpa only [DR] using h
   split at h'
   · rename_i c hs
     cases c with
     | true => exact iht W f m K _ a w (hA.lit hs) hk hm inv (h'.1 rfl)
     | false => exact ihu W f m K _ a w (hA.lit hs) hk hm inv (h'.2 rfl)
   · exact h'.elim
 | fin =>
   intro W f m K e a w hA hk hm inv h
   cases f with
   | succ f => simp [DR] at h
   | zero =>
     simp only [DR] at h
     obtain ⟨h1, h2, h⟩ := bif2 h
     refine .inl ⟨?_, Nat.eq_of_beq_eq_true h2, rfl, hk, e, hA, h⟩
     cases hr : Region.ready .any ops (listA ops.size m) with
     | nil => rfl
     | cons x l =>
       have := ready_mem hc hm h1 x (by rw [hr]; simp)
       cases this
 | tail as =>
   intro W f m K e a w hA hk hm inv h
   cases f with
   | succ f => simp [DR] at h
   | zero =>
     simp only [DR] at h
     obtain ⟨h1, h2, h⟩ := bif2 h
     have hsub : ∀ k, k ∈ dsts (ops.toList.drop n) → k ∈ dsts ops.toList := fun k hk => by
       simp only [dsts, List.mem_filterMap] at hk ⊢
       obtain ⟨o, ho, hk⟩ := hk
       exact ⟨o, List.mem_of_mem_drop ho, hk⟩
     have := DOps_sound _ _ _ K e a w hA (fun d hd => by rw [hk.size]; exact hb d (hsub d hd)) h
     exact .inr ⟨seqC_sound hc _ _ _ hm (by omega) h1, blt h2, wpList_mono (fun x a' w' ⟨g1, g2, g3⟩ => ⟨g1, hk.trans (g2.mono hsub), g3⟩) _ _ _ this⟩
theorem headInv_init (ops : Array Oper) (n : Nat) : HeadInv .any ops n (Array.replicate ops.size false) :=
 ⟨by simp, fun j oj _ hl => (by rw [getD_replicate_false] at hl; cases hl), fun t _ ht => getD_in (by simpa using ht) (getD_replicate_false _ _)⟩
def DRegion (P : Program) (tk : TypeId → RK) (ops : Array Oper) (n : Nat) (hasEff : Bool) (od : OrdM) (D0 K0 : List Nat) (t : Tr) (K : Env → World → Prop) (e : Env) (w : World) : Prop :=
 bif (Region.noSelect ops && chkOrd od D0 K0 ops) && (bif Nat.beq n ops.size then true else Nat.blt n ops.size && (Region.sinkB .any ops n && Region.chainB .any ops n)) then
   bif hasEff then
     Nx w.drew fun w1 => ∃ W : Nat → Prop, DR P tk ops n od W t n 0 K e w1
   else Nx w.drew fun w1 => DR P tk ops n od (fun _ => False) t n 0 K e w1
 else False
theorem DRegion_sound {id : Nat} {hasEff : Bool} {t : Tr} {K : Env → World → Prop} {e : Env} {a : Act} {w : World} (hm : P.follows .mixedOrders = true)
   (hA : Agrees e a) (hb : ∀ d ∈ dsts ops.toList, d < a.tmps.size) (h : DRegion P tk ops n hasEff od D0 K0 t K e w) :
   (Code.region id ops true).wp P (PostL a (dsts ops.toList) K) a w := by
 unfold DRegion at h
 cases h0 : (Region.noSelect ops && chkOrd od D0 K0 ops) with
 | false => rw [h0] at h; exact h.elim
 | true =>
   rw [h0] at h
   simp only [Bool.true_and] at h
   simp only [Bool.and_eq_true] at h0
   obtain ⟨h1, hc⟩ := h0
   cases h2 : (bif Nat.beq n ops.size then true else Nat.blt n ops.size && (Region.sinkB .any ops n && Region.chainB .any ops n)) with
   | false => rw [h2] at h; exact h.elim
   | true =>
     rw [h2] at h
     simp only [cond_true] at h
     have htw : TailWaits ops n := by
       cases hn : Nat.beq n ops.size with
       | true => rw [Nat.eq_of_beq_eq_true hn]; exact tailWaits_all ops
       | false =>
         rw [hn] at h2
         simp only [cond_false, Bool.and_eq_true] at h2
         refine tailWaits_of h2.2.1 h2.2.2 ?_
         have := Nat.le_of_ble_eq_true h2.1
         omega
     have hle : n ≤ ops.size := by
       cases hn : Nat.beq n ops.size with
       | true => rw [Nat.eq_of_beq_eq_true hn]; exact Nat.le_refl _
       | false =>
         rw [hn] at h2
         simp only [cond_false, Bool.and_eq_true] at h2
         have := Nat.le_of_ble_eq_true h2.1
         omega
     have key : ∀ W, DR P tk ops n od W t n 0 K e w.drew → (Code.region id ops true).wp P (PostL a (dsts ops.toList) K) a w := by
       intro W h
       refine wp_region_any hm ?_
       have hM := DR_sound hc htw hle h1 hb t W n 0 K e a w.drew hA (.refl _ _) (small_zero _) (by rw [listA_zero]; exact headInv_init ops n) h
       rw [listA_zero] at hM
       have := wpAny_of_MH LE_any _ _ _ _ _ hM
       rw [show n + (ops.size - n) = ops.size by omega] at this
       exact this
     cases hasEff with
     | true => obtain ⟨W, h⟩ := h; exact key W h
     | false => exact key _ h
end
end Gx
namespace Gx
open Go
inductive AT where
 | leaf
 | reg (as : List An)
 | drw (n : Nat) (hasEff : Bool) (od : OrdM) (D0 K0 : List Nat) (t : Tr)
 | seq (a b : AT)
 | cond (a b : AT)
 | blk (a : AT)
 | loop (live : List (Nat × Lf)) (keep : List Nat) (a : AT)
 | jk (live : List (Nat × Lf)) (keep : List Nat) (a : AT)
def PT : List (Nat × Lf) → Type
 | [] => World → Prop
 | (_, l) :: r => l.T → PT r
def MT : List (Nat × Lf) → Type
 | [] => World → Nat
 | (_, l) :: r => l.T → MT r
def getLf (l : Lf) (v : Option Value) (K : l.T → Prop) : Prop :=
 match l, v with
 | .int k, some (.int k' n) => bif kEq k k' then K n else False
 | .bool, some (.bool b) => K b
 | .str, some (.string s) => K s
 | .ptr, some (.pointer p) => K p
 | .slice, some (.slice a n c) => K ⟨a, n, c⟩
 | .map, some (.map r) => K r
 | .agg, some (.agg cs) => K cs
 | .fn, some (.func (.func f) a b) => K ⟨f, a, b⟩
 | .any, some v => K v
 | _, _ => False
def PT.app : (live : List (Nat × Lf)) → PT live → (Nat → Option Value) → World → Prop
 | [], k, _, w => k w
 | (s, l) :: r, k, g, w => getLf l (g s) fun x => PT.app r (k x) g w
def PT.lam : (live : List (Nat × Lf)) → (Env → World → Prop) → PT live
 | [], F => fun w => F [] w
 | (s, l) :: r, F => fun x => PT.lam r fun e w => F ((s, l.v x) :: e) w
def loopAll : (live : List (Nat × Lf)) → PT live → MT live → (Env → Nat → World → Prop) → Prop
 | [], I, μ, F => ∀ w, I w → F [] (μ w) w
 | (s, l) :: r, I, μ, F => ∀ x : l.T, loopAll r (I x) (μ x) fun e m w => F ((s, l.v x) :: e) m w
def appLt : (live : List (Nat × Lf)) → PT live → MT live → Nat → (Nat → Option Value) → World → Prop
 | [], I, μ, m, _, w => I w ∧ μ w < m
 | (s, l) :: r, I, μ, m, g, w => getLf l (g s) fun x => appLt r (I x) (μ x) m g w
def mOf : (live : List (Nat × Lf)) → MT live → (Nat → Option Value) → World → Nat
 | [], μ, _, w => μ w
 | (s, l) :: r, μ, g, w =>
   match l, g s, μ with
   | .int _, some (.int _ n), μ => mOf r (μ n) g w
   | .bool, some (.bool b), μ => mOf r (μ b) g w
   | .str, some (.string b), μ => mOf r (μ b) g w
   | .ptr, some (.pointer b), μ => mOf r (μ b) g w
   | .slice, some (.slice a n c), μ => mOf r (μ (Sl.mk a n c)) g w
   | .map, some (.map b), μ => mOf r (μ b) g w
   | .agg, some (.agg b), μ => mOf r (μ b) g w
   | .fn, some (.func (.func f) a b), μ => mOf r (μ (Fv.mk f a b)) g w
   | .any, some v, μ => mOf r (μ v) g w
   | _, _, _ => 0
def writes : Code → List Nat
 | .region _ ops _ => dsts ops.toList
 | .seq a b => writes a ++ writes b
 | .cond _ a b => writes a ++ writes b
 | .block _ a => writes a
 | .loop a => writes a
 | .scope a => writes a
 | _ => []
def keepOk (keep ws : List Nat) : Bool := keep.all fun s => !(ws.any fun d => Nat.beq d s)
def keepEnv (e : Env) : List Nat → Env
 | [] => []
 | s :: ks => match e.get s with
   | some v => (s, v) :: keepEnv e ks
   | none => keepEnv e ks
def eapp : Env → Env → Env
 | [], f => f
 | p :: e, f => p :: eapp e f
def D (P : Program) (tk : TypeId → RK) : AT → Code → (Exit → Env → World → Prop) → Env → World → Prop
 | .leaf, c, K, e, w =>
   match c with
   | .skip => K .normal e w
   | .label _ => K .normal e w
   | .exit id => K (.exit id) e w
   | .ret => K .ret e w
   | _ => False
 | .reg as, c, K, e, w =>
   match c with
   | .region _ ops false => DOps P tk ops (ops.size + 1) ops.toList as (fun e' w' => K .normal e' w') e w
   | _ => False
 | .drw n he od D0 K0 t, c, K, e, w =>
   match c with
   | .region _ ops true => DRegion P tk ops n he od D0 K0 t (fun e' w' => K .normal e' w') e w
   | _ => False
 | .seq A B, c, K, e, w =>
   match c with
   | .seq a b => D P tk A a (fun x e' w' => match x with | .normal => D P tk B b K e' w' | x => K x e' w') e w
   | _ => False
 | .cond A B, c, K, e, w =>
   match c with
   | .cond o x y => match ev e o with
     | some (.bool b) => (b = true → D P tk A x K e w) ∧ (b = false → D P tk B y K e w)
     | _ => False
   | _ => False
 | .blk A, c, K, e, w =>
   match c with
   | .block id b => D P tk A b (fun x e' w' => match x with | .exit id' => bif Nat.beq id' id then K .normal e' w' else K (.exit id') e' w' | x => K x e' w') e w
   | _ => False
 | .loop live keep A, c, K, e, w =>
   match c with
   | .loop b => bif keepOk keep (writes b) then
       ∃ (I : PT live) (μ : MT live), PT.app live I e.get w ∧
         loopAll live I μ fun el m w' => D P tk A b (fun x e' w'' => match x with | .normal => appLt live I μ m e'.get w'' | x => K x e' w'') (eapp el (keepEnv e keep)) w'
     else False
   | _ => False
 | .jk live keep A, c, K, e, w =>
   bif keepOk keep (writes c) then
     Jn (fun k : PT live => D P tk A c (fun x e' w' => match x with | .normal => PT.app live k e'.get w' | x => K x e' w') e w)
       (PT.lam live fun el w' => K .normal (eapp el (keepEnv e keep)) w')
   else False
def PostC (a : Act) (ds : List Nat) (K : Exit → Env → World → Prop) (x : Exit) (a' : Act) (w' : World) : Prop :=
 Keep ds a a' ∧ ∃ e', Agrees e' a' ∧ K x e' w'
def Sub (e : Env) (g : Nat → Option Value) : Prop := ∀ s v, e.get s = some v → g s = some v
theorem Sub.cons {e : Env} {g : Nat → Option Value} {s : Nat} {v : Value} (h : Sub e g) (hs : g s = some v) : Sub ((s, v) :: e) g := by
 intro t u ht
 rw [get_cons] at ht
 by_cases hst : s = t
 · subst hst; rw [if_pos rfl] at ht; rw [hs]; exact ht
 · rw [if_neg hst] at ht; exact h t u ht
theorem Sub.nil {g : Nat → Option Value} : Sub [] g := fun _ _ h => by cases h
theorem getLf_out {l : Lf} {v : Option Value} {K : l.T → Prop} (h : getLf l v K) : ∃ x : l.T, v = some (l.v x) ∧ K x := by
 unfold getLf at h
 split at h
 · rename_i k k' n K
   by_cases hk : k = k'
   · subst hk
     simp only [kEq, decide_true, cond_true] at h
     exact ⟨n, rfl, h⟩
   · simp [kEq, hk] at h
 all_goals first
   | exact ⟨_, rfl, h⟩
   | exact h.elim
theorem getLf_in {l : Lf} {v : Option Value} {K : l.T → Prop} {x : l.T} (hv : v = some (l.v x)) (h : K x) : getLf l v K := by
 subst hv
 cases l <;> simp only [getLf, Lf.v, kEq, decide_true, cond_true] <;> exact h
theorem mOf_cons {s : Nat} {l : Lf} {r : List (Nat × Lf)} {μ : MT ((s, l) :: r)} {g : Nat → Option Value} {w : World} {x : l.T} (hv : g s = some (l.v x)) :
   mOf ((s, l) :: r) μ g w = mOf r (μ x) g w := by
 cases l <;> simp only [mOf, hv, Lf.v] <;> rfl
theorem app_lam : ∀ {live : List (Nat × Lf)} {F : Env → World → Prop} {g : Nat → Option Value} {w : World}, PT.app live (PT.lam live F) g w → ∃ el, Sub el g ∧ F el w
 | [], F, g, w, h => ⟨[], Sub.nil, h⟩
 | (s, l) :: r, F, g, w, h => by
   obtain ⟨x, hv, h⟩ := getLf_out h
   obtain ⟨el, hs, h⟩ := app_lam h
   exact ⟨(s, l.v x) :: el, hs.cons hv, h⟩
theorem app_mono : ∀ {live : List (Nat × Lf)} {I : PT live} {g g' : Nat → Option Value} {w : World}, (∀ s v, g s = some v → g' s = some v) → PT.app live I g w → PT.app live I g' w
 | [], _, _, _, _, _, h => h
 | (s, l) :: r, I, g, g', w, hg, h => by
   obtain ⟨x, hv, h⟩ := getLf_out h
   exact getLf_in (hg _ _ hv) (app_mono hg h)
theorem loopAll_out : ∀ {live : List (Nat × Lf)} {I : PT live} {μ : MT live} {F : Env → Nat → World → Prop} {g : Nat → Option Value} {w : World},
   loopAll live I μ F → PT.app live I g w → ∃ el, Sub el g ∧ F el (mOf live μ g w) w
 | [], I, μ, F, g, w, h, hI => ⟨[], Sub.nil, h w hI⟩
 | (s, l) :: r, I, μ, F, g, w, h, hI => by
   obtain ⟨x, hv, hI⟩ := getLf_out hI
   obtain ⟨el, hs, h⟩ := loopAll_out (h x) hI
   exact ⟨(s, l.v x) :: el, hs.cons hv, by rw [mOf_cons hv]; exact h⟩
theorem appLt_out : ∀ {live : List (Nat × Lf)} {I : PT live} {μ : MT live} {m : Nat} {g g' : Nat → Option Value} {w : World},
   (∀ s v, g s = some v → g' s = some v) → appLt live I μ m g w → PT.app live I g' w ∧ mOf live μ g' w < m
 | [], _, _, _, _, _, _, _, h => h
 | (s, l) :: r, I, μ, m, g, g', w, hg, h => by
   obtain ⟨x, hv, h⟩ := getLf_out h
   obtain ⟨h1, h2⟩ := appLt_out hg h
   exact ⟨getLf_in (hg _ _ hv) h1, by rw [mOf_cons (hg _ _ hv)]; exact h2⟩
theorem get_eapp : ∀ {e f : Env} {s : Nat} {v : Value}, (eapp e f).get s = some v → e.get s = some v ∨ f.get s = some v
 | [], _, _, _, h => .inr h
 | (k, u) :: e, f, s, v, h => by
   simp only [eapp] at h
   rw [get_cons] at h ⊢
   by_cases hk : k = s
   · rw [if_pos hk] at h ⊢; exact .inl h
   · rw [if_neg hk] at h ⊢; exact get_eapp h
theorem get_keepEnv {e : Env} : ∀ {ks : List Nat} {s : Nat} {v : Value}, (keepEnv e ks).get s = some v → s ∈ ks ∧ e.get s = some v
 | [], _, _, h => by cases h
 | k :: ks, s, v, h => by
   simp only [keepEnv] at h
   split at h
   · rename_i u hu
     rw [get_cons] at h
     by_cases hk : k = s
     · rw [if_pos hk] at h
       subst hk
       exact ⟨by simp, by rw [hu]; exact h⟩
     · rw [if_neg hk] at h
       have := get_keepEnv h
       exact ⟨by simp [this.1], this.2⟩
   · have := get_keepEnv h
     exact ⟨by simp [this.1], this.2⟩
theorem agrees_join {e el : Env} {a a' : Act} {keep ws : List Nat} (hA : Agrees e a) (hk : Keep ws a a') (ho : keepOk keep ws = true) (hs : Sub el fun s => a'.tmps[s]?) :
   Agrees (eapp el (keepEnv e keep)) a' := by
 constructor
 intro s v h
 rcases get_eapp h with h | h
 · exact hs s v h
 · obtain ⟨h1, h2⟩ := get_keepEnv h
   have h3 := List.all_eq_true.1 ho s h1
   simp only [Bool.not_eq_true', List.any_eq_false] at h3
   rw [hk.same s fun hm => h3 s hm (Nat.beq_refl s)]
   exact hA.get s v h2
section
variable {P : Program} {tk : TypeId → RK}
theorem wp_post {c : Code} {Q Q' : Exit → Act → World → Prop} {a : Act} {w : World} (h : c.wp P Q a w) (hq : ∀ e a w, Q e a w → Q' e a w) : c.wp P Q' a w := wp_mono h hq
theorem D_sound (hm : P.follows .mixedOrders = true) : ∀ (A : AT) (c : Code) (K : Exit → Env → World → Prop) (e : Env) (a : Act) (w : World), Agrees e a → (∀ d ∈ writes c, d < a.tmps.size) →
   D P tk A c K e w → c.wp P (PostC a (writes c) K) a w := by
 intro A
 induction A with
 | leaf =>
   intro c K e a w hA hb h
   simp only [D] at h
   split at h
   · exact wp_skip ⟨.refl _ _, e, hA, h⟩
   · exact wp_label ⟨.refl _ _, e, hA, h⟩
   · exact wp_exit ⟨.refl _ _, e, hA, h⟩
   · exact wp_ret ⟨.refl _ _, e, hA, h⟩
   · exact h.elim
 | reg as =>
   intro c K e a w hA hb h
   simp only [D] at h
   split at h
   · rename_i id ops
     have := DOps_sound _ _ _ _ e a w hA hb h
     refine wp_region_list (wpList_mono ?_ _ _ _ this)
     rintro x a' w' ⟨rfl, hk, e', hA', hK⟩
     exact ⟨hk, e', hA', hK⟩
   · exact h.elim
 | drw n he od D0 K0 t =>
   intro c K e a w hA hb h
   simp only [D] at h
   split at h
   · rename_i id ops
     refine wp_post (DRegion_sound hm hA hb h) ?_
     rintro x a' w' ⟨rfl, hk, e', hA', hK⟩
     exact ⟨hk, e', hA', hK⟩
   · exact h.elim
 | seq A B ihA ihB =>
   intro c K e a w hA hb h
   simp only [D] at h
   split at h
   · rename_i x y
     have hx : ∀ d, d ∈ writes x → d ∈ writes (.seq x y) := fun d hd => by simp [writes, hd]
     have hy : ∀ d, d ∈ writes y → d ∈ writes (.seq x y) := fun d hd => by simp [writes, hd]
     refine wp_seq (wp_post (ihA x _ e a w hA (fun d hd => hb d (hx d hd)) h) ?_)
     rintro ex a1 w1 ⟨hk, e1, hA1, h1⟩
     cases ex with
     | normal =>
       refine wp_post (ihB y K e1 a1 w1 hA1 (fun d hd => by rw [hk.size]; exact hb d (hy d hd)) h1) ?_
       rintro ex a2 w2 ⟨hk2, e2, hA2, h2⟩
       exact ⟨(hk.mono hx).trans (hk2.mono hy), e2, hA2, h2⟩
     | exit id => exact ⟨hk.mono hx, e1, hA1, h1⟩
     | goto l => exact ⟨hk.mono hx, e1, hA1, h1⟩
     | ret => exact ⟨hk.mono hx, e1, hA1, h1⟩
     | panic ch => exact ⟨hk.mono hx, e1, hA1, h1⟩
     | outgrown => exact ⟨hk.mono hx, e1, hA1, h1⟩
   · exact h.elim
 | cond A B ihA ihB =>
   intro c K e a w hA hb h
   simp only [D] at h
   split at h
   · rename_i o x y
     have hx : ∀ d, d ∈ writes x → d ∈ writes (.cond o x y) := fun d hd => by simp [writes, hd]
     have hy : ∀ d, d ∈ writes y → d ∈ writes (.cond o x y) := fun d hd => by simp [writes, hd]
     split at h
     · rename_i b ho
       refine wp_cond_split (hA.ev ho) (fun hb1 => ?_) (fun hb1 => ?_)
       · refine wp_post (ihA x K e a w hA (fun d hd => hb d (hx d hd)) (h.1 hb1)) ?_
         rintro ex a2 w2 ⟨hk2, e2, hA2, h2⟩
         exact ⟨hk2.mono hx, e2, hA2, h2⟩
       · refine wp_post (ihB y K e a w hA (fun d hd => hb d (hy d hd)) (h.2 hb1)) ?_
         rintro ex a2 w2 ⟨hk2, e2, hA2, h2⟩
         exact ⟨hk2.mono hy, e2, hA2, h2⟩
     · exact h.elim
   · exact h.elim
 | blk A ih =>
   intro c K e a w hA hb h
   simp only [D] at h
   split at h
   · rename_i id b
     refine wp_block (wp_post (ih b _ e a w hA hb h) ?_)
     rintro ex a1 w1 ⟨hk, e1, hA1, h1⟩
     cases ex with
     | exit id' =>
       simp only [Exit.inBlock]
       by_cases hid : id' = id
       · subst hid
         simp only [Nat.beq_refl, cond_true] at h1
         rw [if_pos rfl]
         exact ⟨hk, e1, hA1, h1⟩
       · have : Nat.beq id' id = false := by
           cases hbq : Nat.beq id' id
           · rfl
           · exact absurd (Nat.eq_of_beq_eq_true hbq) hid
         simp only [this, cond_false] at h1
         rw [if_neg hid]
         exact ⟨hk, e1, hA1, h1⟩
     | normal => exact ⟨hk, e1, hA1, h1⟩
     | goto l => exact ⟨hk, e1, hA1, h1⟩
     | ret => exact ⟨hk, e1, hA1, h1⟩
     | panic ch => exact ⟨hk, e1, hA1, h1⟩
     | outgrown => exact ⟨hk, e1, hA1, h1⟩
   · exact h.elim
 | loop live keep A ih =>
   intro c K e a w hA hb h
   simp only [D] at h
   split at h
   · rename_i b
     cases hko : keepOk keep (writes b) with
     | false => rw [hko] at h; exact h.elim
     | true =>
       rw [hko] at h
       obtain ⟨I, μ, h0, hround⟩ := h
       refine wp_loop (fun a' w' => Keep (writes b) a a' ∧ PT.app live I (fun s => a'.tmps[s]?) w') (fun a' w' => mOf live μ (fun s => a'.tmps[s]?) w')
         ⟨.refl _ _, app_mono (fun s v hs => hA.get s v hs) h0⟩ ?_
       rintro a1 w1 ⟨hk, hI⟩
       obtain ⟨el, hs, hF⟩ := loopAll_out hround hI
       refine wp_post (ih b _ _ a1 w1 (agrees_join hA hk hko hs) (fun d hd => by rw [hk.size]; exact hb d hd) hF) ?_
       rintro ex a2 w2 ⟨hk2, e2, hA2, h2⟩
       cases ex with
       | normal =>
         obtain ⟨g1, g2⟩ := appLt_out (g' := fun s => a2.tmps[s]?) (fun s v hs => hA2.get s v hs) h2
         exact ⟨⟨hk.trans hk2, g1⟩, g2⟩
       | exit id => exact ⟨hk.trans hk2, e2, hA2, h2⟩
       | goto l => exact ⟨hk.trans hk2, e2, hA2, h2⟩
       | ret => exact ⟨hk.trans hk2, e2, hA2, h2⟩
       | panic ch => exact ⟨hk.trans hk2, e2, hA2, h2⟩
       | outgrown => exact ⟨hk.trans hk2, e2, hA2, h2⟩
   · exact h.elim
 | jk live keep A ih =>
   intro c K e a w hA hb h
   simp only [D] at h
   cases hko : keepOk keep (writes c) with
   | false => rw [hko] at h; exact h.elim
   | true =>
     rw [hko] at h
     simp only [cond_true] at h
     have h := h.out
     refine wp_post (ih c _ e a w hA hb h) ?_
     rintro ex a1 w1 ⟨hk, e1, hA1, h1⟩
     cases ex with
     | normal =>
       obtain ⟨el, hs, hF⟩ := app_lam h1
       exact ⟨hk, _, agrees_join hA hk hko (fun s v h => hA1.get s v (hs s v h)), hF⟩
     | exit id => exact ⟨hk, e1, hA1, h1⟩
     | goto l => exact ⟨hk, e1, hA1, h1⟩
     | ret => exact ⟨hk, e1, hA1, h1⟩
     | panic ch => exact ⟨hk, e1, hA1, h1⟩
     | outgrown => exact ⟨hk, e1, hA1, h1⟩
def resE (P : Program) (tk : TypeId → RK) : List ResultVar → Env → World → (List Value → Prop) → Prop
 | [], _, _, K => K []
 | .tmp t :: r, e, w, K => match e.get t with
   | some v => resE P tk r e w fun vs => K (v :: vs)
   | none => False
 | .cell t T :: r, e, w, K => match e.get t with
   | some (.pointer (some A)) => dload P tk T A w fun v => resE P tk r e w fun vs => K (v :: vs)
   | _ => False
def resV : List Value → Value
 | [v] => v
 | vs => .tuple vs.toArray
def KR (P : Program) (tk : TypeId → RK) (rs : List ResultVar) (R : Value → World → Prop) (x : Exit) (e : Env) (w : World) : Prop :=
 match x with
 | .normal => resE P tk rs e w fun vs => R (resV vs) w
 | .ret => resE P tk rs e w fun vs => R (resV vs) w
 | _ => False
def initEnv : Nat → List Value → Env
 | _, [] => []
 | i, v :: vs => (i, v) :: initEnv (i + 1) vs
def DF (P : Program) (tk : TypeId → RK) (A : AT) (fn : Func) (args : List Value) (w : World) (R : Value → World → Prop) : Prop :=
 match fn.body with
 | some c => D P tk A c (KR P tk fn.results.toList R) (initEnv 0 args) w
 | none => False
def dfOk (fn : Func) (n : Nat) : Bool :=
 match fn.body with
 | some c => (writes c).all (fun d => Nat.blt d fn.ntmps) && Nat.ble n fn.ntmps
 | none => false
theorem get_initEnv : ∀ {vs : List Value} {i s : Nat} {v : Value}, (initEnv i vs).get s = some v → i ≤ s ∧ vs[s - i]? = some v
 | [], _, _, _, h => by cases h
 | u :: vs, i, s, v, h => by
   simp only [initEnv] at h
   rw [get_cons] at h
   by_cases hk : i = s
   · subst hk
     rw [if_pos rfl] at h
     simpa using h
   · rw [if_neg hk] at h
     obtain ⟨h1, h2⟩ := get_initEnv h
     refine ⟨by omega, ?_⟩
     rw [show s - i = (s - (i + 1)) + 1 by omega]
     simpa using h2
def resOne (tmps : Array Value) (r : ResultVar) : Sem Value :=
 match r with
 | .tmp t => pure (tmps.getD t undef)
 | .cell x t => do loadVar t (← asAddr (tmps.getD x undef))
theorem resE_sound {a : Act} : ∀ {rs : List ResultVar} {e : Env} {w : World} {K : List Value → Prop}, Agrees e a → resE P tk rs e w K →
   ∃ vs, (rs.mapM (resOne a.tmps)).run P w = .ok vs w ∧ K vs
 | [], _, _, _, _, h => ⟨[], by simp, h⟩
 | .tmp t :: r, e, w, K, hA, h => by
   simp only [resE] at h
   split at h
   · rename_i v hv
     obtain ⟨vs, hvs, hK⟩ := resE_sound hA h
     refine ⟨v :: vs, ?_, hK⟩
     have ht : a.tmps.getD t undef = v := by simp [Array.getD_eq_getD_getElem?, hA.get _ _ hv]
     simp only [List.mapM_cons, resOne, Sem.run_bind, Sem.run_pure, Result.andThen, ht]
     rw [hvs]
   · exact h.elim
 | .cell t T :: r, e, w, K, hA, h => by
   simp only [resE] at h
   split at h
   · rename_i A hv
     obtain ⟨v, hl, h⟩ := dload_sound h
     obtain ⟨vs, hvs, hK⟩ := resE_sound hA h
     refine ⟨v :: vs, ?_, hK⟩
     have ht : a.tmps.getD t undef = .pointer (some A) := by simp [Array.getD_eq_getD_getElem?, hA.get _ _ hv]
     have hl' : (loadVar T A).run P w = .ok v w := by simpa [Instr.loadAt, Instr.sureAddr] using hl
     simp only [List.mapM_cons, resOne, Sem.run_bind, Sem.run_pure, Result.andThen, ht, asAddr, hl']
     rw [hvs]
   · exact h.elim
theorem results_run {fn : Func} {tmps : Array Value} {w : World} {vs : List Value}
   (h : (fn.results.toList.mapM (resOne tmps)).run P w = .ok vs w) :
   (results fn tmps).run P w = .ok (resV vs) w := by
 have e1 : results fn tmps = (do let vs ← fn.results.mapM (resOne tmps); pure (if h : vs.size = 1 then vs[0] else .tuple vs)) := rfl
 rw [e1, Array.mapM_eq_mapM_toList]
 simp only [Sem.run_bind, Sem.run_map]
 rw [h]
 simp only [Result.andThen, Sem.run_pure]
 congr 1
 match vs with
 | [] => rfl
 | [v] => rfl
 | u :: v :: vs => simp [resV]
theorem calls_of_DF {f : FuncId} {fn : Func} {A : AT} {args : List Value} {w : World} {R : Value → World → Prop} (hm : P.follows .mixedOrders = true)
   (hf : P.funcs[f]? = some fn) (hok : dfOk fn args.length = true) (h : DF P tk A fn args w R) :
   Calls P f args.toArray w fun e w' => ∃ v, e = .returned v ∧ R v w' := by
 unfold DF at h
 unfold dfOk at hok
 cases hbd : fn.body with
 | none => rw [hbd] at h; exact h.elim
 | some c =>
   rw [hbd] at h hok
   simp only [Bool.and_eq_true] at h hok
   obtain ⟨hw, hn⟩ := hok
   have hn' := Nat.le_of_ble_eq_true hn
   refine calls_of_wp hf hbd ?_
   have hsz : (args.toArray ++ Array.replicate (fn.ntmps - args.toArray.size) undef).size = fn.ntmps := by simp; omega
   have hA : Agrees (initEnv 0 args) { tmps := args.toArray ++ Array.replicate (fn.ntmps - args.toArray.size) undef, defers := [] } := by
     constructor
     intro s v hs
     obtain ⟨_, h2⟩ := get_initEnv hs
     simp only [Nat.sub_zero] at h2
     have hlt : s < args.length := (List.getElem?_eq_some_iff.1 h2).1
     simp [Array.getElem?_append, hlt]
     rw [List.getElem?_eq_getElem hlt] at h2
     exact Option.some.inj h2
   refine wp_post (D_sound hm A c _ _ _ w hA (fun d hd => ?_) h) ?_
   · have h1 := List.all_eq_true.1 hw d hd
     have h2 := Nat.le_of_ble_eq_true h1
     show d < (args.toArray ++ Array.replicate (fn.ntmps - args.toArray.size) undef).size
     rw [hsz]
     omega
   · rintro x a' w' ⟨hk, e', hA', hK⟩
     have hd : a'.defers = [] := hk.defers
     cases x with
     | normal =>
       obtain ⟨vs, hvs, hR⟩ := resE_sound hA' hK
       exact ⟨hd, _, results_run hvs, _, rfl, hR⟩
     | ret =>
       obtain ⟨vs, hvs, hR⟩ := resE_sound hA' hK
       exact ⟨hd, _, results_run hvs, _, rfl, hR⟩
     | exit id => exact hK.elim
     | goto l => exact hK.elim
     | panic ch => exact hK.elim
     | outgrown => exact hK.elim
end
end Gx
namespace Gx
open Go Go.ChangeShapes Go.WideShapes Go.ChangeAt Go.RowKit
def okT (P : Program) (w : World) : Nat → TypeId → List Value → Prop
 | 0, _, _ => False
 | fuel + 1, t, cs =>
   match P.underlying t with
   | some .bool => ∃ b : Bool, cs = [.bool b]
   | some (.int k) => ∃ n : Int, cs = [.int k n] ∧ k.min ≤ n ∧ n ≤ k.max
   | some .string => ∃ s : ByteArray, cs = [.string s] ∧ s.size ≤ maxLen
   | some (.slice e) => ∃ s : Sl, cs = [.slice s.a s.len s.cap] ∧ s.len ≤ s.cap ∧ s.cap ≤ maxLen ∧ (s.a = none → s.cap = 0) ∧
       ∀ a, s.a = some a → ∀ i, i < s.cap → ∃ vs, rdCells w (a.add (i * P.cellsOf e)) 0 (P.cellsOf e) = some vs ∧ okT P w fuel e vs
   | some (.struct fs) => cs.length = P.cellsOf t ∧ ∀ f ∈ fs, okT P w fuel f.type ((cs.drop f.offset).take (P.cellsOf f.type))
   | some (.array n e) => cs.length = P.cellsOf t ∧ ∀ i, i < n → okT P w fuel e ((cs.drop (i * P.cellsOf e)).take (P.cellsOf e))
   | some (.pointer e) => cs = [.pointer none] ∨ ∃ a vs, cs = [.pointer (some a)] ∧ rdCells w a 0 (P.cellsOf e) = some vs ∧ okT P w fuel e vs
   | _ => True
theorem mapM_some {α β : Type} {f : α → Option β} : ∀ {l : List α} {r : List β}, l.mapM f = some r → ∀ x ∈ l, ∃ y, f x = some y
 | [], _, _, _, hx => by cases hx
 | a :: l, r, h, x, hx => by
   simp only [List.mapM_cons] at h
   cases ha : f a with
   | none => simp [ha] at h
   | some b =>
     cases hl : l.mapM f with
     | none => simp [ha, hl] at h
     | some bs =>
       rcases List.mem_cons.1 hx with rfl | hx
       · exact ⟨b, ha⟩
       · exact mapM_some hl x hx
theorem rdCells_of_range {w : World} {a : Addr} : ∀ (n i : Nat) (vs : List Value), ((List.range' i n).mapM fun j => w.cell? (a.add j)) = some vs → rdCells w a i n = some vs
 | 0, i, vs, h => by simp at h; simp [rdCells, h]
 | n + 1, i, vs, h => by
   simp only [List.range'_succ, List.mapM_cons] at h
   cases h1 : w.cell? (a.add i) with
   | none => simp [h1] at h
   | some v =>
     cases h2 : ((List.range' (i + 1) n).mapM fun j => w.cell? (a.add j)) with
     | none => simp [h1, h2] at h
     | some us =>
       simp [h1, h2] at h
       have := rdCells_of_range n (i + 1) us h2
       simp [rdCells, h1, this, h]
theorem rdCells_of_cells? {w : World} {base : Nat} {a : Addr} {n : Nat} {vs : List Value} (h : w.cells? base a n = some vs) : rdCells w a 0 n = some vs := by
 unfold World.cells? at h
 split at h
 · rw [List.range_eq_range'] at h
   exact rdCells_of_range n 0 vs h
 · cases h
section
variable {H : Type} {enc : TypeId × Value → H} {P : Program} {w : World}
theorem okT_of_trod : ∀ (fuel : Nat) (t : TypeId) (cs : List Value) (x : DataW H × List MemPlace), DataW.trod enc P w 0 (fun _ => true) true fuel t cs = some x → okT P w fuel t cs
 | 0, _, _, _, h => by cases h
 | fuel + 1, t, cs, x, h => by
   simp only [DataW.trod] at h
   simp only [okT]
   cases ht : P.underlying t with
   | none => trivial
   | some d =>
     rw [ht] at h
     cases d <;> try trivial
     case bool =>
       match cs, h with
       | [.bool b], _ => exact ⟨b, rfl⟩
     case int k =>
       match cs, h with
       | [.int k' n], h =>
         simp only at h
         split at h
         · rename_i hk
           obtain ⟨rfl, hw⟩ := hk
           exact ⟨n, rfl, by simpa [Lit.wf] using hw⟩
         · cases h
     case string =>
       match cs, h with
       | [.string s], h =>
         simp only at h
         split at h
         · rename_i hk; exact ⟨s, rfl, hk⟩
         · cases h
     case pointer e =>
       match cs, h with
       | [.pointer none], _ => exact .inl rfl
       | [.pointer (some a)], h =>
         simp only [Option.map_eq_some_iff] at h
         obtain ⟨y, hy, _⟩ := h
         obtain ⟨vs, h1, h2⟩ := Option.bind_eq_some_iff.1 hy
         exact .inr ⟨a, vs, rfl, rdCells_of_cells? h1, okT_of_trod fuel e vs _ h2⟩
     case slice e =>
       match cs, h with
       | [.slice none 0 0], _ => exact ⟨⟨none, 0, 0⟩, rfl, Nat.le_refl _, Nat.zero_le _, (fun _ => rfl), (fun a ha => by cases ha)⟩
       | [.slice (some a) len cap], h =>
         simp only at h
         split at h
         · rename_i hk
           refine ⟨⟨some a, len, cap⟩, rfl, hk.2.1, hk.2.2, (fun h0 => by cases h0), fun a' ha' i hi => ?_⟩
           obtain ⟨elems, he, h⟩ := Option.bind_eq_some_iff.1 h
           simp only [if_true, Option.map_eq_some_iff] at h
           obtain ⟨rest, hr, _⟩ := h
           cases ha'
           have key : ∃ y, ((w.cells? 0 (a.add (i * P.cellsOf e)) (P.cellsOf e)).bind (DataW.trod enc P w 0 (fun _ => true) true fuel e)) = some y := by
             rcases Nat.lt_or_ge i len with hl | hl
             · exact mapM_some he i (List.mem_range.2 hl)
             · obtain ⟨y, hy⟩ := mapM_some hr (i - len) (List.mem_range.2 (by simp only at hi; omega))
               rw [show len + (i - len) = i by omega] at hy
               exact ⟨y, hy⟩
           obtain ⟨y, hy⟩ := key
           obtain ⟨vs, h1, h2⟩ := Option.bind_eq_some_iff.1 hy
           exact ⟨vs, rdCells_of_cells? h1, okT_of_trod fuel e vs _ h2⟩
         · cases h
     case struct fs =>
       simp only at h
       split at h
       · rename_i hl
         refine ⟨hl, fun f hf => ?_⟩
         simp only [Option.map_eq_some_iff] at h
         obtain ⟨ys, hy, _⟩ := h
         obtain ⟨y, hy⟩ := mapM_some hy f (by simpa using hf)
         exact okT_of_trod fuel _ _ _ hy
       · cases h
     case array n e =>
       simp only at h
       split at h
       · rename_i hl
         refine ⟨hl, fun i hi => ?_⟩
         simp only [Option.map_eq_some_iff] at h
         obtain ⟨ys, hy, _⟩ := h
         obtain ⟨y, hy⟩ := mapM_some hy i (List.mem_range.2 hi)
         exact okT_of_trod fuel _ _ _ hy
       · cases h
def OkV (P : Program) (w : World) (t : TypeId) (v : Value) : Prop :=
 match P.underlying t with
 | some (.struct _) => ∃ cs : Array Value, v = .agg cs ∧ ∃ fuel, okT P w fuel t cs.toList
 | some (.array _ _) => ∃ cs : Array Value, v = .agg cs ∧ ∃ fuel, okT P w fuel t cs.toList
 | _ => ∃ fuel, okT P w fuel t [v]
theorem okV_of {r : Reach} {b0 : Nat} {t : TypeId} {v : Value} {d : DataW H} {ps : List MemPlace} (hval : Value.okWide P w r b0 t v)
   (hd : DataW.Trod enc P w 0 (fun _ => true) true t v d ps) : OkV P w t v := by
 obtain ⟨fuel, hd⟩ := hd
 have h1 := okT_of_trod fuel t _ _ hd
 unfold OkV
 unfold Value.okWide at hval
 have sc : (∀ cs, v ≠ .agg cs) → v.cells.toList = [v] := fun h => by cases v <;> first | rfl | exact absurd rfl (h _)
 cases ht : P.underlying t with
 | none =>
   rw [ht] at hval
   cases fuel with
   | zero => cases hd
   | succ f => exact ⟨1, by simp [okT, ht]⟩
 | some dd =>
   rw [ht] at hval
   cases dd
   case struct fs => obtain ⟨cs, rfl, _, _⟩ := hval; exact ⟨cs, rfl, fuel, h1⟩
   case array n e => obtain ⟨cs, rfl, _, _⟩ := hval; exact ⟨cs, rfl, fuel, h1⟩
   all_goals
     refine ⟨fuel, ?_⟩
     rw [← sc]
     · exact h1
     · rintro cs rfl
       simp [Cell.okWide, Cell.ok, ht] at hval
theorem below_of_chg {w w' : World} (h : Chg (fun _ => False) w w') : Below w.heap.size w w' :=
 ⟨h.os, h.tape, h.output, h.size, fun k hk => h.block k hk (fun h => h)⟩
theorem law_post {f : Func} {s : ChangeSpec} {apart fresh handsOn again : Bool} {W W' : World} {args : Array Value} {T : TypeId} {ds gs : List (DataW H)} {before pa pv : List MemPlace}
   (hW : DataW.Whole enc P f.params.toList s.vars apart W args.toList ds gs before) (hT : P.underlying T = some .bool) (hres : f.resultTypes = #[T])
   (hs : s.fn H (ds ++ gs) = { results := [.lit (.bool true)], args := ds })
   (hargs : ∀ sp : Nat → Bool, (∀ p ∈ before, sp p.block = true) → DataW.TrodAll enc P W' 0 sp true f.params.toList args.toList ds pa)
   (hvars : ∀ sp : Nat → Bool, (∀ p ∈ before, sp p.block = true) → DataW.TrodVars enc P W' sp s.vars [] pv)
   (hps : before = pa ++ pv) (hb : Chg (fun _ => False) W W') :
   s.post enc P f apart fresh handsOn again W args (.bool true) W' := by
 have hB := below_of_chg hb
 have hlt : ∀ p ∈ before, p.block < W.heap.size := fun p hp => hW.lt p hp
 have hold : ∀ p ∈ before, (fun b => decide (b < W.heap.size)) p.block = true := fun p hp => by simpa using hlt p hp
 have hr : ∀ (b : Nat) (sp : Nat → Bool) (hd : Bool), DataW.TrodAll enc P W' b sp hd f.resultTypes.toList ((Value.bool true).resultList f.resultTypes.size) (s.fn H (ds ++ gs)).results [] := by
   intro b sp hd
   rw [hs, hres]
   exact trodAll_cons_mk (shut_bool hT true) trodAll_mk0
 have ha : ∀ sp : Nat → Bool, (∀ p ∈ before, sp p.block = true) → DataW.TrodAll enc P W' 0 sp true f.params.toList args.toList (s.fn H (ds ++ gs)).args pa := by
   intro sp hsp
   rw [hs]
   exact hargs sp hsp
 have hv : ∀ sp : Nat → Bool, (∀ p ∈ before, sp p.block = true) → DataW.TrodVars enc P W' sp s.vars (s.fn H (ds ++ gs)).vars pv := by
   intro sp hsp
   rw [hs]
   exact hvars sp hsp
 refine ⟨ds, gs, before, [], pa, pv, hW, hr _ _ _, ha _ hold, hv _ hold, World.keptBut_mono (fun p hp => ⟨hp, ?_⟩) (hB.frame (· ∈ before)), fun _ => ?_⟩
 · rw [hps, List.mem_append] at hp
   exact Or.inr hp
 · obtain ⟨_, _, _, _, _, hz, hn⟩ := hW
   refine ⟨ok_one hres rfl (okWide_bool_mk hT _), _, _, ([] ++ pa) ++ pv, ⟨[] ++ pa, pv, trodAll_append (ha _ (fun _ _ => rfl)) (hr _ _ _), hv _ (fun _ _ => rfl), rfl, ?_, ?_⟩, ?_⟩
   · intro b off hp
     have hin : MemPlace.cell b off ∈ before := by rw [hps]; simpa using hp
     rw [hB.frozen (hlt _ hin)]
     exact hz b off hin
   · intro hap
     have := hn hap
     rw [hps] at this
     simpa using this
   · intro p hp _
     rw [hps]
     simpa using hp
theorem arg_stays {t : TypeId} (hl : laidOutB P = true) (hr : P.readableRec t = true) (hrow : t < P.types.size) {W W' : World} {v : Value} {d : DataW H} {ps : List MemPlace} {sp : Nat → Bool}
   (h : DataW.Trod enc P W 0 (fun _ => true) true t v d ps) (hb : Chg (fun _ => False) W W') (hlt : ∀ x ∈ ps, x.block < W.heap.size) (hs : ∀ p ∈ ps, sp p.block = true) :
   DataW.Trod enc P W' 0 sp true t v d ps :=
 WideElems.Trod_stays hl hr hrow h (fun x hx => (below_of_chg hb).same (hlt x hx)) hs
end
end Gx
namespace Gx
open Go Go.RowKit
def Ret (P : Program) (f : FuncId) (args : Array Value) (w : World) (Q : Value → World → Prop) : Prop :=
 Calls P f args w fun e w1 => ∃ v, e = .returned v ∧ Q v w1
theorem Ret.use {P : Program} {f : FuncId} {args : Array Value} {w : World} {Q : Value → World → Prop} {R : Ending → World → Prop}
   (h : Ret P f args w Q) (k : ∀ v w', Q v w' → R (.returned v) w') : Calls P f args w R :=
 Calls.mono h fun _ _ ⟨v, hv, hq⟩ => by subst hv; exact k v _ hq
theorem Ret.mono {P : Program} {f : FuncId} {args : Array Value} {w : World} {Q R : Value → World → Prop}
   (h : Ret P f args w Q) (k : ∀ v w', Q v w' → R v w') : Ret P f args w R :=
 Ret.use h fun v _ hq => ⟨v, rfl, k _ _ hq⟩
abbrev Ext (w w' : World) : Prop := Chg (fun _ => False) w w'
theorem Chg.of_ext {W : Nat → Prop} {w w' : World} (h : Ext w w') : Chg W w w' := Chg.mono h fun _ _ h => h.elim
theorem Chg.drew {W : Nat → Prop} {w w' : World} (h : Chg W w w') : Chg W w w'.drew := ⟨h.os, h.tape, h.output, h.size, h.block⟩
theorem Chg.alloc {W : Nat → Prop} {w w' : World} (h : Chg W w w') (o : Obj) : Chg W w (w'.alloc o) :=
 h.trans ⟨rfl, rfl, rfl, by simp, fun k hk _ => Below.heap_alloc _ _ _ hk⟩
theorem Chg.set {W : Nat → Prop} {w w' : World} (h : Chg W w w') {A : Addr} (hb : A.block < w.heap.size → W A.block) (v : Value) : Chg W w (w'.setCell A v) :=
 ⟨h.os, h.tape, h.output, by simp only [World.setCell, Array.size_modify]; exact h.size, fun k hk hW => by
   rw [Below.heap_setCell _ _ _ _ (fun e => hW (by subst e; exact hb hk))]; exact h.block k hk hW⟩
theorem Chg.setCells {W : Nat → Prop} {w : World} {A : Addr} (hb : A.block < w.heap.size → W A.block) : ∀ (vs : List Value) (i : Nat) {w' : World}, Chg W w w' → Chg W w (setCells w' A i vs)
 | [], _, _, h => h
 | v :: vs, i, w', h => by
   have hbl : (A.add i).block = A.block := by unfold Addr.add; split <;> rfl
   exact Chg.setCells hb vs (i + 1) (Chg.set h (by rw [hbl]; exact hb) v)
theorem add_mk (b o n : Nat) : (Addr.mk b o none).add n = ⟨b, o + n, none⟩ := by
 unfold Addr.add; split
 · rename_i h; subst h; rfl
 · rfl
def Blk (w : World) (b : Nat) (c : Array Value) (T : TypeId) : Prop := w.heap[b]? = some (.cells c T (0, 0))
section
variable {w w' : World} {b i : Nat} {c : Array Value} {T : TypeId}
theorem Blk.lt (h : Blk w b c T) : b < w.heap.size := (Array.getElem?_eq_some_iff.1 h).1
theorem Blk.cell (h : Blk w b c T) (i : Nat) : w.cell? ⟨b, i, none⟩ = c[i]? := by
 unfold Blk at h
 simp [World.cell?, h]
theorem Blk.frozen (h : Blk w b c T) (A : Addr) (hA : A.block = b) : w.frozen? A = false := by
 unfold Blk at h
 simp [World.frozen?, hA, h]
theorem Blk.chg {W : Nat → Prop} (h : Blk w b c T) (hc : Chg W w w') (hb : ¬ W b) : Blk w' b c T := by
 have hl := h.lt
 unfold Blk at h ⊢
 rw [hc.block b hl hb]; exact h
theorem Blk.ext (h : Blk w b c T) (hc : Ext w w') : Blk w' b c T := h.chg hc id
theorem Blk.drew (h : Blk w b c T) : Blk w.drew b c T := h
theorem Blk.new (w : World) (c : Array Value) (T : TypeId) : Blk (w.alloc (.cells c T)) w.heap.size c T := by
 show (w.heap.push (.cells c T))[w.heap.size]? = some (.cells c T (0, 0))
 simp
theorem Blk.set (h : Blk w b c T) (i : Nat) (v : Value) : Blk (w.setCell ⟨b, i, none⟩ v) b (c.setIfInBounds i v) T := by
 unfold Blk at h ⊢
 simp [World.setCell, Array.getElem?_modify, h]
def spl (c : Array Value) (i : Nat) : List Value → Array Value
 | [] => c
 | v :: vs => spl (c.setIfInBounds i v) (i + 1) vs
theorem spl_size : ∀ (vs : List Value) (c : Array Value) (i : Nat), (spl c i vs).size = c.size
 | [], _, _ => rfl
 | v :: vs, c, i => by simp [spl, spl_size vs]
theorem Blk.sets : ∀ (vs : List Value) {w : World} {c : Array Value} (i j : Nat), Blk w b c T → Blk (setCells w ⟨b, i, none⟩ j vs) b (spl c (i + j) vs) T
 | [], _, _, _, _, h => h
 | v :: vs, w, c, i, j, h => by
   simp only [setCells, spl, add_mk]
   have := Blk.sets vs i (j + 1) (h.set (i + j) v)
   rw [show i + (j + 1) = i + j + 1 by omega] at this
   exact this
theorem Blk.storeOk (h : Blk w b c T) (i : Nat) (vs : List Value) (hn : i + vs.length ≤ c.size) (hp : ∀ v ∈ vs, Plain v) : StoreOk w ⟨b, i, none⟩ vs := by
 refine ⟨fun j hj => ?_, hp⟩
 rw [add_mk, h.cell, h.frozen _ rfl]
 have : i + j < c.size := by omega
 simp [this]
end
theorem Jn0 {B : (World → Prop) → Prop} {rest : World → Prop} (φ : World → Prop) (h1 : ∀ k : World → Prop, (∀ w, φ w → k w) → B k) (h2 : ∀ w, φ w → rest w) : Jn B rest := ⟨h1 rest h2⟩
theorem Jn1 {τ : Type} {B : (τ → World → Prop) → Prop} {rest : τ → World → Prop} (φ : τ → World → Prop) (h1 : ∀ k : τ → World → Prop, (∀ x w, φ x w → k x w) → B k) (h2 : ∀ x w, φ x w → rest x w) : Jn B rest := ⟨h1 rest h2⟩
theorem Jn2 {τ σ : Type} {B : (τ → σ → World → Prop) → Prop} {rest : τ → σ → World → Prop} (φ : τ → σ → World → Prop) (h1 : ∀ k : τ → σ → World → Prop, (∀ x y w, φ x y w → k x y w) → B k) (h2 : ∀ x y w, φ x y w → rest x y w) : Jn B rest := ⟨h1 rest h2⟩
structure IntsAt (k : IntKind) (w : World) (s : Sl) : Prop where
 le : s.len ≤ s.cap
 cap : s.cap ≤ maxLen
 nil : s.a = none → s.cap = 0
 cell : ∀ a, s.a = some a → ∀ i, i < s.cap → ∃ n : Int, w.cell? (a.add i) = some (.int k n) ∧ k.min ≤ n ∧ n ≤ k.max
theorem rdCells_one {w : World} {A : Addr} {vs : List Value} (h : rdCells w A 0 1 = some vs) : ∃ v, vs = [v] ∧ w.cell? A = some v := by
 simp only [rdCells] at h
 rw [add_zero'] at h
 cases hc : w.cell? A with
 | none => simp [hc] at h
 | some v => simp [hc] at h; exact ⟨v, h.symm, rfl⟩
theorem IntsAt.of {P : Program} {w : World} {T e : TypeId} {k : IntKind} {v : Value} (h : OkV P w T v) (hT : P.underlying T = some (.slice e)) (he : P.underlying e = some (.int k)) (hc : P.cellsOf e = 1) :
   ∃ s : Sl, v = .slice s.a s.len s.cap ∧ IntsAt k w s := by
 simp only [OkV, hT] at h
 obtain ⟨fuel, h⟩ := h
 cases fuel with
 | zero => cases h
 | succ f =>
   simp only [okT, hT] at h
   obtain ⟨s, hv, h1, h2, h3, h4⟩ := h
   refine ⟨s, by simpa using hv, h1, h2, h3, fun a ha i hi => ?_⟩
   obtain ⟨vs, hr, hok⟩ := h4 a ha i hi
   rw [hc, Nat.mul_one] at hr
   obtain ⟨v, rfl, hv⟩ := rdCells_one hr
   cases f with
   | zero => cases hok
   | succ f =>
     simp only [okT, he] at hok
     obtain ⟨n, hn, h5, h6⟩ := hok
     simp only [List.cons.injEq, and_true] at hn
     subst hn
     exact ⟨n, hv, h5, h6⟩
theorem IntAt.of {P : Program} {w : World} {T : TypeId} {k : IntKind} {v : Value} (h : OkV P w T v) (hT : P.underlying T = some (.int k)) : ∃ n : Int, v = .int k n ∧ k.min ≤ n ∧ n ≤ k.max := by
 simp only [OkV, hT] at h
 obtain ⟨fuel, h⟩ := h
 cases fuel with
 | zero => cases h
 | succ f =>
   simp only [okT, hT] at h
   obtain ⟨n, hn, h1, h2⟩ := h
   exact ⟨n, by simpa using hn, h1, h2⟩
theorem wrapi {n : Int} (h0 : -9223372036854775808 ≤ n) (h1 : n ≤ 9223372036854775807) : IntKind.i64.wrap n = n := by
 by_cases h : 0 ≤ n
 · exact wrap64_id h h1
 · have e : n % 18446744073709551616 = n + 18446744073709551616 := by omega
   simp [IntKind.wrap, IntKind.signed, IntKind.bits, e]
   omega
end Gx
namespace Gx
open Go Go.RowKit
structure Src (sz : Nat) (w : World) (x : Sl) (xs : List Value) : Prop where
 len : xs.length = x.len * sz
 nil : x.a = none → xs = []
 rd : ∀ a, x.a = some a → rdCells w a 0 (x.len * sz) = some xs
def OwnS (sz : Nat) (T : TypeId) (w : World) (s : Sl) (vs : List Value) : Prop :=
 vs.length = s.len * sz ∧ s.len ≤ s.cap ∧ s.cap ≤ maxLen ∧
 ((s.a = none ∧ s.cap = 0) ∨ ∃ b c, s.a = some ⟨b, 0, none⟩ ∧ Blk w b c T ∧ c.size = s.cap * sz ∧ c.toList.take (s.len * sz) = vs)
def ownB (s : Sl) (k : Nat) : Prop := ∃ A, s.a = some A ∧ A.block = k
theorem rdCells_length {w : World} {A : Addr} : ∀ {n i : Nat} {vs : List Value}, rdCells w A i n = some vs → vs.length = n
 | 0, _, _, h => by simp [rdCells] at h; simp [← h]
 | n + 1, i, vs, h => by
   simp only [rdCells] at h
   cases h1 : w.cell? (A.add i) with
   | none => simp [h1] at h
   | some v =>
     cases h2 : rdCells w A (i + 1) n with
     | none => simp [h1, h2] at h
     | some us =>
       simp only [h1, h2, Option.some.injEq] at h
       subst h
       simp [rdCells_length h2]
theorem rdCells_blk {w : World} {b : Nat} {c : Array Value} {T : TypeId} (h : Blk w b c T) : ∀ (n o i : Nat), o + i + n ≤ c.size → rdCells w ⟨b, o, none⟩ i n = some ((c.toList.drop (o + i)).take n)
 | 0, o, i, _ => by simp [rdCells]
 | n + 1, o, i, hn => by
   have h1 : o + i < c.size := by omega
   have ih := rdCells_blk h n o (i + 1) (by omega)
   simp only [rdCells, add_mk, h.cell, ih]
   have h2 : c[o + i]? = some c[o + i] := by simp [h1]
   rw [h2]
   simp only [Option.some.injEq]
   have h3 : c.toList.drop (o + i) = c[o + i] :: c.toList.drop (o + i + 1) := by
     rw [List.drop_eq_getElem_cons (by simpa using h1)]
     simp
   rw [h3]
   simp [Nat.add_assoc]
theorem OwnS.src {sz : Nat} {T : TypeId} {w : World} {s : Sl} {vs : List Value} (h : OwnS sz T w s vs) : Src sz w s vs := by
 obtain ⟨h1, h2, h3, h4⟩ := h
 refine ⟨h1, fun hn => ?_, fun a ha => ?_⟩
 · rcases h4 with ⟨_, hc⟩ | ⟨b, c, hb, _⟩
   · have : s.len = 0 := by omega
     rw [this, Nat.zero_mul] at h1
     exact List.length_eq_zero_iff.1 h1
   · rw [hn] at hb; cases hb
 · rcases h4 with ⟨hn, _⟩ | ⟨b, c, hb, hblk, hs, hv⟩
   · rw [hn] at ha; cases ha
   · rw [hb] at ha
     cases ha
     have := rdCells_blk hblk (s.len * sz) 0 0 (by rw [hs]; simp; exact Nat.mul_le_mul_right _ h2)
     rw [this]
     simp [hv]
section
variable {P : Program} {w : World}
theorem run_firstCells {sz : Nat} {x : Sl} {xs : List Value} (h : Src sz w x xs) : (Builtin.firstCells sz x.len (.slice x.a x.len x.cap)).run P w = .ok xs.toArray w := by
 cases hx : x.a with
 | none => rw [h.nil hx]; rfl
 | some a =>
   simp only [Builtin.firstCells, loadCells]
   rw [run_loadCellsFrom _ _ _ _ (h.rd a hx)]
   simp
theorem growBy_le (need : Nat) : ∀ (r c : Nat), c ≤ 2 * need + 1000 → Builtin.growBy need r c ≤ 2 * need + 1000
 | 0, c, h => h
 | r + 1, c, h => by
   simp only [Builtin.growBy]
   split
   · exact h
   · exact growBy_le need r _ (by omega)
theorem nextcap_le {need cap : Nat} (h : cap < need) : Builtin.nextslicecap need cap ≤ 2 * need + 1000 := by
 unfold Builtin.nextslicecap
 split
 · omega
 · split
   · omega
   · exact growBy_le need 4 cap (by omega)
theorem run_append_fit {ats : Array TypeId} {oT sT xT e : TypeId} {d : TypeDesc} {sz : Nat} {s x : Sl} {xs : List Value} (h0 : ats[0]? = some sT) (h1 : ats[1]? = some xT)
   (hs : P.underlying sT = some (.slice e)) (hx : P.underlying xT = some (.slice e)) (he : P.underlying e = some d) (hsz : P.cellsOf e = sz) (hsrc : Src sz w x xs)
   (hfit : s.len + x.len ≤ s.cap) (hst : ∀ a, s.a = some a → StoreOk w (a.add (s.len * sz)) xs) :
   Sem.run P (Builtin.append_ ats oT #[.slice s.a s.len s.cap, .slice x.a x.len x.cap]) w =
     .ok (.slice s.a (s.len + x.len) s.cap) (match s.a with | some a => setCells w (a.add (s.len * sz)) 0 xs | none => w) := by
 have hf := run_firstCells (P := P) hsrc
 have hsz' := run_sizeOf' (w := w) he
 rw [hsz] at hsz'
 cases hsa : s.a with
 | none =>
   simp [Builtin.append_, h0, h1, run_underlying' hs, run_underlying' hx, hsz', Builtin.lenOf, hfit, hf]
 | some a =>
   have hst' := hst a hsa
   have := run_storeCells (P := P) (A := a.add (s.len * sz)) xs 0 w (by simpa using hst'.1) hst'.2
   simp [Builtin.append_, h0, h1, run_underlying' hs, run_underlying' hx, hsz', Builtin.lenOf, hfit, hf, this]
theorem run_append_grow {ats : Array TypeId} {oT sT xT e : TypeId} {i : TypeInfo} {z : Value} {sz : Nat} {s x : Sl} {xs old : List Value} (h0 : ats[0]? = some sT) (h1 : ats[1]? = some xT)
   (hs : P.underlying sT = some (.slice e)) (hx : P.underlying xT = some (.slice e)) (hi : P.info? e = some i) (hd : (P.underlying e).isSome = true) (hz : i.zero = some z) (hzs : z.cells.size = sz) (hsz : P.cellsOf e = sz)
   (hb : i.bytes ≠ 0) (hsrc : Src sz w x xs) (hold : Src sz w s old) (hfit : s.cap < s.len + x.len) (hsmall : (2 * (s.len + x.len) + 1000) * i.bytes ≤ 281474976710656) :
   ∃ (nc : Nat) (rest : List Value), s.len + x.len ≤ nc ∧ nc ≤ maxLen ∧ rest.length = (nc - (s.len + x.len)) * sz ∧
     Sem.run P (Builtin.append_ ats oT #[.slice s.a s.len s.cap, .slice x.a x.len x.cap]) w =
       .ok (.slice (some ⟨w.heap.size, 0, none⟩) (s.len + x.len) nc) (w.drew.alloc (.cells (old ++ xs ++ rest).toArray e)) := by
 obtain ⟨d, hd⟩ := cells_of _ hd
 have hsz' := run_sizeOf' (w := w) hd
 rw [hsz] at hsz'
 have hcap := nextcap_le hfit
 have hn : Builtin.nextslicecap (s.len + x.len) s.cap * i.bytes ≤ 281474976710656 := Nat.le_trans (Nat.mul_le_mul_right _ hcap) hsmall
 have hneed : s.len + x.len ≤ 281474976710656 := by
   have : s.len + x.len ≤ (2 * (s.len + x.len) + 1000) * i.bytes := by
     have := Nat.mul_le_mul_left (2 * (s.len + x.len) + 1000) (Nat.one_le_iff_ne_zero.2 hb)
     omega
   omega
 let q : Question := .appendCap (s.len + x.len) s.cap e
 let nc : Nat := q.cut (w.tape w.drawn q)
 have hq : q.forced = false := rfl
 have hnc : s.len + x.len ≤ nc := by show s.len + x.len ≤ s.len + x.len + _; omega
 have hnc2 : nc ≤ maxLen := by
   show s.len + x.len + _ % (2 ^ 63 - (s.len + x.len)) ≤ 2 ^ 63 - 1
   have := Nat.mod_lt (w.tape w.drawn q) (y := 2 ^ 63 - (s.len + x.len)) (by omega)
   omega
 have hsrcd : Src sz w.drew x xs := ⟨hsrc.len, hsrc.nil, fun a ha => by
   have := hsrc.rd a ha
   have hc : Chg (fun _ => False) w w.drew := Chg.drew (.refl _ _)
   exact hc.rdCells (by simp) _ _ _ this⟩
 have holdd : Src sz w.drew s old := ⟨hold.len, hold.nil, fun a ha => by
   have := hold.rd a ha
   have hc : Chg (fun _ => False) w w.drew := Chg.drew (.refl _ _)
   exact hc.rdCells (by simp) _ _ _ this⟩
 have hf := run_firstCells (P := P) hsrcd
 have hf2 := run_firstCells (P := P) holdd
 have hask : ∀ n (w' : World), (askRoom n).run P w' = .ok () w' := fun n w' => by unfold askRoom; split <;> rfl
 have hchoose : (choose q).run P w = .ok nc w.drew := by
   show Sem.run P (.choose q .pure) w = _
   simp only [Sem.run, hq, Bool.false_eq_true, if_false]
   rfl
 have hti := fun w : World => run_typeInfo' (w := w) hi
 refine ⟨nc, (Builtin.zeroCells z.cells (nc - (s.len + x.len))).toList, hnc, hnc2, by simp [Builtin.zeroCells, hzs], ?_⟩
 have e1 : ¬ (s.len + x.len ≤ s.cap) := by omega
 have e2 : ¬ ((s.len + x.len : Nat) : Int) > IntKind.i64.max := by
   simp [IntKind.max, IntKind.signed, IntKind.bits]; omega
 have e3 : ¬ (281474976710656 < Builtin.nextslicecap (s.len + x.len) s.cap * i.bytes) := by omega
 have e4 : ¬ Builtin.nextslicecap (s.len + x.len) s.cap * i.bytes > 2 ^ 48 := by simpa using e3
 unfold Builtin.append_
 simp only [List.getElem?_toArray, List.getElem?_cons_zero, List.getElem?_cons_succ, h0, h1, Sem.run_bind, run_underlying' hs, run_underlying' hx, Result.andThen, hsz', Builtin.lenOf, Sem.run_pure, e1, if_false, Bool.false_eq_true, hti, e2, false_and, e4, Bool.not_false, if_true]
 have hchoose' : Sem.run P (choose (.appendCap (s.len + x.len) s.cap e)) w = .ok nc w.drew := hchoose
 simp only [hchoose', hask, hf, hf2, zeroValue, hti, hz, Sem.run_bind, Result.andThen, Sem.run_pure, newRow, newObj, Sem.run]
 have hds : w.drew.heap.size = w.heap.size := rfl
 rw [hds]
 congr 1
 show w.drew.alloc _ = w.drew.alloc _
 congr 2
 simp
theorem take_spl : ∀ (vs : List Value) (c : Array Value) (i : Nat), i + vs.length ≤ c.size → (spl c i vs).toList.take (i + vs.length) = c.toList.take i ++ vs
 | [], c, i, _ => by simp [spl]
 | v :: vs, c, i, h => by
   simp only [List.length_cons] at h
   simp only [spl]
   have := take_spl vs (c.setIfInBounds i v) (i + 1) (by simpa using (by omega : i + 1 + vs.length ≤ c.size))
   rw [show i + (v :: vs).length = i + 1 + vs.length by simp; omega, this]
   have hi : i < c.size := by omega
   have h2 : (c.setIfInBounds i v).toList.take (i + 1) = c.toList.take i ++ [v] := by
     rw [List.take_succ_eq_append_getElem (by simpa using hi)]
     have h3 : (List.take i c.toList).set i v = List.take i c.toList := by
       apply List.set_eq_of_length_le
       simp only [List.length_take]
       omega
     simp [List.take_set, h3]
   rw [h2]
   simp
theorem append_own {ats : Array TypeId} {oT sT xT e : TypeId} {i : TypeInfo} {z : Value} {sz : Nat} {s x : Sl} {xs vs : List Value} (h0 : ats[0]? = some sT) (h1 : ats[1]? = some xT)
   (hs : P.underlying sT = some (.slice e)) (hx : P.underlying xT = some (.slice e)) (hi : P.info? e = some i) (hd : (P.underlying e).isSome = true) (hz : i.zero = some z) (hzs : z.cells.size = sz) (hsz : P.cellsOf e = sz)
   (hb : i.bytes ≠ 0) (hsrc : Src sz w x xs) (hown : OwnS sz e w s vs) (hp : ∀ v ∈ xs, Plain v) (hsmall : (2 * (s.len + x.len) + 1000) * i.bytes ≤ 281474976710656) :
   ∃ (s' : Sl) (w' : World), Sem.run P (Builtin.append_ ats oT #[.slice s.a s.len s.cap, .slice x.a x.len x.cap]) w = .ok (.slice s'.a s'.len s'.cap) w' ∧
     OwnS sz e w' s' (vs ++ xs) ∧ s'.len = s.len + x.len ∧ Chg (ownB s) w w' ∧ (∀ k, ownB s' k → ownB s k ∨ w.heap.size ≤ k) := by
 have hold := hown.src
 obtain ⟨g1, g2, g3, g4⟩ := hown
 by_cases hfit : s.len + x.len ≤ s.cap
 · have hst : ∀ a, s.a = some a → StoreOk w (a.add (s.len * sz)) xs := by
     intro a ha
     rcases g4 with ⟨hn, _⟩ | ⟨b, c, hbb, hblk, hcs, hv⟩
     · rw [hn] at ha; cases ha
     · rw [hbb] at ha
       cases ha
       rw [add_mk]
       refine hblk.storeOk _ _ ?_ hp
       rw [hcs, hsrc.len, Nat.zero_add, ← Nat.add_mul]
       exact Nat.mul_le_mul_right _ hfit
   obtain ⟨d, hd⟩ := cells_of _ hd
   have hrun := run_append_fit (oT := oT) h0 h1 hs hx hd hsz hsrc hfit hst
   refine ⟨⟨s.a, s.len + x.len, s.cap⟩, _, hrun, ?_, rfl, ?_, fun k hk => .inl hk⟩
   · refine ⟨by simp [g1, hsrc.len, Nat.add_mul], hfit, g3, ?_⟩
     rcases g4 with ⟨hn, hc⟩ | ⟨b, c, hbb, hblk, hcs, hv⟩
     · exact .inl ⟨hn, hc⟩
     · refine .inr ⟨b, spl c (s.len * sz) xs, hbb, ?_, by rw [spl_size]; exact hcs, ?_⟩
       · simp only [hbb, add_mk]
         have := Blk.sets (T := e) xs (0 + s.len * sz) 0 hblk
         simpa using this
       · have hle : s.len * sz + xs.length ≤ c.size := by
           rw [hcs, hsrc.len, ← Nat.add_mul]
           exact Nat.mul_le_mul_right _ hfit
         have := take_spl xs c (s.len * sz) hle
         rw [hsrc.len, ← Nat.add_mul] at this
         rw [this, hv]
   · cases hsa : s.a with
     | none => exact .refl _ _
     | some a =>
       refine Chg.setCells (fun _ => ?_) xs 0 (.refl _ _)
       exact ⟨a, hsa, by unfold Addr.add; split <;> rfl⟩
 · obtain ⟨nc, rest, hn1, hn2, hr, hrun⟩ := run_append_grow (oT := oT) h0 h1 hs hx hi hd hz hzs hsz hb hsrc hold (by omega) hsmall
   refine ⟨⟨some ⟨w.heap.size, 0, none⟩, s.len + x.len, nc⟩, _, hrun, ?_, rfl, Chg.alloc (Chg.drew (.refl _ _)) _, ?_⟩
   · refine ⟨by simp [g1, hsrc.len, Nat.add_mul], hn1, hn2, .inr ⟨w.heap.size, (vs ++ xs ++ rest).toArray, rfl, Blk.new w.drew _ _, ?_, ?_⟩⟩
     · simp [g1, hsrc.len, hr]
       rw [← Nat.add_mul, ← Nat.add_mul]
       congr 1
       omega
     · have : (vs ++ xs).length = (s.len + x.len) * sz := by simp [g1, hsrc.len, Nat.add_mul]
       show List.take ((s.len + x.len) * sz) (vs ++ xs ++ rest).toArray.toList = vs ++ xs
       rw [← this]
       exact List.take_left
   · rintro k ⟨A, hA, hk⟩
     cases hA
     exact .inr (by simpa using hk ▸ Nat.le_refl _)
end
theorem OwnS.chg {sz : Nat} {T : TypeId} {w w' : World} {s : Sl} {vs : List Value} {W : Nat → Prop} (h : OwnS sz T w s vs) (hc : Chg W w w') (hn : ∀ k, ownB s k → ¬ W k) : OwnS sz T w' s vs := by
 obtain ⟨h1, h2, h3, h4⟩ := h
 refine ⟨h1, h2, h3, ?_⟩
 rcases h4 with h4 | ⟨b, c, hb, hblk, hcs, hv⟩
 · exact .inl h4
 · exact .inr ⟨b, c, hb, hblk.chg hc (hn b ⟨_, hb, rfl⟩), hcs, hv⟩
theorem Src.chg {sz : Nat} {w w' : World} {s : Sl} {vs : List Value} {W : Nat → Prop} (h : Src sz w s vs) (hc : Chg W w w') (hn : ∀ k, ownB s k → ¬ W k) : Src sz w' s vs :=
 ⟨h.len, h.nil, fun a ha => hc.rdCells (hn _ ⟨a, ha, rfl⟩) _ _ _ (h.rd a ha)⟩
theorem OwnS.lt {sz : Nat} {T : TypeId} {w : World} {s : Sl} {vs : List Value} (h : OwnS sz T w s vs) : ∀ k, ownB s k → k < w.heap.size := by
 rintro k ⟨A, hA, rfl⟩
 obtain ⟨_, _, _, h4⟩ := h
 rcases h4 with ⟨hn, _⟩ | ⟨b, c, hb, hblk, _⟩
 · rw [hn] at hA; cases hA
 · rw [hb] at hA; cases hA; exact hblk.lt
theorem OwnS.cell {T : TypeId} {w : World} {s : Sl} {vs : List Value} (h : OwnS 1 T w s vs) {i : Nat} {v : Value} (hv : vs[i]? = some v) :
   ∃ b c, s.a = some ⟨b, 0, none⟩ ∧ Blk w b c T ∧ c.size = s.cap ∧ i < s.len ∧ i < c.size ∧ w.cell? ⟨b, i, none⟩ = some v ∧ c.toList.take s.len = vs := by
 obtain ⟨h1, h2, h3, h4⟩ := h
 have hi : i < s.len := by
   have := (List.getElem?_eq_some_iff.1 hv).1
   omega
 rcases h4 with ⟨_, hc⟩ | ⟨b, c, hb, hblk, hcs, ht⟩
 · omega
 · rw [Nat.mul_one] at hcs ht
   refine ⟨b, c, hb, hblk, hcs, hi, by omega, ?_, ht⟩
   rw [hblk.cell]
   rw [← ht, List.getElem?_take] at hv
   rw [if_pos hi] at hv
   simpa using hv
theorem OwnS.set {T : TypeId} {w : World} {s : Sl} {vs : List Value} {b i : Nat} (h : OwnS 1 T w s vs) (hb : s.a = some ⟨b, 0, none⟩) (v : Value) :
   OwnS 1 T (w.setCell ⟨b, i, none⟩ v) s (vs.set i v) := by
 obtain ⟨h1, h2, h3, h4⟩ := h
 refine ⟨by simpa using h1, h2, h3, .inr ?_⟩
 rcases h4 with ⟨hn, _⟩ | ⟨b', c, hb', hblk, hcs, ht⟩
 · rw [hn] at hb; cases hb
 · rw [hb] at hb'
   cases hb'
   refine ⟨b, _, hb, hblk.set i v, by simpa using hcs, ?_⟩
   rw [← ht]
   simp [List.take_set]
def appTB (P : Program) (sT e : TypeId) (sz bytes : Nat) : Bool :=
 match P.underlying sT, P.info? e, P.underlying e with
 | some (.slice e'), some i, some _ => e' == e && (match i.zero with | some z => z.cells.size == sz | none => false) && P.cellsOf e == sz && i.bytes == bytes && bytes != 0
 | _, _, _ => false
structure AppT (P : Program) (sT e : TypeId) (sz bytes : Nat) : Prop where
 h : appTB P sT e sz bytes = true
theorem AppT.out {P : Program} {sT e : TypeId} {sz bytes : Nat} (h : AppT P sT e sz bytes) :
   P.underlying sT = some (.slice e) ∧ ∃ i z, P.info? e = some i ∧ (P.underlying e).isSome = true ∧ i.zero = some z ∧ z.cells.size = sz ∧ P.cellsOf e = sz ∧ i.bytes = bytes ∧ bytes ≠ 0 := by
 have h := h.h
 unfold appTB at h
 split at h
 · rename_i e' i d h1 h2 h3
   simp only [Bool.and_eq_true, beq_iff_eq, bne_iff_ne] at h
   obtain ⟨⟨⟨⟨rfl, h4⟩, h5⟩, h6⟩, h7⟩ := h
   split at h4
   · rename_i z hz
     exact ⟨h1, i, z, h2, by simp [h3], hz, by simpa using h4, h5, h6, h7⟩
   · cases h4
 · cases h
theorem AppT.append {P : Program} {w : World} {sT e oT : TypeId} {sz bytes : Nat} {s x : Sl} {xs vs : List Value} (h : AppT P sT e sz bytes)
   (hsrc : Src sz w x xs) (hown : OwnS sz e w s vs) (hp : ∀ v ∈ xs, Plain v) (hsmall : (2 * (s.len + x.len) + 1000) * bytes ≤ 281474976710656) :
   ∃ (s' : Sl) (w' : World), Sem.run P (Builtin.append_ #[sT, sT] oT #[.slice s.a s.len s.cap, .slice x.a x.len x.cap]) w = .ok (.slice s'.a s'.len s'.cap) w' ∧
     OwnS sz e w' s' (vs ++ xs) ∧ s'.len = s.len + x.len ∧ Chg (ownB s) w w' ∧ (∀ k, ownB s' k → ownB s k ∨ w.heap.size ≤ k) := by
 obtain ⟨h1, i, z, h2, h3, h4, h5, h6, rfl, h8⟩ := h.out
 exact append_own rfl rfl h1 h1 h2 h3 h4 h5 h6 h8 hsrc hown hp hsmall
theorem Src.new {sz : Nat} {T : TypeId} (w : World) (xs : List Value) (n : Nat) (hn : xs.length = n * sz) : Src sz (w.alloc (.cells xs.toArray T)) ⟨some ⟨w.heap.size, 0, none⟩, n, n⟩ xs := by
 refine ⟨hn, (fun h => by cases h), fun a ha => ?_⟩
 cases ha
 rw [rdCells_blk (Blk.new w xs.toArray T) _ _ _ (by simp [hn])]
 simp [← hn]
theorem OwnS.new {sz : Nat} {T : TypeId} (w : World) (xs : List Value) (n : Nat) (hn : xs.length = n * sz) (hm : n ≤ maxLen) : OwnS sz T (w.alloc (.cells xs.toArray T)) ⟨some ⟨w.heap.size, 0, none⟩, n, n⟩ xs := by
 refine ⟨hn, Nat.le_refl _, hm, .inr ⟨_, _, rfl, Blk.new w _ _, by simp [hn], ?_⟩⟩
 show List.take (n * sz) xs = xs
 rw [← hn, List.take_length]
theorem OwnS.none (sz : Nat) (T : TypeId) (w : World) : OwnS sz T w ⟨.none, 0, 0⟩ [] := ⟨by simp, Nat.le_refl _, by decide, .inl ⟨rfl, rfl⟩⟩
theorem ownB_none (k : Nat) : ¬ ownB ⟨.none, 0, 0⟩ k := by rintro ⟨A, hA, _⟩; cases hA
theorem ownB_some {A : Addr} {n m k : Nat} : ownB ⟨some A, n, m⟩ k ↔ A.block = k := ⟨fun ⟨B, hB, h⟩ => by cases hB; exact h, fun h => ⟨_, rfl, h⟩⟩
theorem Src.alloc {sz : Nat} {w : World} {s : Sl} {vs : List Value} (h : Src sz w s vs) (o : Obj) : Src sz (w.alloc o) s vs := h.chg (W := fun _ => False) (Chg.alloc (.refl _ _) o) (fun _ _ h => h)
theorem OwnS.ext {sz : Nat} {T : TypeId} {w w' : World} {s : Sl} {vs : List Value} (h : OwnS sz T w s vs) (hc : Ext w w') : OwnS sz T w' s vs := h.chg hc fun _ _ h => h
theorem Src.ext {sz : Nat} {w w' : World} {s : Sl} {vs : List Value} (h : Src sz w s vs) (hc : Ext w w') : Src sz w' s vs := h.chg hc fun _ _ h => h
theorem AppT.push {P : Program} {w : World} {sT e oT : TypeId} {sz bytes : Nat} {s : Sl} {vs xs : List Value} (h : AppT P sT e sz bytes) (hx : xs.length = sz)
   (hown : OwnS sz e w s vs) (hp : ∀ v ∈ xs, Plain v) (hsmall : (2 * (s.len + 1) + 1000) * bytes ≤ 281474976710656) :
   ∃ (s' : Sl) (w' : World), Sem.run P (Builtin.append_ #[sT, sT] oT #[.slice s.a s.len s.cap, .slice (some ⟨w.heap.size, 0, none⟩) 1 1]) (w.alloc (.cells xs.toArray e)) = .ok (.slice s'.a s'.len s'.cap) w' ∧
     OwnS sz e w' s' (vs ++ xs) ∧ s'.len = s.len + 1 ∧ Chg (ownB s) w w' ∧ (∀ k, ownB s' k → ownB s k ∨ w.heap.size ≤ k) := by
 have hc : Ext w (w.alloc (.cells xs.toArray e)) := Chg.alloc (.refl _ _) _
 obtain ⟨s', w', h1, h2, h3, h4, h5⟩ := h.append (oT := oT) (Src.new (T := e) w xs 1 (by simpa using hx)) (hown.ext hc) hp hsmall
 exact ⟨s', w', h1, h2, h3, (Chg.of_ext hc).trans h4, fun k hk => (h5 k hk).imp id (fun h => by simp at h; omega)⟩
theorem AppT.clone {P : Program} {w : World} {sT e oT : TypeId} {sz bytes : Nat} {x : Sl} {xs : List Value} (h : AppT P sT e sz bytes)
   (hsrc : Src sz w x xs) (hp : ∀ v ∈ xs, Plain v) (hsmall : (2 * x.len + 1000) * bytes ≤ 281474976710656) :
   ∃ (s' : Sl) (w' : World), Sem.run P (Builtin.append_ #[sT, sT] oT #[.slice (some ⟨w.heap.size, 0, none⟩) 0 0, .slice x.a x.len x.cap]) (w.alloc (.cells #[] e)) = .ok (.slice s'.a s'.len s'.cap) w' ∧
     OwnS sz e w' s' xs ∧ s'.len = x.len ∧ Ext w w' ∧ (∀ k, ownB s' k → w.heap.size ≤ k) ∧ s'.a.isSome = true := by
 have hown := OwnS.new (sz := sz) (T := e) w [] 0 (by simp) (by decide)
 have hsrc' := hsrc.alloc (.cells #[] e)
 obtain ⟨s', w', h1, h2, h3, h4, h5⟩ := h.append (oT := oT) hsrc' hown hp (by simpa using hsmall)
 refine ⟨s', w', h1, by simpa using h2, by simpa using h3, ?_, fun k hk => ?_, ?_⟩
 · refine ⟨h4.os.trans rfl, h4.tape.trans rfl, h4.output.trans rfl, ?_, fun k hk _ => ?_⟩
   · have := h4.size; simp at this; omega
   · rw [h4.block k (by simp; omega) (by rintro ⟨A, hA, h⟩; cases hA; simp at h; omega)]
     exact Below.heap_alloc _ _ _ hk
 · rcases h5 k hk with ⟨A, hA, h⟩ | h
   · cases hA; simp at h; omega
   · simp at h; omega
 · obtain ⟨_, i, z, h2', h3', h4', h5', h6', rfl, h8⟩ := h.out
   have hb := h2.2.2.2
   rcases hb with ⟨hn, hc⟩ | ⟨b, c, hb, _⟩
   · -- an empty copy keeps the row it began with
     exfalso
     have hl := h2.2.1
     have hx0 : x.len = 0 := by simp at h3; omega
     have hxs : xs = [] := List.length_eq_zero_iff.1 (by rw [hsrc.len, hx0, Nat.zero_mul])
     obtain ⟨d, hd⟩ := cells_of _ h3'
     have := run_append_fit (P := P) (w := w.alloc (.cells #[] e)) (ats := #[sT, sT]) (oT := oT) (s := ⟨some ⟨w.heap.size, 0, Option.none⟩, 0, 0⟩) rfl rfl h.out.1 h.out.1 hd h6' hsrc' (by simp [hx0]) (fun a _ => by
       rw [hxs]; exact ⟨fun i hi => by simp at hi, fun v hv => by simp at hv⟩)
     rw [this] at h1
     simp only [Result.ok.injEq, Value.slice.injEq] at h1
     rw [hn] at h1
     cases h1.1.1
   · rw [hb]; rfl
theorem IntsAt.src {k : IntKind} {w : World} {s : Sl} (h : IntsAt k w s) : ∃ ns : List Int, ns.length = s.len ∧ (∀ n ∈ ns, k.min ≤ n ∧ n ≤ k.max) ∧ Src 1 w s (ns.map (.int k)) := by
 obtain ⟨hle, hcap, hnil, hcell⟩ := h
 cases ha : s.a with
 | none =>
   have hn := hnil ha
   exact ⟨[], by simp; omega, by simp, by simp; omega, fun _ => rfl, (fun a h => by rw [ha] at h; cases h)⟩
 | some A =>
   have key : ∀ n i, i + n ≤ s.cap → ∃ ns : List Int, ns.length = n ∧ (∀ n ∈ ns, k.min ≤ n ∧ n ≤ k.max) ∧ rdCells w A i n = some (ns.map (.int k)) := by
     intro n
     induction n with
     | zero => intro i _; exact ⟨[], rfl, by simp, rfl⟩
     | succ n ih =>
       intro i hi
       obtain ⟨ns, h1, h2, h3⟩ := ih (i + 1) (by omega)
       obtain ⟨v, h4, h5, h6⟩ := hcell A ha i (by omega)
       refine ⟨v :: ns, by simp [h1], ?_, by simp [rdCells, h4, h3]⟩
       intro x hx
       rcases List.mem_cons.1 hx with rfl | hx
       · exact ⟨h5, h6⟩
       · exact h2 x hx
   obtain ⟨ns, h1, h2, h3⟩ := key s.len 0 (by omega)
   exact ⟨ns, h1, h2, by simp [h1], (fun h => by rw [ha] at h; cases h), (fun a h => by rw [ha] at h; cases h; simpa using h3)⟩
theorem OwnS.at {T : TypeId} {w : World} {s : Sl} {vs : List Value} (h : OwnS 1 T w s vs) {i : Nat} {v : Value} (hv : vs[i]? = some v) :
   ∃ A : Addr, s.a = some A ∧ ((0 : Int) ≤ (i : Int) ∧ (i : Int) < ((s.len : Nat) : Int)) ∧ w.cell? (A.add (Int.toNat (i : Int) * 1)) = some v ∧ w.frozen? (A.add (Int.toNat (i : Int) * 1)) = false ∧
     ownB s (A.add (Int.toNat (i : Int) * 1)).block ∧ ∀ v', OwnS 1 T (w.setCell (A.add (Int.toNat (i : Int) * 1)) v') s (vs.set i v') := by
 obtain ⟨b, c, hb, hblk, hcs, hi, hic, hc, _⟩ := h.cell hv
 have ha : (Addr.mk b 0 Option.none).add (Int.toNat (i : Int) * 1) = ⟨b, i, Option.none⟩ := by rw [Nat.mul_one, Int.toNat_natCast, add_mk, Nat.zero_add]
 exact ⟨_, hb, ⟨by omega, by omega⟩, by rw [ha]; exact hc, by rw [ha]; exact hblk.frozen _ rfl, by rw [ha]; exact ⟨_, hb, rfl⟩, fun v' => by rw [ha]; exact h.set hb v'⟩
end Gx
namespace Gx
open Go Go.RowKit
def bstr (ns : List Int) : ByteArray := ns.foldl (fun r n => r.push (UInt8.ofNat n.toNat)) ByteArray.empty
theorem run_conv_bytes {P : Program} {w : World} {src dst e : TypeId} {s : Sl} {ns : List Int} (hs : P.underlying src = some (.slice e)) (he : P.underlying e = some (.int .u8)) (hd : P.underlying dst = some .string)
   (h : Src 1 w s (ns.map (.int .u8))) : Sem.run P (convert src dst (.slice s.a s.len s.cap)) w = .ok (.string (bstr ns)) w := by
 rw [run_convert_bytes_string w src dst e s.a s.len s.cap hs he hd]
 cases ha : s.a with
 | none =>
   have := h.nil ha
   have hn : ns = [] := by simpa using this
   subst hn
   rfl
 | some A =>
   have hr := h.rd A ha
   rw [Nat.mul_one] at hr
   exact run_bytesToString w A s.len s.cap ns (by
     unfold loadCells
     rw [run_loadCellsFrom _ _ _ _ hr]
     simp)
theorem zrow_of {P : Program} {e : TypeId} {v : Value} (hz : ((P.info? e).bind (·.zero)).map (·.cells) = some #[v]) (hc : P.cellsOf e = 1) (n : Nat) : zrow P e n = (List.replicate n v).toArray := by
 unfold zrow
 rw [hc]
 cases hi : (P.info? e).bind (·.zero) with
 | none => rw [hi] at hz; cases hz
 | some z =>
   rw [hi] at hz
   simp only [Option.map_some, Option.some.injEq] at hz
   simp only [Option.getD_some, hz, Nat.mul_one]
   apply Array.ext
   · simp
   · intro i h1 h2
     have hn : n ≠ 0 := by
       intro h; subst h; simp at h2
     simp [hn, Nat.mod_one]
section
variable {P : Program} {w : World} {T : TypeId} {fuel : Nat} {cs : List Value}
end
theorem rdCells_get {w : World} {A : Addr} : ∀ {n i : Nat} {vs : List Value} {j : Nat} {v : Value}, rdCells w A i n = some vs → vs[j]? = some v → w.cell? (A.add (i + j)) = some v
 | 0, i, vs, j, v, h, hv => by simp [rdCells] at h; subst h; simp at hv
 | n + 1, i, vs, j, v, h, hv => by
   simp only [rdCells] at h
   cases h1 : w.cell? (A.add i) with
   | none => simp [h1] at h
   | some u =>
     cases h2 : rdCells w A (i + 1) n with
     | none => simp [h1, h2] at h
     | some us =>
       simp only [h1, h2, Option.some.injEq] at h
       subst h
       cases j with
       | zero => simp at hv; subst hv; exact h1
       | succ j =>
         have := rdCells_get h2 (j := j) (by simpa using hv)
         rw [show i + (j + 1) = i + 1 + j by omega]
         exact this
theorem Src.at {w : World} {s : Sl} {vs : List Value} (h : Src 1 w s vs) {i : Nat} {v : Value} (hv : vs[i]? = some v) :
   ∃ A : Addr, s.a = some A ∧ ((0 : Int) ≤ (i : Int) ∧ (i : Int) < ((s.len : Nat) : Int)) ∧ w.cell? (A.add (Int.toNat (i : Int) * 1)) = some v := by
 have hi : i < vs.length := (List.getElem?_eq_some_iff.1 hv).1
 have hl := h.len
 cases ha : s.a with
 | none => have := h.nil ha; subst this; simp at hi
 | some A =>
   have := rdCells_get (h.rd A ha) hv
   exact ⟨A, rfl, ⟨by omega, by omega⟩, by rw [Nat.mul_one, Int.toNat_natCast]; simpa using this⟩
end Gx
namespace Gx
open Go Go.RowKit
theorem wr8 {n : Int} (h0 : 0 ≤ n) (h1 : n ≤ 255) : IntKind.u8.wrap n = n := by
 simp only [IntKind.wrap, IntKind.signed, IntKind.bits]; simp; omega
theorem wr32 {n : Int} (h0 : 0 ≤ n) (h1 : n ≤ 4294967295) : IntKind.u32.wrap n = n := by
 simp only [IntKind.wrap, IntKind.signed, IntKind.bits]; simp; omega
theorem wr64 {n : Int} (h0 : 0 ≤ n) (h1 : n ≤ 18446744073709551615) : IntKind.u64.wrap n = n := by
 simp only [IntKind.wrap, IntKind.signed, IntKind.bits]; simp; omega
theorem wr8m (n : Int) : IntKind.u8.wrap n = n % 256 := by
 simp only [IntKind.wrap, IntKind.signed, IntKind.bits]; simp
def S (l : List UInt8) : ByteArray := ⟨l.toArray⟩
theorem S_toList (l : List UInt8) : (S l).toList = l := ByteArray.toList_mk l
theorem S_beq (a b : List UInt8) : (ByteArray.toList (S a) == ByteArray.toList (S b)) = (a == b) := by rw [S_toList, S_toList]
theorem bstr_eq (ns : List Int) : bstr ns = S (ns.map fun n => UInt8.ofNat n.toNat) := by
 have h : ∀ (ns : List Int) (r : List UInt8), ns.foldl (fun r n => r.push (UInt8.ofNat n.toNat)) (S r) = S (r ++ ns.map fun n => UInt8.ofNat n.toNat) := by
   intro ns
   induction ns with
   | nil => intro r; simp
   | cons n ns ih =>
     intro r
     have e : (S r).push (UInt8.ofNat n.toNat) = S (r ++ [UInt8.ofNat n.toNat]) := by
       apply ByteArray.ext
       simp [S, ByteArray.push]
     simp only [List.foldl_cons, e, ih, List.map_cons, List.append_assoc, List.cons_append, List.nil_append]
 exact h ns []
theorem add_add (A : Addr) (n m : Nat) : (A.add n).add m = A.add (n + m) := by
 unfold Addr.add
 by_cases h1 : n = 0
 · subst h1; simp
 · by_cases h2 : m = 0
   · subst h2; simp
   · rw [if_neg h1, if_neg h2, if_neg (by omega)]
     simp [Nat.add_assoc]
section
variable {w w' : World} {b m i : Nat} {T : TypeId} {f : Nat → Int}
theorem Chg.cellB {w0 w : World} {b i : Nat} (h : Chg (fun q => q = b) w0 w) (v : Value) : Chg (fun q => q = b) w0 (w.setCell ⟨b, i, none⟩ v) := Chg.set h (fun _ => rfl) v
theorem Chg.setsB {w0 w : World} {b i : Nat} (h : Chg (fun q => q = b) w0 w) (vs : List Value) (j : Nat) : Chg (fun q => q = b) w0 (Gx.setCells w ⟨b, i, none⟩ j vs) := Chg.setCells (W := fun q => q = b) (A := ⟨b, i, none⟩) (fun _ => rfl) vs j h
end
theorem cut_some {b o : Nat} {z l m : Nat} (h : m ≠ l) : cutA (some (Addr.mk b o none)) z l m = some ⟨b, o + l * z, none⟩ := by
 simp [cutA, h, add_mk]
theorem Ext.trans {a b c : World} (h1 : Ext a b) (h2 : Ext b c) : Ext a c := Chg.trans h1 h2
theorem Ext.of_new {w0 w1 w2 : World} {W : Nat → Prop} (h1 : Ext w0 w1) (h2 : Chg W w1 w2) (h : ∀ k, W k → w0.heap.size ≤ k) : Ext w0 w2 :=
 ⟨h2.os.trans h1.os, h2.tape.trans h1.tape, h2.output.trans h1.output, Nat.le_trans h1.size h2.size, fun k hk _ => by
   rw [h2.block k (Nat.lt_of_lt_of_le hk h1.size) (fun hW => by have := h k hW; omega), h1.block k hk id]⟩
end Gx
