/- The wp-calculator, second part: lists of operations with guards. -/
import Derived.Test.YtgljoledlhmhnaaGreatDoorGx
namespace Gx
open Go

inductive An where
  | run
  | split (n : Nat)
  | pure (n : Nat)
  | ent (ks : List Kd)

/-- A value that an operation yields whatever the world is. -/
def pv (P : Program) (o : Oper) (e : Env) : Option Value :=
  match o.op with
  | .move x => ev e x
  | .assign x => ev e x
  | .unOp .not _ x => match ev e x with
    | some (.bool b) => some (.bool (!b))
    | _ => none
  | .binOp op T x y _ => match ev e y with
    | some (.int k' b) => match ev e x with
      | some (.int k a) => bif kEq k k' then
          match op with
          | .add => some (.int k (k.wrap (a + b)))
          | .sub => some (.int k (k.wrap (a - b)))
          | .mul => some (.int k (k.wrap (a * b)))
          | .quo => match b with
            | .ofNat (.succ m) => some (.int k (k.wrap (a.tdiv (.ofNat (.succ m)))))
            | _ => none
          | .rem => match b with
            | .ofNat (.succ m) => some (.int k (a.tmod (.ofNat (.succ m))))
            | _ => none
          | .and => some (.int k (k.wrap (BitVec.ofInt k.bits a &&& BitVec.ofInt k.bits b).toNat))
          | .or => some (.int k (k.wrap (BitVec.ofInt k.bits a ||| BitVec.ofInt k.bits b).toNat))
          | .eql => some (.bool (a == b))
          | .neq => some (.bool (a != b))
          | .lss => some (.bool (a < b))
          | .leq => some (.bool (a ≤ b))
          | .gtr => some (.bool (a > b))
          | .geq => some (.bool (a ≥ b))
          | _ => none
        else none
      | _ => none
    | some (.bool b) => match ev e x with
      | some (.bool a) => match P.underlying T with
        | some .bool => match op with
          | .eql => some (.bool (a == b))
          | .neq => some (.bool (!(a == b)))
          | _ => none
        | _ => none
      | _ => none
    | some (.string b) => match ev e x with
      | some (.string a) => match op with
        | .eql => some (.bool (a.toList == b.toList))
        | .neq => some (.bool (!(a.toList == b.toList)))
        | _ => none
      | _ => none
    | some (.pointer none) => match ev e x with
      | some (.pointer p) => bif isPtrT (P.underlying T) then match op with
          | .eql => some (.bool p.isNone)
          | .neq => some (.bool (!p.isNone))
          | _ => none
        else none
      | _ => none
    | some (.slice none _ _) => match ev e x with
      | some (.slice p _ _) => bif isSliceT (P.underlying T) then match op with
          | .eql => some (.bool p.isNone)
          | .neq => some (.bool (!p.isNone))
          | _ => none
        else none
      | _ => none
    | _ => none
  | .convert s d x => match ev e x with
    | some (.int _ n) => match P.underlying d with
      | some (.int k) => bif (P.underlying s).isSome then some (.int k (k.wrap n)) else none
      | _ => none
    | _ => none
  | .call { callee := .builtin .len, args := args, argTypes := ats } => match args[0]?, ats[0]? with
    | some x, some T => match ev e x, P.underlying T with
      | some (.slice _ n _), some (.slice _) => some (.int .i64 n)
      | some (.string s), some .string => some (.int .i64 s.size)
      | _, _ => none
    | _, _ => none
  | .call { callee := .builtin .cap, args := args, argTypes := ats } => match args[0]?, ats[0]? with
    | some x, some T => match ev e x, P.underlying T with
      | some (.slice _ _ c), some (.slice _) => some (.int .i64 c)
      | _, _ => none
    | _, _ => none
  | _ => none

def gval (ops : Array Oper) (e : Env) (j : Nat) : Option Value := ((ops[j]?).bind (·.dst)).bind e.get
def gslot (ops : Array Oper) (j : Nat) : Option Nat := (ops[j]?).bind (·.dst)

/-- The value of a 'pick' whose test is decided. -/
def pickK (o : Oper) (e : Env) (K : Bool → Prop) : Prop :=
  match o.guard with
  | none => match o.op with
    | .pick x y z => match ev e x with
      | some (.bool b) => match ev e (bif b then y else z) with
        | some (.bool r) => K r
        | _ => False
      | _ => False
    | _ => False
  | some _ => False

/-- The guard's outcome: run, skip, or not known. -/
def guardK (ops : Array Oper) (o : Oper) (e : Env) (run skip : Prop) : Prop :=
  match o.guard with
  | none => run
  | some (j, want) => match gval ops e j with
    | none => False
    | some (.bool b) => bif Bool.xor b want then skip else run
    | some _ => skip

def guardV {α : Type} (ops : Array Oper) (o : Oper) (e : Env) (run skip : Option α) : Option α :=
  match o.guard with
  | none => run
  | some (j, want) => match gval ops e j with
    | none => none
    | some (.bool b) => bif Bool.xor b want then skip else run
    | some _ => skip

def pickV (o : Oper) (e : Env) : Option Bool :=
  match o.op with
  | .pick x y z => match ev e x with
    | some (.bool b) => match ev e (bif b then y else z) with
      | some (.bool r) => some r
      | _ => none
    | _ => none
  | _ => none

/-- The guard of a group, and its slot: known as a Bool. -/
def grpK (ops : Array Oper) (o : Oper) (e : Env) : Option (Nat × Bool) :=
  match o.guard with
  | none => none
  | some (j, _) => match gslot ops j with
    | none => none
    | some s => match e.get s with
      | some (.bool c) => some (s, c)
      | _ => none

def wantedPick (ops : Array Oper) (o : Oper) (e : Env) : Bool :=
  match o.guard with
  | none => true
  | some (j, want) => match gval ops e j with
    | some (.bool b) => !(Bool.xor b want)
    | _ => false

def disj (e : Env) (ds : List Nat) : Bool := e.all fun p => !(ds.any fun d => Nat.beq d p.1)

def dsts (l : List Oper) : List Nat := l.filterMap (·.dst)

/-- Operations that yield whatever the world is; groups under a test that is not decided are worked out both ways. -/
def PV (P : Program) (ops : Array Oper) : Nat → List Oper → List An → Env → Option Env
  | 0, _, _, _ => none
  | _ + 1, [], _, e => some e
  | n + 1, o :: rest, .pure m :: as, e =>
    match grpK ops o e, rest.drop (m - 1) with
    | none, _ =>
      match guardV ops o e none (some undef) with
      | some v => PV P ops n rest as (eput o.dst v e)
      | none => none
    | some (s, c), pk :: rest' =>
      match PV P ops n (o :: rest.take (m - 1)) (.run :: as.take (m - 1)) ((s, .bool true) :: e), PV P ops n (o :: rest.take (m - 1)) (.run :: as.take (m - 1)) ((s, .bool false) :: e) with
      | some e1, some e2 =>
        match pickV pk e1, pickV pk e2 with
        | some r1, some r2 => bif wantedPick ops pk e && disj e (dsts (o :: rest.take (m - 1))) then PV P ops n rest' (as.drop m) (eput pk.dst (.bool (cond c r1 r2)) e) else none
        | _, _ => none
      | _, _ => none
    | _, _ => none
  | n + 1, o :: rest, _ :: as, e =>
    match guardV ops o e (pv P o e) (some undef) with
    | some v => PV P ops n rest as (eput o.dst v e)
    | none => none
  | n + 1, o :: rest, [], e =>
    match guardV ops o e (pv P o e) (some undef) with
    | some v => PV P ops n rest [] (eput o.dst v e)
    | none => none

/-- Where ways meet: the ways, and what comes behind them. (An inductive: the kernel must not unfold it.) -/
inductive Jn {α : Type} (B : α → Prop) (k : α) : Prop where
  | mk (h : B k)
theorem Jn.out {α : Type} {B : α → Prop} {k : α} (h : Jn B k) : B k := by cases h with | mk h => exact h

/-- A map's entry, of known kinds. -/
def DEnt (P : Program) (ks : List Kd) (o : Oper) (K : Value → World → Prop) (e : Env) (w : World) : Prop :=
  match o.op with
  | .entry it => match ev e it with
    | some vx => exKds ks fun vs => ∃ w1, (Instr.entry vx).run P w = .ok (.tuple vs.toArray) w1 ∧ K (.tuple vs.toArray) w1
    | _ => False
  | _ => False

theorem DEnt_sound {P : Program} {ks : List Kd} {o : Oper} {K : Value → World → Prop} {e : Env} {w : World} {a : Act} (hA : Agrees e a) (h : DEnt P ks o K e w) : Runs P o a w K := by
  unfold DEnt at h
  split at h
  · rename_i it hop
    split at h
    · rename_i vx hx
      obtain ⟨v, w1, hr, hK⟩ := exKds_out h
      exact .inl ⟨_, w1, by simp [execOp, hop, hA.ev hx, hr], hK⟩
    · exact h.elim
  · exact h.elim

def DOps (P : Program) (tk : TypeId → RK) (ops : Array Oper) : Nat → List Oper → List An → (Env → World → Prop) → Env → World → Prop
  | 0, _, _, _, _, _ => False
  | _ + 1, [], _, K, e, w => K e w
  | n + 1, o :: rest, .ent ks :: as, K, e, w =>
    guardK ops o e (DEnt P ks o (fun v w' => DOps P tk ops n rest as K (eput o.dst v e) w') e w) (DOps P tk ops n rest as K (eput o.dst undef e) w)
  | n + 1, o :: rest, .pure m :: as, K, e, w =>
    match grpK ops o e, rest.drop (m - 1) with
    | none, _ => guardK ops o e False (DOps P tk ops n rest as K (eput o.dst undef e) w)
    | some (s, c), pk :: rest' =>
      match PV P ops n (o :: rest.take (m - 1)) (.run :: as.take (m - 1)) ((s, .bool true) :: e), PV P ops n (o :: rest.take (m - 1)) (.run :: as.take (m - 1)) ((s, .bool false) :: e) with
      | some e1, some e2 =>
        match pickV pk e1, pickV pk e2 with
        | some r1, some r2 => bif wantedPick ops pk e && disj e (dsts (o :: rest.take (m - 1))) then DOps P tk ops n rest' (as.drop m) K (eput pk.dst (.bool (cond c r1 r2)) e) w else False
        | _, _ => False
      | _, _ => False
    | _, _ => False
  | n + 1, o :: rest, .split m :: as, K, e, w =>
    match grpK ops o e, rest.drop (m - 1) with
    | none, _ => guardK ops o e False (DOps P tk ops n rest as K (eput o.dst undef e) w)
    | some (s, c), pk :: rest' =>
      bif wantedPick ops pk e && disj e (dsts (o :: rest.take (m - 1))) then
        Jn (fun k : Bool → World → Prop =>
            (c = true → DOps P tk ops n (o :: rest.take (m - 1)) (.run :: as.take (m - 1)) (fun e' w' => match pickV pk e' with | some r => k r w' | none => False) ((s, .bool true) :: e) w) ∧
            (c = false → DOps P tk ops n (o :: rest.take (m - 1)) (.run :: as.take (m - 1)) (fun e' w' => match pickV pk e' with | some r => k r w' | none => False) ((s, .bool false) :: e) w))
          (fun r w' => DOps P tk ops n rest' (as.drop m) K (eput pk.dst (.bool r) e) w')
      else False
    | _, _ => False
  | n + 1, o :: rest, _ :: as, K, e, w =>
    guardK ops o e (DOp P tk o (fun v w' => DOps P tk ops n rest as K (eput o.dst v e) w') e w) (DOps P tk ops n rest as K (eput o.dst undef e) w)
  | n + 1, o :: rest, [], K, e, w =>
    guardK ops o e (DOp P tk o (fun v w' => DOps P tk ops n rest [] K (eput o.dst v e) w') e w) (DOps P tk ops n rest [] K (eput o.dst undef e) w)

/-! ### Soundness -/

structure Keep (ds : List Nat) (a a' : Act) : Prop where
  defers : a'.defers = a.defers
  size : a'.tmps.size = a.tmps.size
  same : ∀ s, s ∉ ds → a'.tmps[s]? = a.tmps[s]?

theorem Keep.refl (ds : List Nat) (a : Act) : Keep ds a a := ⟨rfl, rfl, fun _ _ => rfl⟩
theorem Keep.trans {ds : List Nat} {a b c : Act} (h : Keep ds a b) (k : Keep ds b c) : Keep ds a c :=
  ⟨k.defers.trans h.defers, k.size.trans h.size, fun s hs => (k.same s hs).trans (h.same s hs)⟩
theorem Keep.mono {ds es : List Nat} {a b : Act} (h : Keep ds a b) (hs : ∀ s, s ∈ ds → s ∈ es) : Keep es a b :=
  ⟨h.defers, h.size, fun s hn => h.same s fun hm => hn (hs s hm)⟩
theorem Keep.put {a : Act} {d : Option Nat} {v : Value} {ds : List Nat} (hd : ∀ k, d = some k → k ∈ ds) : Keep ds a (a.put d v) := by
  cases d with
  | none => exact .refl _ _
  | some d => exact ⟨rfl, by simp [Act.put], fun s hs => by
      have : d ≠ s := fun h => hs (h ▸ hd d rfl)
      simp [Act.put, Array.getElem?_setIfInBounds_ne this]⟩

def PostL (a : Act) (ds : List Nat) (K : Env → World → Prop) (x : Exit) (a' : Act) (w' : World) : Prop :=
  x = .normal ∧ Keep ds a a' ∧ ∃ e', Agrees e' a' ∧ K e' w'

theorem wpList_mono {P : Program} {ops : Array Oper} {Q Q' : Exit → Act → World → Prop} (hq : ∀ x a w, Q x a w → Q' x a w) :
    ∀ (l : List Oper) (a : Act) (w : World), wpList P ops Q l a w → wpList P ops Q' l a w
  | [], _, _, h => hq _ _ _ h
  | o :: l, a, w, h => by
    simp only [wpList] at h ⊢
    split
    · rename_i hw
      rw [if_pos hw] at h
      refine h.imp (fun h => ?_) (fun ⟨h1, a', w', h2⟩ => ⟨h1, a', w', hq _ _ _ h2⟩)
      have := Oper.wp_mono (Q := Q) (fun a w => wpList_mono hq l a w) h
      unfold Oper.wp at this ⊢
      revert this
      generalize (execOp a.eval o).run P w = r
      intro this
      cases r with
      | ok nx w' =>
        cases nx <;> simp only [Oper.upon] at this ⊢ <;> first
          | exact this
          | (exact Calls.mono this fun e w'' he => by
              cases e with
              | returned v => exact he
              | panicked c => exact hq _ _ _ he
              | outgrown => exact let ⟨a', w', h2⟩ := he; ⟨a', w', hq _ _ _ h2⟩)
      | halt x w' => cases x <;> simp only [Oper.upon] at this ⊢ <;> first | exact hq _ _ _ this | exact this
    · rename_i hw
      rw [if_neg hw] at h
      exact wpList_mono hq l _ _ h

theorem wpList_append {P : Program} {ops : Array Oper} {Q : Exit → Act → World → Prop} (l2 : List Oper) :
    ∀ (l1 : List Oper) (a : Act) (w : World), wpList P ops (fun x a w => x = .normal ∧ wpList P ops Q l2 a w) l1 a w → wpList P ops Q (l1 ++ l2) a w
  | [], _, _, h => h.2
  | o :: l, a, w, h => by
    simp only [List.cons_append, wpList] at h ⊢
    split
    · rename_i hw
      rw [if_pos hw] at h
      rcases h with h | ⟨_, a', w', h2, _⟩
      · left
        have := Oper.wp_mono (fun a w => wpList_append l2 l a w) h
        unfold Oper.wp at this ⊢
        revert this
        generalize (execOp a.eval o).run P w = r
        intro this
        cases r with
        | ok nx w' =>
          cases nx <;> simp only [Oper.upon] at this ⊢ <;> first
            | exact this
            | (exact Calls.mono this fun e w'' he => by
                cases e with
                | returned v => exact he
                | panicked c => cases he.1
                | outgrown => exact let ⟨a', w', h2⟩ := he; by cases h2.1)
        | halt x w' => cases x <;> simp only [Oper.upon] at this ⊢ <;> first | (cases this.1; done) | exact this
      · cases h2
    · rename_i hw
      rw [if_neg hw] at h
      exact wpList_append l2 l _ _ h

section
variable {P : Program} {tk : TypeId → RK} {ops : Array Oper}

def vb : Value → Option Bool
  | .bool b => some b
  | _ => none

theorem gval_yielded {e : Env} {a : Act} (hA : Agrees e a) {j : Nat} {v : Value} (h : gval ops e j = some v) :
    yielded ops a.tmps j = vb v := by
  unfold gval at h
  unfold yielded
  cases hd : (ops[j]?).bind (·.dst) with
  | none => rw [hd] at h; simp at h
  | some s =>
    rw [hd] at h
    simp only [Option.bind_some] at h ⊢
    rw [hA.get _ _ h]
    cases v <;> rfl

theorem guardK_sound {o : Oper} {e : Env} {a : Act} (hA : Agrees e a) {R S : Prop} (h : guardK ops o e R S) :
    (Region.wanted o (yielded ops a.tmps) = true ∧ R) ∨ (Region.wanted o (yielded ops a.tmps) = false ∧ S) := by
  unfold guardK at h
  unfold Region.wanted
  split at h
  · rename_i hg; rw [hg]; exact .inl ⟨rfl, h⟩
  · rename_i j want hg
    rw [hg]
    simp only
    split at h
    · exact h.elim
    · rename_i b hv
      rw [gval_yielded hA hv]
      cases b <;> cases want <;> first | exact .inl ⟨rfl, h⟩ | exact .inr ⟨rfl, h⟩
    · rename_i v hnb hv
      rw [gval_yielded hA hv]
      cases v <;> first | exact absurd rfl (hnb _) | exact .inr ⟨by cases want <;> rfl, h⟩

theorem guardK_mono {o : Oper} {e : Env} {R R' S : Prop} (h : guardK ops o e R S) (hr : R → R') : guardK ops o e R' S := by
  unfold guardK at h ⊢
  split at h
  · exact hr h
  · rename_i j want hg
    split at h
    · exact h
    · rename_i b hv
      cases hb : Bool.xor b want <;> rw [hb] at h <;> first | exact hr h | exact h
    · exact h

theorem guardV_mono {α : Type} {o : Oper} {e : Env} {R S : Option α} {r : α} (h : guardV ops o e none S = some r) : guardV ops o e R S = some r := by
  unfold guardV at h ⊢
  split at h
  · cases h
  · rename_i j want hg
    split at h
    · exact h
    · rename_i b hv
      cases hb : Bool.xor b want with
      | true => rw [hb] at h; exact h
      | false => rw [hb] at h; cases h
    · exact h

theorem guardV_sound {α : Type} {o : Oper} {e : Env} {a : Act} (hA : Agrees e a) {R S : Option α} {r : α} (h : guardV ops o e R S = some r) :
    (Region.wanted o (yielded ops a.tmps) = true ∧ R = some r) ∨ (Region.wanted o (yielded ops a.tmps) = false ∧ S = some r) := by
  unfold guardV at h
  unfold Region.wanted
  split at h
  · rename_i hg; rw [hg]; exact .inl ⟨rfl, h⟩
  · rename_i j want hg
    rw [hg]
    simp only
    split at h
    · cases h
    · rename_i b hv
      rw [gval_yielded hA hv]
      cases b <;> cases want <;> first | exact .inl ⟨rfl, h⟩ | exact .inr ⟨rfl, h⟩
    · rename_i v hnb hv
      rw [gval_yielded hA hv]
      cases v <;> first | exact absurd rfl (hnb _) | exact .inr ⟨by cases want <;> rfl, h⟩

theorem pv_sound {o : Oper} {e : Env} {a : Act} (hA : Agrees e a) {v : Value} (h : pv P o e = some v) (w : World) : (execOp a.eval o).run P w = .ok (.value v) w := by
  unfold pv at h
  split at h
  · rename_i x hop
    simp [execOp, hop, hA.ev h]
  · rename_i x hop
    simp [execOp, hop, hA.ev h]
  · rename_i t x hop
    split at h
    · rename_i b hx
      cases h
      simp [execOp, hop, hA.ev hx, Op.unary]
    · cases h
  · rename_i op T x y yt hop
    split at h
    · rename_i k' b hy
      split at h
      · rename_i k c hx
        by_cases hk : k = k'
        · subst hk
          simp only [kEq, decide_true, cond_true] at h
          split at h
          case h_4 => 
            split at h
            · cases h
              simp [execOp, hop, hA.ev hx, hA.ev hy, eqGuard, binOp, Op.intDiv]
              intro hz; exfalso; revert hz; simp; omega
            · cases h
          case h_5 =>
            split at h
            · cases h
              simp [execOp, hop, hA.ev hx, hA.ev hy, eqGuard, binOp, Op.intDiv]
              intro hz; exfalso; revert hz; simp; omega
            · cases h
          all_goals first
            | (cases h; simp [execOp, hop, hA.ev hx, hA.ev hy, eqGuard, binOp, Op.intArith, Op.intBits, Op.intCmp]; done)
            | cases h
        · simp [kEq, hk] at h
      · cases h
    · rename_i b hy
      split at h
      · rename_i c hx
        split at h
        · rename_i hT
          have e1 : ∀ (d : Nat) (w : World), (Op.equalIn (d + 1) T (.bool c) (.bool b)).run P w = .ok (c == b) w := by
            intro d w
            simp [Op.equalIn, run_underlying' hT]
          have e2 : ∀ w : World, (Op.equal T (.bool c) (.bool b)).run P w = .ok (c == b) w := fun w => by rw [equal_succ]; exact e1 _ w
          split at h
          · cases h
            simp [execOp, hop, hA.ev hx, hA.ev hy, eqGuard, binOp, e2]
          · cases h
            simp [execOp, hop, hA.ev hx, hA.ev hy, eqGuard, binOp, e2]
          · cases h
        · cases h
      · cases h
    · rename_i b hy
      split at h
      · rename_i c hx
        split at h
        · cases h
          have e1 : (binOp .eql T (.string c) (.string b)).run P w = .ok (.bool (c.toList == b.toList)) w := rfl
          simp only [execOp, hop, hA.ev hx, hA.ev hy]
          simp [eqGuard, e1]
        · cases h
          have e1 : (binOp .neq T (.string c) (.string b)).run P w = .ok (.bool (!(c.toList == b.toList))) w := rfl
          simp only [execOp, hop, hA.ev hx, hA.ev hy]
          simp [eqGuard, e1]
        · cases h
      · cases h
    · rename_i hy
      split at h
      · rename_i p hx
        by_cases hT : isPtrT (P.underlying T) = true
        · rw [hT] at h
          simp only [cond_true] at h
          split at h
          · cases h; simp [execOp, hop, hA.ev hx, hA.ev hy, eqGuard, binOp, run_ptrNil (P := P) hT]
          · cases h; simp [execOp, hop, hA.ev hx, hA.ev hy, eqGuard, binOp, run_ptrNil (P := P) hT]
          · cases h
        · simp only [Bool.not_eq_true] at hT; rw [hT] at h; cases h
      · cases h
    · rename_i l c hy
      split at h
      · rename_i p _ _ hx
        by_cases hT : isSliceT (P.underlying T) = true
        · rw [hT] at h
          simp only [cond_true] at h
          split at h
          · cases h; simp [execOp, hop, hA.ev hx, hA.ev hy, eqGuard, binOp, run_sliceNil (P := P) hT]
          · cases h; simp [execOp, hop, hA.ev hx, hA.ev hy, eqGuard, binOp, run_sliceNil (P := P) hT]
          · cases h
        · simp only [Bool.not_eq_true] at hT; rw [hT] at h; cases h
      · cases h
    · cases h
  · rename_i s d x hop
    split at h
    · rename_i k n hx
      split at h
      · rename_i k' hd
        by_cases hs : (P.underlying s).isSome = true
        · rw [hs] at h
          cases h
          obtain ⟨ds, hds⟩ := cells_of _ hs
          simp [execOp, hop, hA.ev hx, convert, run_underlying' hds, run_underlying' hd, Conv.intToInt]
        · simp only [Bool.not_eq_true] at hs; rw [hs] at h; cases h
      · cases h
    · cases h
  · rename_i args ats hop
    split at h
    · rename_i x T hx0 hT0
      split at h
      · rename_i p n c el hx hT
        cases h
        simp [execOp, hop, resolve, invoke, Go.builtin, Builtin.len_, hT0, hx0, run_underlying' hT, hA.ev hx, goInt]
      · rename_i s hx hT
        cases h
        simp [execOp, hop, resolve, invoke, Go.builtin, Builtin.len_, hT0, hx0, run_underlying' hT, hA.ev hx, goInt]
      · cases h
    · cases h
  · rename_i args ats hop
    split at h
    · rename_i x T hx0 hT0
      split at h
      · rename_i p n c el hx hT
        cases h
        simp [execOp, hop, resolve, invoke, Go.builtin, Builtin.cap_, hT0, hx0, run_underlying' hT, hA.ev hx, goInt]
      · cases h
    · cases h
  · cases h

theorem disj_keep {e : Env} {ds : List Nat} {a a' : Act} (hA : Agrees e a) (hd : disj e ds = true) (hk : Keep ds a a') : Agrees e a' := by
  constructor
  intro s v hs
  have hm : ∃ u, (s, u) ∈ e := by
    clear hd hA
    induction e with
    | nil => cases hs
    | cons p e ih =>
      obtain ⟨k, u⟩ := p
      rw [get_cons] at hs
      by_cases hks : k = s
      · subst hks; exact ⟨u, by simp⟩
      · rw [if_neg hks] at hs
        obtain ⟨u, hu⟩ := ih hs
        exact ⟨u, by simp [hu]⟩
  obtain ⟨u, hu⟩ := hm
  have h1 := List.all_eq_true.1 hd _ hu
  simp only [Bool.not_eq_true', List.any_eq_false] at h1
  rw [hk.same s fun hmem => h1 s hmem (Nat.beq_refl s)]
  exact hA.get s v hs

theorem pick_run {pk : Oper} {e : Env} {a : Act} (hA : Agrees e a) {r : Bool} (h : pickV pk e = some r) (w : World) :
    (execOp a.eval pk).run P w = .ok (.value (.bool r)) w := by
  unfold pickV at h
  split at h
  · rename_i x y z hop
    split at h
    · rename_i b hb
      split at h
      · rename_i r' hr
        cases h
        simp only [execOp, hop, hA.ev hb]
        cases b
        · simp only [cond_false] at hr
          simp [asBool, hA.ev hr]
        · simp only [cond_true] at hr
          simp [asBool, hA.ev hr]
      · cases h
    · cases h
  · cases h

theorem wantedPick_sound {pk : Oper} {e : Env} {a : Act} (hA : Agrees e a) (h : wantedPick ops pk e = true) : Region.wanted pk (yielded ops a.tmps) = true := by
  unfold wantedPick at h
  unfold Region.wanted
  split at h
  · rename_i hg; rw [hg]
  · rename_i j want hg
    rw [hg]
    simp only
    split at h
    · rename_i b hv
      rw [gval_yielded hA hv]
      cases b <;> cases want <;> first | rfl | cases h
    · cases h

theorem grpK_sound {o : Oper} {e : Env} {s : Nat} {c : Bool} (h : grpK ops o e = some (s, c)) : e.get s = some (.bool c) := by
  unfold grpK at h
  split at h
  · cases h
  · split at h
    · cases h
    · split at h
      · rename_i hs; cases h; exact hs
      · cases h

theorem Agrees.lit {e : Env} {a : Act} (hA : Agrees e a) {s : Nat} {v : Value} (h : e.get s = some v) : Agrees ((s, v) :: e) a := by
  constructor
  intro t u ht
  rw [get_cons] at ht
  by_cases hst : s = t
  · subst hst
    rw [if_pos rfl] at ht
    cases ht
    exact hA.get _ _ h
  · rw [if_neg hst] at ht
    exact hA.get _ _ ht

theorem split_list {α : Type} (o : α) (rest : List α) (m : Nat) {pk : α} {rest' : List α} (h : rest.drop m = pk :: rest') :
    o :: rest = (o :: rest.take m) ++ (pk :: rest') := by
  rw [← h]; simp

theorem bif_and {b c : Bool} {α : Type} {x y z : α} (h : (bif b && c then x else y) = z) (hy : y ≠ z) : b = true ∧ c = true ∧ x = z := by
  cases b <;> cases c <;> first | exact absurd h hy | exact ⟨rfl, rfl, h⟩

theorem PV_sound : ∀ (n : Nat) (l : List Oper) (as : List An) (e e' : Env) (a : Act) (w : World), Agrees e a → (∀ d ∈ dsts l, d < a.tmps.size) →
    PV P ops n l as e = some e' → wpList P ops (fun x a' w' => x = .normal ∧ Keep (dsts l) a a' ∧ Agrees e' a' ∧ w' = w) l a w := by
  intro n
  induction n with
  | zero => intro l as e e' a w _ _ h; cases h
  | succ n ih =>
    intro l as e e' a w hA hb h
    have one : ∀ (o : Oper) (rest : List Oper) (as' : List An), (∀ d ∈ dsts (o :: rest), d < a.tmps.size) →
        (match guardV ops o e (pv P o e) (some undef) with | some v => PV P ops n rest as' (eput o.dst v e) | none => none) = some e' →
        wpList P ops (fun x a' w' => x = .normal ∧ Keep (dsts (o :: rest)) a a' ∧ Agrees e' a' ∧ w' = w) (o :: rest) a w := by
      intro o rest as' hb h
      have hod : ∀ k, o.dst = some k → k ∈ dsts (o :: rest) := fun k hk => by simp [dsts, hk]
      have hrest : ∀ k, k ∈ dsts rest → k ∈ dsts (o :: rest) := fun k hk => by
        simp only [dsts, List.filterMap_cons]
        split
        · exact hk
        · exact List.mem_cons_of_mem _ hk
      split at h
      · rename_i v hv
        have next : ∀ (a' : Act), a' = a.put o.dst v → wpList P ops (fun x a' w' => x = .normal ∧ Keep (dsts (o :: rest)) a a' ∧ Agrees e' a' ∧ w' = w) rest a' w := by
          intro a' ha'
          subst ha'
          have hk : Keep (dsts (o :: rest)) a (a.put o.dst v) := Keep.put hod
          have := ih rest as' (eput o.dst v e) e' (a.put o.dst v) w (hA.put fun k hk => hb k (hod k hk)) (fun d hd => by rw [hk.size]; exact hb d (hrest d hd)) h
          exact wpList_mono (fun x a' w' ⟨h1, h2, h3, h4⟩ => ⟨h1, hk.trans (h2.mono hrest), h3, h4⟩) _ _ _ this
        rcases guardV_sound hA hv with ⟨hw, hp⟩ | ⟨hw, hp⟩
        · simp only [wpList, hw, if_true]
          left
          unfold Oper.wp
          rw [pv_sound hA hp w]
          exact next _ rfl
        · simp only [wpList, hw, Bool.false_eq_true, if_false]
          cases hp
          exact next _ rfl
      · cases h
    cases l with
    | nil =>
      simp only [PV, Option.some.injEq] at h
      subst h
      exact ⟨rfl, .refl _ _, hA, rfl⟩
    | cons o rest =>
      cases as with
      | nil => exact one o rest [] hb (by simpa only [PV] using h)
      | cons an as =>
        cases an with
        | run => exact one o rest as hb (by simpa only [PV] using h)
        | split m => exact one o rest as hb (by simpa only [PV] using h)
        | ent ks => exact one o rest as hb (by simpa only [PV] using h)
        | pure m =>
          simp only [PV] at h
          split at h
          · refine one o rest as hb ?_
            cases hv : guardV ops o e none (some undef) with
            | none => rw [hv] at h; cases h
            | some v => rw [hv] at h; rw [guardV_mono hv]; exact h
          · rename_i s c pk rest' hg hd
            split at h
            · rename_i e1 e2 h1 h2
              split at h
              · rename_i r1 r2 hr1 hr2
                obtain ⟨hwp, hdj, h⟩ := bif_and h (by simp)
                rw [split_list o rest (m - 1) hd] at hb ⊢
                have hgs := grpK_sound hg
                refine wpList_append _ _ _ _ ?_
                have hsub : ∀ k, k ∈ dsts (o :: rest.take (m - 1)) → k ∈ dsts ((o :: rest.take (m - 1)) ++ (pk :: rest')) := fun k hk => by
                  simp only [dsts, List.filterMap_append, List.mem_append]; exact .inl hk
                have hsub2 : ∀ k, k ∈ dsts (pk :: rest') → k ∈ dsts ((o :: rest.take (m - 1)) ++ (pk :: rest')) := fun k hk => by
                  simp only [dsts, List.filterMap_append, List.mem_append]; exact .inr hk
                have hpk : ∀ k, pk.dst = some k → k ∈ dsts (pk :: rest') := fun k hk => by simp [dsts, hk]
                have hrest : ∀ k, k ∈ dsts rest' → k ∈ dsts (pk :: rest') := fun k hk => by
                  simp only [dsts, List.filterMap_cons]
                  split
                  · exact hk
                  · exact List.mem_cons_of_mem _ hk
                have fin : ∀ (eg : Env) (r : Bool) (a1 : Act), Keep (dsts (o :: rest.take (m - 1))) a a1 → Agrees eg a1 → pickV pk eg = some r → r = cond c r1 r2 →
                    wpList P ops (fun x a' w' => x = .normal ∧ Keep (dsts ((o :: rest.take (m - 1)) ++ (pk :: rest'))) a a' ∧ Agrees e' a' ∧ w' = w) (pk :: rest') a1 w := by
                  intro eg r a1 hk1 hA1 hp hr
                  have hAe := disj_keep hA hdj hk1
                  simp only [wpList, wantedPick_sound hAe hwp, if_true]
                  left
                  unfold Oper.wp
                  rw [pick_run hA1 hp w]
                  simp only [Oper.upon]
                  have hk2 : Keep (dsts (pk :: rest')) a1 (a1.put pk.dst (.bool r)) := Keep.put hpk
                  have := ih rest' (as.drop m) (eput pk.dst (.bool (cond c r1 r2)) e) e' (a1.put pk.dst (.bool r)) w
                    (by rw [hr]; exact hAe.put fun k hk => by rw [hk1.size]; exact hb k (hsub2 k (hpk k hk)))
                    (fun d hd => by rw [hk2.size, hk1.size]; exact hb d (hsub2 d (hrest d hd))) h
                  refine wpList_mono (fun x a' w' ⟨g1, g2, g3, g4⟩ => ⟨g1, (hk1.mono hsub).trans ((hk2.mono hsub2).trans (g2.mono fun k hk => hsub2 k (hrest k hk))), g3, g4⟩) _ _ _ this
                cases c with
                | true =>
                  have := ih _ _ _ e1 a w (hA.lit hgs) (fun d hd => hb d (hsub d hd)) h1
                  exact wpList_mono (fun x a' w' ⟨g1, g2, g3, g4⟩ => ⟨g1, by subst g4; exact fin e1 r1 a' g2 g3 hr1 rfl⟩) _ _ _ this
                | false =>
                  have := ih _ _ _ e2 a w (hA.lit hgs) (fun d hd => hb d (hsub d hd)) h2
                  exact wpList_mono (fun x a' w' ⟨g1, g2, g3, g4⟩ => ⟨g1, by subst g4; exact fin e2 r2 a' g2 g3 hr2 rfl⟩) _ _ _ this
              · cases h
            · cases h
          · cases h

theorem DOps_sound : ∀ (n : Nat) (l : List Oper) (as : List An) (K : Env → World → Prop) (e : Env) (a : Act) (w : World), Agrees e a → (∀ d ∈ dsts l, d < a.tmps.size) →
    DOps P tk ops n l as K e w → wpList P ops (PostL a (dsts l) K) l a w := by
  intro n
  induction n with
  | zero => intro l as K e a w _ _ h; cases h
  | succ n ih =>
    intro l as K e a w hA hb h
    have one : ∀ (o : Oper) (rest : List Oper) (as' : List An), (∀ d ∈ dsts (o :: rest), d < a.tmps.size) →
        guardK ops o e (DOp P tk o (fun v w' => DOps P tk ops n rest as' K (eput o.dst v e) w') e w) (DOps P tk ops n rest as' K (eput o.dst undef e) w) →
        wpList P ops (PostL a (dsts (o :: rest)) K) (o :: rest) a w := by
      intro o rest as' hb h
      have hod : ∀ k, o.dst = some k → k ∈ dsts (o :: rest) := fun k hk => by simp [dsts, hk]
      have hrest : ∀ k, k ∈ dsts rest → k ∈ dsts (o :: rest) := fun k hk => by
        simp only [dsts, List.filterMap_cons]
        split
        · exact hk
        · exact List.mem_cons_of_mem _ hk
      have next : ∀ (v : Value) (w' : World), DOps P tk ops n rest as' K (eput o.dst v e) w' → wpList P ops (PostL a (dsts (o :: rest)) K) rest (a.put o.dst v) w' := by
        intro v w' h
        have hk : Keep (dsts (o :: rest)) a (a.put o.dst v) := Keep.put hod
        have := ih rest as' K (eput o.dst v e) (a.put o.dst v) w' (hA.put fun k hk => hb k (hod k hk)) (fun d hd => by rw [hk.size]; exact hb d (hrest d hd)) h
        exact wpList_mono (fun x a' w' ⟨h1, h2, h3⟩ => ⟨h1, hk.trans (h2.mono hrest), h3⟩) _ _ _ this
      rcases guardK_sound hA h with ⟨hw, hp⟩ | ⟨hw, hp⟩
      · simp only [wpList, hw, if_true]
        exact .inl ((DOp_sound hA hp).wp next)
      · simp only [wpList, hw, Bool.false_eq_true, if_false]
        exact next _ _ hp
    have oneE : ∀ (o : Oper) (rest : List Oper) (ks : List Kd) (as' : List An), (∀ d ∈ dsts (o :: rest), d < a.tmps.size) →
        guardK ops o e (DEnt P ks o (fun v w' => DOps P tk ops n rest as' K (eput o.dst v e) w') e w) (DOps P tk ops n rest as' K (eput o.dst undef e) w) →
        wpList P ops (PostL a (dsts (o :: rest)) K) (o :: rest) a w := by
      intro o rest ks as' hb h
      have hod : ∀ k, o.dst = some k → k ∈ dsts (o :: rest) := fun k hk => by simp [dsts, hk]
      have hrest : ∀ k, k ∈ dsts rest → k ∈ dsts (o :: rest) := fun k hk => by
        simp only [dsts, List.filterMap_cons]
        split
        · exact hk
        · exact List.mem_cons_of_mem _ hk
      have next : ∀ (v : Value) (w' : World), DOps P tk ops n rest as' K (eput o.dst v e) w' → wpList P ops (PostL a (dsts (o :: rest)) K) rest (a.put o.dst v) w' := by
        intro v w' h
        have hk : Keep (dsts (o :: rest)) a (a.put o.dst v) := Keep.put hod
        have := ih rest as' K (eput o.dst v e) (a.put o.dst v) w' (hA.put fun k hk => hb k (hod k hk)) (fun d hd => by rw [hk.size]; exact hb d (hrest d hd)) h
        exact wpList_mono (fun x a' w' ⟨h1, h2, h3⟩ => ⟨h1, hk.trans (h2.mono hrest), h3⟩) _ _ _ this
      rcases guardK_sound hA h with ⟨hw, hp⟩ | ⟨hw, hp⟩
      · simp only [wpList, hw, if_true]
        exact .inl ((DEnt_sound hA hp).wp next)
      · simp only [wpList, hw, Bool.false_eq_true, if_false]
        exact next _ _ hp
    cases l with
    | nil => exact ⟨rfl, .refl _ _, e, hA, h⟩
    | cons o rest =>
      cases as with
      | nil => exact one o rest [] hb (by simpa only [DOps] using h)
      | cons an as =>
        cases an with
        | run => exact one o rest as hb (by simpa only [DOps] using h)
        | ent ks => exact oneE o rest ks as hb (by simpa only [DOps] using h)
        | split m =>
          simp only [DOps] at h
          split at h
          · exact one o rest as hb (guardK_mono h False.elim)
          · rename_i s c pk rest' hg hd
            obtain ⟨hwp, hdj, h⟩ : wantedPick ops pk e = true ∧ disj e (dsts (o :: rest.take (m - 1))) = true ∧ _ := by
              cases h1 : wantedPick ops pk e <;> cases h2 : disj e (dsts (o :: rest.take (m - 1))) <;> rw [h1, h2] at h <;> first | exact h.elim | exact ⟨rfl, rfl, h⟩
            rw [split_list o rest (m - 1) hd] at hb ⊢
            have hgs := grpK_sound hg
            refine wpList_append _ _ _ _ ?_
            have hsub : ∀ k, k ∈ dsts (o :: rest.take (m - 1)) → k ∈ dsts ((o :: rest.take (m - 1)) ++ (pk :: rest')) := fun k hk => by
              simp only [dsts, List.filterMap_append, List.mem_append]; exact .inl hk
            have hsub2 : ∀ k, k ∈ dsts (pk :: rest') → k ∈ dsts ((o :: rest.take (m - 1)) ++ (pk :: rest')) := fun k hk => by
              simp only [dsts, List.filterMap_append, List.mem_append]; exact .inr hk
            have hpk : ∀ k, pk.dst = some k → k ∈ dsts (pk :: rest') := fun k hk => by simp [dsts, hk]
            have hrest : ∀ k, k ∈ dsts rest' → k ∈ dsts (pk :: rest') := fun k hk => by
              simp only [dsts, List.filterMap_cons]
              split
              · exact hk
              · exact List.mem_cons_of_mem _ hk
            have fin : ∀ (x : Exit) (a1 : Act) (w1 : World), PostL a (dsts (o :: rest.take (m - 1)))
                (fun e' w' => match pickV pk e' with | some r => DOps P tk ops n rest' (as.drop m) K (eput pk.dst (.bool r) e) w' | none => False) x a1 w1 →
                x = .normal ∧ wpList P ops (PostL a (dsts ((o :: rest.take (m - 1)) ++ (pk :: rest'))) K) (pk :: rest') a1 w1 := by
              rintro x a1 w1 ⟨hx, hk1, eg, hA1, h⟩
              refine ⟨hx, ?_⟩
              have hAe := disj_keep hA hdj hk1
              split at h
              · rename_i r hp
                simp only [wpList, wantedPick_sound hAe hwp, if_true]
                left
                unfold Oper.wp
                rw [pick_run hA1 hp w1]
                simp only [Oper.upon]
                have hk2 : Keep (dsts (pk :: rest')) a1 (a1.put pk.dst (.bool r)) := Keep.put hpk
                have := ih rest' (as.drop m) K (eput pk.dst (.bool r) e) (a1.put pk.dst (.bool r)) w1
                  (hAe.put fun k hk => by rw [hk1.size]; exact hb k (hsub2 k (hpk k hk)))
                  (fun d hd => by rw [hk2.size, hk1.size]; exact hb d (hsub2 d (hrest d hd))) h
                refine wpList_mono (fun x a' w' ⟨g1, g2, g3⟩ => ⟨g1, (hk1.mono hsub).trans ((hk2.mono hsub2).trans (g2.mono fun k hk => hsub2 k (hrest k hk))), g3⟩) _ _ _ this
              · exact h.elim
            have h := h.out
            cases c with
            | true =>
              have := ih _ _ _ _ a w (hA.lit hgs) (fun d hd => hb d (hsub d hd)) (h.1 rfl)
              exact wpList_mono fin _ _ _ this
            | false =>
              have := ih _ _ _ _ a w (hA.lit hgs) (fun d hd => hb d (hsub d hd)) (h.2 rfl)
              exact wpList_mono fin _ _ _ this
          · exact h.elim
        | pure m =>
          simp only [DOps] at h
          split at h
          · exact one o rest as hb (guardK_mono h False.elim)
          · rename_i s c pk rest' hg hd
            split at h
            · rename_i e1 e2 h1 h2
              split at h
              · rename_i r1 r2 hr1 hr2
                obtain ⟨hwp, hdj, h⟩ : wantedPick ops pk e = true ∧ disj e (dsts (o :: rest.take (m - 1))) = true ∧ _ := by
                  cases g1 : wantedPick ops pk e <;> cases g2 : disj e (dsts (o :: rest.take (m - 1))) <;> rw [g1, g2] at h <;> first | exact h.elim | exact ⟨rfl, rfl, h⟩
                rw [split_list o rest (m - 1) hd] at hb ⊢
                have hgs := grpK_sound hg
                refine wpList_append _ _ _ _ ?_
                have hsub : ∀ k, k ∈ dsts (o :: rest.take (m - 1)) → k ∈ dsts ((o :: rest.take (m - 1)) ++ (pk :: rest')) := fun k hk => by
                  simp only [dsts, List.filterMap_append, List.mem_append]; exact .inl hk
                have hsub2 : ∀ k, k ∈ dsts (pk :: rest') → k ∈ dsts ((o :: rest.take (m - 1)) ++ (pk :: rest')) := fun k hk => by
                  simp only [dsts, List.filterMap_append, List.mem_append]; exact .inr hk
                have hpk : ∀ k, pk.dst = some k → k ∈ dsts (pk :: rest') := fun k hk => by simp [dsts, hk]
                have hrest : ∀ k, k ∈ dsts rest' → k ∈ dsts (pk :: rest') := fun k hk => by
                  simp only [dsts, List.filterMap_cons]
                  split
                  · exact hk
                  · exact List.mem_cons_of_mem _ hk
                have fin : ∀ (eg : Env) (r : Bool) (a1 : Act), Keep (dsts (o :: rest.take (m - 1))) a a1 → Agrees eg a1 → pickV pk eg = some r → r = cond c r1 r2 →
                    wpList P ops (PostL a (dsts ((o :: rest.take (m - 1)) ++ (pk :: rest'))) K) (pk :: rest') a1 w := by
                  intro eg r a1 hk1 hA1 hp hr
                  have hAe := disj_keep hA hdj hk1
                  simp only [wpList, wantedPick_sound hAe hwp, if_true]
                  left
                  unfold Oper.wp
                  rw [pick_run hA1 hp w]
                  simp only [Oper.upon]
                  have hk2 : Keep (dsts (pk :: rest')) a1 (a1.put pk.dst (.bool r)) := Keep.put hpk
                  have := ih rest' (as.drop m) K (eput pk.dst (.bool (cond c r1 r2)) e) (a1.put pk.dst (.bool r)) w
                    (by rw [hr]; exact hAe.put fun k hk => by rw [hk1.size]; exact hb k (hsub2 k (hpk k hk)))
                    (fun d hd => by rw [hk2.size, hk1.size]; exact hb d (hsub2 d (hrest d hd))) h
                  refine wpList_mono (fun x a' w' ⟨g1, g2, g3⟩ => ⟨g1, (hk1.mono hsub).trans ((hk2.mono hsub2).trans (g2.mono fun k hk => hsub2 k (hrest k hk))), g3⟩) _ _ _ this
                cases c with
                | true =>
                  have := PV_sound n _ _ _ e1 a w (hA.lit hgs) (fun d hd => hb d (hsub d hd)) h1
                  exact wpList_mono (fun x a' w' ⟨g1, g2, g3, g4⟩ => ⟨g1, by subst g4; exact fin e1 r1 a' g2 g3 hr1 rfl⟩) _ _ _ this
                | false =>
                  have := PV_sound n _ _ _ e2 a w (hA.lit hgs) (fun d hd => hb d (hsub d hd)) h2
                  exact wpList_mono (fun x a' w' ⟨g1, g2, g3, g4⟩ => ⟨g1, by subst g4; exact fin e2 r2 a' g2 g3 hr2 rfl⟩) _ _ _ this
              · exact h.elim
            · exact h.elim
          · exact h.elim

end

end Gx
