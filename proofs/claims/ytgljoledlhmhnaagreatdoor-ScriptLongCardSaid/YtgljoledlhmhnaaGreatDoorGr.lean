/- The wp-calculator, third part: regions that draw their order. -/
import Derived.Test.YtgljoledlhmhnaaGreatDoorGd
namespace Gx
open Go

/-- Of the blocks that there were, none but those of W has turned; the streams are as they were. -/
structure Chg (W : Nat → Prop) (w w' : World) : Prop where
  os : w'.os = w.os
  tape : w'.tape = w.tape
  output : w'.output = w.output
  size : w.heap.size ≤ w'.heap.size
  block : ∀ k, k < w.heap.size → ¬ W k → w'.heap[k]? = w.heap[k]?

theorem Chg.refl (W : Nat → Prop) (w : World) : Chg W w w := ⟨rfl, rfl, rfl, Nat.le_refl _, fun _ _ _ => rfl⟩
theorem Chg.trans {W : Nat → Prop} {a b c : World} (h : Chg W a b) (k : Chg W b c) : Chg W a c :=
  ⟨k.os.trans h.os, k.tape.trans h.tape, k.output.trans h.output, Nat.le_trans h.size k.size, fun i hi hw => (k.block i (Nat.lt_of_lt_of_le hi h.size) hw).trans (h.block i hi hw)⟩
theorem Chg.mono {W V : Nat → Prop} {a b : World} (h : Chg W a b) (hv : ∀ k, k < a.heap.size → W k → V k) : Chg V a b :=
  ⟨h.os, h.tape, h.output, h.size, fun i hi hw => h.block i hi fun hW => hw (hv i hi hW)⟩

theorem Chg.cell {W : Nat → Prop} {w w' : World} (h : Chg W w w') {A : Addr} (hW : ¬ W A.block) {v : Value} (hv : w.cell? A = some v) : w'.cell? A = some v := by
  have hb : A.block < w.heap.size := by
    rcases Nat.lt_or_ge A.block w.heap.size with h1 | h1
    · exact h1
    · simp [World.cell?, Array.getElem?_eq_none h1] at hv
  unfold World.cell? at hv ⊢
  rw [h.block _ hb hW]
  exact hv

theorem Chg.rdCells {W : Nat → Prop} {w w' : World} (h : Chg W w w') {A : Addr} (hW : ¬ W A.block) : ∀ (n i : Nat) (vs : List Value), rdCells w A i n = some vs → rdCells w' A i n = some vs
  | 0, _, _, hv => hv
  | n + 1, i, vs, hv => by
    simp only [Gx.rdCells] at hv ⊢
    have hbl : (A.add i).block = A.block := by unfold Addr.add; split <;> rfl
    cases h1 : w.cell? (A.add i) with
    | none => simp [h1] at hv
    | some v =>
      cases h2 : Gx.rdCells w A (i + 1) n with
      | none => simp [h1, h2] at hv
      | some us =>
        simp only [h1, h2] at hv
        rw [h.cell (by rw [hbl]; exact hW) h1, Chg.rdCells h hW n (i + 1) us h2]
        exact hv

def Free {α : Type} : Sem α → Prop
  | .pure _ => True
  | .program k => ∀ p, Free (k p)
  | .halt _ => True
  | _ => False

theorem Free.bind {α β : Type} : ∀ {s : Sem α} {f : α → Sem β}, Free s → (∀ a, Free (f a)) → Free (s >>= f)
  | .pure a, _, _, hf => hf a
  | .program _, _, h, hf => fun p => Free.bind (h p) hf
  | .halt _, _, _, _ => trivial
  | .load .., _, h, _ => h.elim
  | .store .., _, h, _ => h.elim
  | .new .., _, h, _ => h.elim
  | .shape .., _, h, _ => h.elim
  | .freeze .., _, h, _ => h.elim
  | .frozen .., _, h, _ => h.elim
  | .getObj .., _, h, _ => h.elim
  | .setObj .., _, h, _ => h.elim
  | .choose .., _, h, _ => h.elim
  | .sys .., _, h, _ => h.elim
  | .mark .., _, h, _ => h.elim

theorem Free.run {α : Type} {P : Program} : ∀ {s : Sem α} {w w' : World} {v : α}, Free s → s.run P w = .ok v w' → ∀ u, s.run P u = .ok v u
  | .pure a, w, w', v, _, h, u => by
    simp only [Sem.run, Result.ok.injEq] at h ⊢
    exact ⟨h.1, trivial⟩
  | .program k, w, w', v, hf, h, u => Free.run (hf P) h u
  | .halt _, w, w', v, _, h, _ => by simp [Sem.run] at h
  | .load .., _, _, _, h, _, _ => h.elim
  | .store .., _, _, _, h, _, _ => h.elim
  | .new .., _, _, _, h, _, _ => h.elim
  | .shape .., _, _, _, h, _, _ => h.elim
  | .freeze .., _, _, _, h, _, _ => h.elim
  | .frozen .., _, _, _, h, _, _ => h.elim
  | .getObj .., _, _, _, h, _, _ => h.elim
  | .setObj .., _, _, _, h, _, _ => h.elim
  | .choose .., _, _, _, h, _, _ => h.elim
  | .sys .., _, _, _, h, _, _ => h.elim
  | .mark .., _, _, _, h, _, _ => h.elim

theorem Free.ite {α : Type} {c : Prop} [Decidable c] {a b : Sem α} (ha : Free a) (hb : Free b) : Free (if c then a else b) := by split <;> assumption
theorem free_pure {α : Type} (a : α) : Free (pure a : Sem α) := trivial
theorem free_stuck {α : Type} (s : String) : Free (stuck s : Sem α) := trivial
theorem free_program : Free program := fun _ => trivial
theorem free_underlying (t : TypeId) : Free (underlying t) := by
  unfold underlying
  refine Free.bind free_program fun p => ?_
  split <;> trivial
theorem free_typeInfo (t : TypeId) : Free (typeInfo t) := by
  unfold typeInfo
  refine Free.bind free_program fun p => ?_
  split <;> trivial
theorem free_sizeOf (t : TypeId) : Free (Go.sizeOf t) := Free.bind (free_typeInfo t) fun _ => trivial
theorem free_isAgg (t : TypeId) : Free (isAgg t) := by
  unfold isAgg
  refine Free.bind (free_underlying t) fun d => ?_
  split <;> trivial
theorem free_zeroValue (t : TypeId) : Free (zeroValue t) := by
  unfold zeroValue
  refine Free.bind (free_typeInfo t) fun d => ?_
  split <;> trivial
theorem free_part (t : TypeId) (cs : Array Value) (off : Nat) : Free (part t cs off) := by
  unfold part
  refine Free.bind (free_isAgg t) fun d => ?_
  split
  · exact Free.bind (free_sizeOf t) fun _ => trivial
  · split <;> trivial
theorem free_field (t : TypeId) (x : Value) (i : Nat) : Free (Instr.field t x i) := by
  unfold Instr.field
  refine Free.bind (free_underlying t) fun d => ?_
  split
  · split
    · refine Free.bind ?_ fun _ => free_part _ _ _
      unfold asAgg; split <;> trivial
    · trivial
  · trivial

def isFree : Op → Bool
  | .move _ => true
  | .assign _ => true
  | .pick _ _ _ => true
  | .field _ _ _ => true
  | _ => false

def freeGen (P : Program) (o : Oper) (K : Value → Prop) (e : Env) (w : World) : Prop :=
  bif isFree o.op && known e o.op.operands then
    match (execOp (ro e) o).run P w with
    | .ok (.value v) _ => K v
    | _ => False
  else False

/-- Operations whose value is the same in every world: told by 'uni'. -/
def uniGen (P : Program) (o : Oper) (K : Value → Prop) (e : Env) : Prop :=
  match pv P o e with
  | some v => K v
  | none => False

def dfieldAddr (P : Program) (T : TypeId) (x : Value) (i : Nat) (K : Value → Prop) : Prop :=
  match P.underlying T with
  | some (.struct fs) => match fs[i]? with
    | some f => match x with
      | .pointer (some A) => match P.underlying f.type with
        | some _ => bif Nat.beq (P.cellsOf f.type) 0 then False else K (.pointer (some (A.add f.offset)))
        | none => False
      | _ => False
    | none => False
  | _ => False

def dextract (x : Value) (i : Nat) (K : Value → Prop) : Prop :=
  match x with
  | .tuple vs => match vs[i]? with
    | some v => K v
    | none => False
  | _ => False

/-- Its value hangs on what lies in the world. -/
def isSens (o : Oper) : Bool :=
  match o.op with
  | .load _ _ => true
  | .convert _ _ _ => true
  | _ => false

def sensM : Nat → List Oper → Nat
  | _, [] => 0
  | i, o :: l => bif isSens o then 2 ^ i ||| sensM (i + 1) l else sensM (i + 1) l

/-- One operation of a region that draws, taken first: its value is the same in all worlds that differ from w in W alone. -/
def DStill (P : Program) (tk : TypeId → RK) (W : Nat → Prop) (w : World) (o : Oper) (K : Value → Prop) (e : Env) : Prop :=
  match o.op with
  | .nilCheck x => match ev e x with
    | some (.pointer p) => ∃ A, p = some A ∧ K (.pointer (some A))
    | _ => False
  | .load T x => match ev e x with
    | some (.pointer (some A)) => ¬ W A.block ∧ dload P tk T A w K
    | _ => False
  | .binOp op T x y _ => match ev e x, ev e y with
    | some vx, some vy => bif notNilI y vy then dbin P op T vx vy K (uniGen P o K e) else False
    | _, _ => False
  | .indexAddr T x i => match ev e x, ev e i with
    | some vx, some vi => dindexAddr P T vx vi K
    | _, _ => False
  | .index T x i => match ev e x, ev e i with
    | some vx, some vi => dindex P tk T vx vi K
    | _, _ => False
  | .field T x i => match ev e x with
    | some vx => dfield P tk T vx i K
    | _ => False
  | .fieldAddr T x i => match ev e x with
    | some vx => dfieldAddr P T vx i K
    | _ => False
  | .extract x i => match ev e x with
    | some vx => dextract vx i K
    | _ => False
  | .slice T x lo hi mx => bif known e o.op.operands then
      dslice P T (ro e x) (lo.map (ro e)) (hi.map (ro e)) (mx.map (ro e)) K
    else False
  | .convert s d x => match ev e x with
    | some (.int _ _) => uniGen P o K e
    | some v => exRK (tk o.type) fun r => (∀ w', Chg W w w' → (convert s d v).run P w' = .ok r w') ∧ K r
    | none => False
  | .build t ps => bif known e o.op.operands then
      ∃ cs : Array Value, (∀ w', (Instr.build t (ps.map fun p => (p.1, ro e p.2))).run P w' = .ok (.agg cs) w') ∧ K (.agg cs)
    else False
  | .unOp _ _ _ => uniGen P o K e
  | .call _ => uniGen P o K e
  | .move _ => freeGen P o K e w
  | .assign _ => freeGen P o K e w
  | .pick _ _ _ => freeGen P o K e w
  | .sliceToArrayPointer T x => match ev e x with
    | some vx => darr P T vx K
    | _ => False
  | _ => False

section
variable {P : Program} {tk : TypeId → RK} {W : Nat → Prop} {o : Oper} {K : Value → Prop} {e : Env} {a : Act} {w : World}

theorem freeGen_sound (hA : Agrees e a) (h : freeGen P o K e w) : ∃ v, (∀ w', (execOp a.eval o).run P w' = .ok (.value v) w') ∧ K v := by
  unfold freeGen at h
  cases hf : isFree o.op with
  | false => rw [hf] at h; exact h.elim
  | true =>
    cases hk : known e o.op.operands with
    | false => rw [hf, hk] at h; exact h.elim
    | true =>
      rw [hf, hk] at h
      simp only [Bool.and_self, cond_true] at h
      have hc := known_congr hA (by cases hop : o.op <;> rw [hop] at hf <;> first | rfl | cases hf) hk
      rw [hc]
      split at h
      · rename_i v w' hr
        refine ⟨v, fun u => Free.run ?_ hr u, h⟩
        cases hop : o.op <;> rw [hop] at hf <;> first | (cases hf; done) | skip
        · simp only [execOp, hop]; trivial
        · simp only [execOp, hop]; trivial
        · simp only [execOp, hop]
          refine Free.bind ?_ fun _ => trivial
          unfold asBool; split <;> trivial
        · simp only [execOp, hop]
          exact Free.bind (free_field _ _ _) fun _ => trivial
      · exact h.elim

theorem uniGen_sound (hA : Agrees e a) (h : uniGen P o K e) : ∃ v, (∀ w', (execOp a.eval o).run P w' = .ok (.value v) w') ∧ K v := by
  unfold uniGen at h
  split at h
  · rename_i v hv
    exact ⟨v, pv_sound hA hv, h⟩
  · exact h.elim

theorem DStill_sound (hA : Agrees e a) (h : DStill P tk W w o K e) : ∃ v, (∀ w', (isSens o = true → Chg W w w') → (execOp a.eval o).run P w' = .ok (.value v) w') ∧ K v := by
  have weak : (∃ v, (∀ w', (execOp a.eval o).run P w' = .ok (.value v) w') ∧ K v) → ∃ v, (∀ w', (isSens o = true → Chg W w w') → (execOp a.eval o).run P w' = .ok (.value v) w') ∧ K v :=
    fun ⟨v, h1, h2⟩ => ⟨v, fun w' _ => h1 w', h2⟩
  unfold DStill at h
  split at h
  case h_1 x hop =>
    split at h
    · rename_i p hx
      obtain ⟨A, rfl, hK⟩ := h
      exact ⟨_, fun w' _ => by simp [execOp, hop, hA.ev hx], hK⟩
    · exact h.elim
  case h_2 T x hop =>
    split at h
    · rename_i A hx
      obtain ⟨hW, h⟩ := h
      have key : ∃ v, (∀ w', Chg W w w' → (Instr.loadAt T (.pointer (some A))).run P w' = .ok v w') ∧ K v := by
        have e1 : ∀ w', (Instr.loadAt T (.pointer (some A))).run P w' = (loadVar T A).run P w' := fun w' => by simp [Instr.loadAt, Instr.sureAddr]
        unfold dload at h
        split at h
        · exact h.elim
        · rename_i d hT
          cases hd : aggT d with
          | true =>
            rw [hd] at h
            simp only [cond_true] at h
            split at h
            · rename_i ls _
              by_cases hb : Nat.beq (P.cellsOf T) ls.length = true
              · rw [hb] at h
                simp only [cond_true] at h
                obtain ⟨vs, hvs, h⟩ := dflat_sound h
                rw [← Nat.eq_of_beq_eq_true hb] at hvs
                exact ⟨_, fun w' hc => by rw [e1, run_loadVar_agg hT hd (hc.rdCells hW _ _ _ hvs)], h⟩
              · simp only [Bool.not_eq_true] at hb; rw [hb] at h; exact h.elim
            · obtain ⟨cs, hcs, h⟩ := h
              exact ⟨_, fun w' hc => by rw [e1, run_loadVar_agg hT hd (hc.rdCells hW _ _ _ hcs)], h⟩
          | false =>
            rw [hd] at h
            simp only [cond_false] at h
            split at h
            · obtain ⟨v, hv, h⟩ := exLf_out h
              exact ⟨v, fun w' hc => by rw [e1, run_loadVar_one hT hd (hc.cell hW hv)], h⟩
            · exact h.elim
      obtain ⟨v, hv, hK⟩ := key
      exact ⟨v, fun w' hc => by simp [execOp, hop, hA.ev hx, hv w' (hc (by unfold isSens; rw [hop]))], hK⟩
    · exact h.elim
  case h_3 op T x y yt hop =>
    split at h
    · rename_i vx vy hx hy
      by_cases hn : notNilI y vy = true
      · rw [hn] at h
        simp only [cond_true] at h
        have hnil : vy = .nilIface → ∃ c, y = .const c := by
          intro hv
          subst hv
          cases y <;> simp [notNilI] at hn ⊢
        rcases dbin_sound (xo := x) (yo := y) hnil h with hg | ⟨v, hv, hK⟩
        · exact weak (uniGen_sound hA hg)
        · exact ⟨v, fun w' _ => by
            simp only [execOp, hop, hA.ev hx, hA.ev hy]
            have hv' := hv w'
            simp only [Sem.run_bind] at hv' ⊢
            rw [hv']; rfl, hK⟩
      · simp only [Bool.not_eq_true] at hn; rw [hn] at h; exact h.elim
    · exact h.elim
  case h_4 T x i hop =>
    split at h
    · rename_i vx vi hx hi
      obtain ⟨v, hv, hK⟩ := dindexAddr_sound h
      exact ⟨v, fun w' _ => by simp [execOp, hop, hA.ev hx, hA.ev hi, hv], hK⟩
    · exact h.elim
  case h_5 T x i hop =>
    split at h
    · rename_i vx vi hx hi
      obtain ⟨v, hv, hK⟩ := dindex_sound h
      exact ⟨v, fun w' _ => by simp [execOp, hop, hA.ev hx, hA.ev hi, hv], hK⟩
    · exact h.elim
  case h_6 T x i hop =>
    split at h
    · rename_i vx hx
      obtain ⟨v, hv, hK⟩ := dfield_sound h
      exact ⟨v, fun w' _ => by simp [execOp, hop, hA.ev hx, hv], hK⟩
    · exact h.elim
  case h_7 T x i hop =>
    split at h
    · rename_i vx hx
      unfold dfieldAddr at h
      split at h
      · rename_i fs hT
        split at h
        · rename_i f hf
          split at h
          · rename_i A
            split at h
            · rename_i d hd
              cases hz : Nat.beq (P.cellsOf f.type) 0 with
              | true => rw [hz] at h; exact h.elim
              | false =>
                rw [hz] at h
                have hz' : ¬ P.cellsOf f.type = 0 := fun h0 => by rw [h0] at hz; cases hz
                exact ⟨_, fun w' _ => by simp [execOp, hop, hA.ev hx, Instr.fieldAt, run_underlying' hT, hf, Instr.sureAddr, fieldPlace, run_sizeOf' hd, hz'], h⟩
            · exact h.elim
          · exact h.elim
        · exact h.elim
      · exact h.elim
    · exact h.elim
  case h_8 x i hop =>
    split at h
    · rename_i vx hx
      unfold dextract at h
      split at h
      · rename_i vs
        split at h
        · rename_i v hv
          exact ⟨v, fun w' _ => by simp [execOp, hop, hA.ev hx, Instr.extract, hv], h⟩
        · exact h.elim
      · exact h.elim
    · exact h.elim
  case h_9 T x lo hi mx hop =>
    by_cases hk : known e o.op.operands = true
    · rw [hk] at h
      simp only [cond_true] at h
      have hc := known_congr hA (by rw [hop]; rfl) hk
      obtain ⟨v, hv, hK⟩ := dslice_sound h
      exact ⟨v, fun w' _ => by rw [hc]; simp [execOp, hop, hv], hK⟩
    · simp only [Bool.not_eq_true] at hk; rw [hk] at h; exact h.elim
  case h_10 s d x hop =>
    split at h
    · exact weak (uniGen_sound hA h)
    · rename_i v _ hx
      obtain ⟨r, hr, hK⟩ := exRK_out h
      exact ⟨r, fun w' hc => by simp [execOp, hop, hA.ev hx, hr w' (hc (by unfold isSens; rw [hop]))], hK⟩
    · exact h.elim
  case h_11 t ps hop =>
    by_cases hk : known e o.op.operands = true
    · rw [hk] at h
      simp only [cond_true] at h
      have hc := known_congr hA (by rw [hop]; rfl) hk
      obtain ⟨cs, hr, hK⟩ := h
      exact ⟨_, fun w' _ => by rw [hc]; simp [execOp, hop]; rw [hr]; rfl, hK⟩
    · simp only [Bool.not_eq_true] at hk; rw [hk] at h; exact h.elim
  case h_12 => exact weak (uniGen_sound hA h)
  case h_13 => exact weak (uniGen_sound hA h)
  case h_14 => exact weak (freeGen_sound hA h)
  case h_15 => exact weak (freeGen_sound hA h)
  case h_16 => exact weak (freeGen_sound hA h)
  case h_17 T x hop =>
    split at h
    · rename_i vx hx
      obtain ⟨v, hv, hK⟩ := darr_sound h
      exact ⟨v, fun w' _ => by simp [execOp, hop, hA.ev hx, hv], hK⟩
    · exact h.elim
  case h_18 => exact h.elim

end

/-! ### Any order of the head, then the tail -/
inductive Tr where
  | take (i : Nat) (t : Tr)
  | eff (i : Nat) (t : Tr)
  | out (i : Nat) (b : Bool) (t : Tr)
  | two (i : Nat) (t : Tr) (j : Nat) (u : Tr)
  | three (i : Nat) (t : Tr) (j : Nat) (u : Tr) (k : Nat) (v : Tr)
  | sp (s : Nat) (t u : Tr)
  | fin
  | tail (as : List An)

/-! Sets of numbers as one number -/
def maskL : List Nat → Nat
  | [] => 0
  | d :: l => 2 ^ d ||| maskL l

theorem testBit_maskL : ∀ (l : List Nat) (k : Nat), (maskL l).testBit k = decide (k ∈ l)
  | [], k => by simp [maskL]
  | d :: l, k => by
    simp only [maskL, Nat.testBit_or, testBit_maskL l k, Nat.testBit_two_pow]
    by_cases h : d = k
    · subst h; simp
    · have : ¬ k = d := fun h' => h h'.symm
      simp [h, this]

def afterL (o : Oper) : List Nat := (o.after.toList.filter fun e => Region.binds .any e).map (·.on)

/-- What the walk asks of a region's orders: M the operations that each waits for, A those that it is not apart from. -/
structure OrdM where
  M : List Nat
  A : List Nat

def mAt (l : List Nat) (i : Nat) : Nat := l.getD i 0

def rdyB (od : OrdM) (m i : Nat) : Bool := !(m.testBit i) && Nat.beq (mAt od.M i &&& m) (mAt od.M i)
def freeB (od : OrdM) (N m i : Nat) : Bool := Nat.beq (mAt od.A i &&& ((2 ^ N - 1) ^^^ m)) 0
/-- None but those of the list is ready. -/
def onlyB (od : OrdM) (m : Nat) (is : List Nat) : Nat → Bool
  | 0 => true
  | k + 1 => (is.any (Nat.beq k) || !(rdyB od m k)) && onlyB od m is k

def chkM (od : OrdM) : Nat → List Oper → Bool
  | _, [] => true
  | i, o :: l => Nat.beq (maskL (afterL o)) (mAt od.M i) && chkM od (i + 1) l

def chkRow (M : List Nat) (Ai i Di Ki : Nat) : Nat → List Nat → List Nat → List Nat → Bool
  | j, mj :: Ms, dj :: Ds, kj :: Ks => (Ai.testBit j || (Nat.beq i j || (mj.testBit i || (Nat.beq (Di &&& (kj ||| dj)) 0 && Nat.beq (dj &&& Ki) 0)))) && chkRow M Ai i Di Ki (j + 1) Ms Ds Ks
  | _, _, _, _ => true

def chkA (od : OrdM) (D K : List Nat) : Nat → List Nat → List Nat → Bool
  | i, d :: Ds, k :: Ks => chkRow od.M (mAt od.A i) i d k 0 od.M D K && chkA od D K (i + 1) Ds Ks
  | _, _, _ => true

def dMask (ops : List Oper) : List Nat := ops.map fun o => maskL o.dst.toList
def kMask (opsA : Array Oper) (ops : List Oper) : List Nat := ops.map fun o => maskL (o.looksAt opsA)

def natListEq : List Nat → List Nat → Bool
  | [], [] => true
  | a :: l, b :: r => Nat.beq a b && natListEq l r
  | _, _ => false

theorem natListEq_eq : ∀ {l r : List Nat}, natListEq l r = true → l = r
  | [], [], _ => rfl
  | a :: l, b :: r, h => by
    simp only [natListEq, Bool.and_eq_true] at h
    rw [Nat.eq_of_beq_eq_true h.1, natListEq_eq h.2]

def chkOrd (od : OrdM) (D K : List Nat) (opsA : Array Oper) : Bool :=
  Nat.beq od.M.length opsA.size && (chkM od 0 opsA.toList && (natListEq (dMask opsA.toList) D && (natListEq (kMask opsA opsA.toList) K && chkA od D K 0 D K)))

def seqC (od : OrdM) : Nat → Nat → Nat → Nat → Bool
  | 0, _, N, m => onlyB od m [] N
  | g + 1, k, N, m => (rdyB od m k && onlyB od m [k] N) && seqC od g (k + 1) N (m ||| 2 ^ k)

def DR (P : Program) (tk : TypeId → RK) (ops : Array Oper) (n : Nat) (od : OrdM) (W : Nat → Prop) : Tr → Nat → Nat → (Env → World → Prop) → Env → World → Prop
  | .take i t, f + 1, m, K, e, w =>
    bif rdyB od m i && (freeB od ops.size m i && Nat.blt i n) then
      match ops[i]? with
      | some o => guardK ops o e (DStill P tk W w o (fun v => DR P tk ops n od W t f (m ||| 2 ^ i) K (eput o.dst v e) w) e) (DR P tk ops n od W t f (m ||| 2 ^ i) K (eput o.dst undef e) w)
      | none => False
    else False
  | .eff i t, f + 1, m, K, e, w =>
    bif (rdyB od m i && onlyB od m [i] ops.size) && Nat.blt i n then
      match ops[i]? with
      | some o => guardK ops o e (DOp P tk o (fun v w' => Chg W w w' ∧ DR P tk ops n od W t f (m ||| 2 ^ i) K (eput o.dst v e) w') e w) (DR P tk ops n od W t f (m ||| 2 ^ i) K (eput o.dst undef e) w)
      | none => False
    else False
  | .out i b t, f + 1, m, K, e, w =>
    bif (rdyB od m i && onlyB od m [i] ops.size) && (Nat.blt i n && Nat.beq ((sensM 0 ops.toList &&& m) &&& mAt od.M i) (sensM 0 ops.toList &&& m)) then
      match ops[i]? with
      | some o => guardK ops o e (DOp P tk o (fun v w' => bif b then ∃ V : Nat → Prop, DR P tk ops n od V t f (m ||| 2 ^ i) K (eput o.dst v e) w' else DR P tk ops n od W t f (m ||| 2 ^ i) K (eput o.dst v e) w') e w) (DR P tk ops n od W t f (m ||| 2 ^ i) K (eput o.dst undef e) w)
      | none => False
    else False
  | .two i t j u, f + 1, m, K, e, w =>
    bif (rdyB od m i && onlyB od m [i, j] ops.size) && (Nat.blt i n && Nat.blt j n) then
      match ops[i]?, ops[j]? with
      | some o, some q =>
        guardK ops o e (DOp P tk o (fun v w' => Chg W w w' ∧ DR P tk ops n od W t f (m ||| 2 ^ i) K (eput o.dst v e) w') e w) (DR P tk ops n od W t f (m ||| 2 ^ i) K (eput o.dst undef e) w) ∧
        guardK ops q e (DOp P tk q (fun v w' => Chg W w w' ∧ DR P tk ops n od W u f (m ||| 2 ^ j) K (eput q.dst v e) w') e w) (DR P tk ops n od W u f (m ||| 2 ^ j) K (eput q.dst undef e) w)
      | _, _ => False
    else False
  | .three i t j u k x, f + 1, m, K, e, w =>
    bif (rdyB od m i && onlyB od m [i, j, k] ops.size) && (Nat.blt i n && (Nat.blt j n && Nat.blt k n)) then
      match ops[i]?, ops[j]?, ops[k]? with
      | some o, some q, some r =>
        guardK ops o e (DOp P tk o (fun v w' => Chg W w w' ∧ DR P tk ops n od W t f (m ||| 2 ^ i) K (eput o.dst v e) w') e w) (DR P tk ops n od W t f (m ||| 2 ^ i) K (eput o.dst undef e) w) ∧
        guardK ops q e (DOp P tk q (fun v w' => Chg W w w' ∧ DR P tk ops n od W u f (m ||| 2 ^ j) K (eput q.dst v e) w') e w) (DR P tk ops n od W u f (m ||| 2 ^ j) K (eput q.dst undef e) w) ∧
        guardK ops r e (DOp P tk r (fun v w' => Chg W w w' ∧ DR P tk ops n od W x f (m ||| 2 ^ k) K (eput r.dst v e) w') e w) (DR P tk ops n od W x f (m ||| 2 ^ k) K (eput r.dst undef e) w)
      | _, _, _ => False
    else False
  | .sp s t u, f, m, K, e, w =>
    match e.get s with
    | some (.bool c) => (c = true → DR P tk ops n od W t f m K ((s, .bool true) :: e) w) ∧ (c = false → DR P tk ops n od W u f m K ((s, .bool false) :: e) w)
    | _ => False
  | .fin, 0, m, K, e, w => bif onlyB od m [] ops.size && Nat.beq n ops.size then K e w else False
  | .tail as, 0, m, K, e, w => bif seqC od (ops.size - n) n ops.size m && Nat.blt n ops.size then DOps P tk ops (ops.size - n + 1) (ops.toList.drop n) as K e w else False
  | _, _, _, _, _, _ => False

def listA (N m : Nat) : Array Bool := (Array.range N).map fun i => m.testBit i

theorem listA_size (N m : Nat) : (listA N m).size = N := by simp [listA]

theorem listA_getD {N m i : Nat} {d : Bool} (h : i < N) : (listA N m).getD i d = m.testBit i := by
  simp [listA, h]
theorem listA_getD_ge {N m i : Nat} {d : Bool} (h : N ≤ i) : (listA N m).getD i d = d := by
  simp [listA, h]

theorem listA_set (N m i : Nat) : (listA N m).setIfInBounds i true = listA N (m ||| 2 ^ i) := by
  apply Array.ext
  · simp [listA]
  · intro j h1 h2
    have hj : j < N := by simpa [listA] using h2
    have h3 : j < (listA N m).size := by simpa [listA] using hj
    rw [Array.getElem_setIfInBounds h3]
    simp only [listA, Array.getElem_map, Array.getElem_range, Nat.testBit_or, Nat.testBit_two_pow]
    by_cases hij : i = j
    · subst hij; simp
    · simp [hij]

theorem listA_zero (N : Nat) : listA N 0 = Array.replicate N false := by
  apply Array.ext
  · simp [listA]
  · intro j h1 h2
    simp [listA]

section
variable {ops : Array Oper} {od : OrdM} {D K : List Nat}

theorem chkM_at : ∀ (l : List Oper) (i k : Nat) (o : Oper), chkM od i l = true → l[k]? = some o → mAt od.M (i + k) = maskL (afterL o)
  | [], _, _, _, _, h => by simp at h
  | p :: l, i, 0, o, hc, h => by
    simp only [chkM, Bool.and_eq_true] at hc
    simp only [List.getElem?_cons_zero, Option.some.injEq] at h
    subst h
    exact (Nat.eq_of_beq_eq_true hc.1).symm
  | p :: l, i, k + 1, o, hc, h => by
    simp only [chkM, Bool.and_eq_true] at hc
    have := chkM_at l (i + 1) k o hc.2 (by simpa using h)
    rw [show i + (k + 1) = i + 1 + k by omega]
    exact this

theorem chk_M (h : chkOrd od D K ops = true) {i : Nat} {o : Oper} (ho : ops[i]? = some o) : mAt od.M i = maskL (afterL o) := by
  simp only [chkOrd, Bool.and_eq_true] at h
  have := chkM_at ops.toList 0 i o h.2.1 (by simpa using ho)
  simpa using this

theorem land_eq_self {a b : Nat} (h : a &&& b = a) {k : Nat} (hk : a.testBit k = true) : b.testBit k = true := by
  have := congrArg (fun x => x.testBit k) h
  simp only [Nat.testBit_and, hk, Bool.true_and] at this
  exact this

theorem sensM_at : ∀ (l : List Oper) (i k : Nat) (o : Oper), l[k]? = some o → (sensM i l).testBit (i + k) = isSens o
  | [], _, _, _, h => by simp at h
  | p :: l, i, 0, o, h => by
    simp only [List.getElem?_cons_zero, Option.some.injEq] at h
    subst h
    have low : ∀ (l : List Oper) (i k : Nat), k < i → (sensM i l).testBit k = false := by
      intro l
      induction l with
      | nil => intro i k _; simp [sensM]
      | cons q l ih =>
        intro i k hk
        simp only [sensM]
        cases isSens q
        · exact ih (i + 1) k (by omega)
        · simp only [cond_true, Nat.testBit_or, Nat.testBit_two_pow, ih (i + 1) k (by omega), Bool.or_false, decide_eq_false_iff_not]
          omega
    simp only [sensM, Nat.add_zero]
    cases isSens p
    · exact low l (i + 1) i (by omega)
    · simp [Nat.testBit_or]
  | p :: l, i, k + 1, o, h => by
    have := sensM_at l (i + 1) k o (by simpa using h)
    rw [show i + 1 + k = i + (k + 1) by omega] at this
    simp only [sensM]
    cases isSens p
    · exact this
    · simp only [cond_true, Nat.testBit_or, Nat.testBit_two_pow, this]
      simp

theorem mem_afterL {o : Oper} {k : Nat} : k ∈ afterL o ↔ ∃ e ∈ o.after, Region.binds .any e = true ∧ e.on = k := by
  simp only [afterL, List.mem_map, List.mem_filter, Array.mem_toList_iff]
  constructor
  · rintro ⟨e, ⟨h1, h2⟩, h3⟩; exact ⟨e, h1, h2, h3⟩
  · rintro ⟨e, h1, h2, h3⟩; exact ⟨e, ⟨h1, h2⟩, h3⟩

/-- Bits beyond the region are not set. -/
def Small (N m : Nat) : Prop := ∀ k, N ≤ k → m.testBit k = false

theorem small_zero (N : Nat) : Small N 0 := fun k _ => by simp
theorem small_or {N m i : Nat} (h : Small N m) (hi : i < N) : Small N (m ||| 2 ^ i) := fun k hk => by
  simp only [Nat.testBit_or, h k hk, Nat.testBit_two_pow, Bool.false_or, decide_eq_false_iff_not]
  omega

theorem rdy_iff (hc : chkOrd od D K ops = true) {m i : Nat} (hm : Small ops.size m) : i ∈ Region.ready .any ops (listA ops.size m) ↔ i < ops.size ∧ rdyB od m i = true := by
  rw [mem_ready]
  constructor
  · rintro ⟨h1, o, ho, hall⟩
    have hi : i < ops.size := (Array.getElem?_eq_some_iff.1 ho).1
    refine ⟨hi, ?_⟩
    rw [listA_getD hi] at h1
    simp only [rdyB, h1, Bool.not_false, Bool.true_and]
    rw [chk_M hc ho]
    have : maskL (afterL o) &&& m = maskL (afterL o) := by
      apply Nat.eq_of_testBit_eq
      intro k
      simp only [Nat.testBit_and, testBit_maskL]
      by_cases hk : k ∈ afterL o
      · obtain ⟨e, he, hb, hon⟩ := mem_afterL.1 hk
        have h2 := hall e he hb
        rw [hon] at h2
        rcases Nat.lt_or_ge k ops.size with hlt | hge
        · rw [listA_getD hlt] at h2; simp [hk, h2]
        · rw [listA_getD_ge hge] at h2; cases h2
      · simp [hk]
    rw [this]; exact Nat.beq_refl _
  · rintro ⟨hi, h⟩
    simp only [rdyB, Bool.and_eq_true, Bool.not_eq_true'] at h
    have ho : ops[i]? = some ops[i] := by simp [hi]
    refine ⟨by rw [listA_getD hi]; exact h.1, ops[i], ho, fun e he hb => ?_⟩
    have h2 := Nat.eq_of_beq_eq_true h.2
    rw [chk_M hc ho] at h2
    have h3 : m.testBit e.on = true := land_eq_self h2 (by
      rw [testBit_maskL]; simp only [decide_eq_true_eq]; exact mem_afterL.2 ⟨e, he, hb, rfl⟩)
    have hlt : e.on < ops.size := by
      rcases Nat.lt_or_ge e.on ops.size with h | h
      · exact h
      · rw [hm _ h] at h3; cases h3
    rw [listA_getD hlt]; exact h3

theorem onlyB_spec : ∀ (N : Nat) {m : Nat} {is : List Nat}, onlyB od m is N = true → ∀ k, k < N → rdyB od m k = true → k ∈ is
  | 0, _, _, _, k, hk, _ => by omega
  | N + 1, m, is, h, k, hk, hr => by
    simp only [onlyB, Bool.and_eq_true, Bool.or_eq_true, Bool.not_eq_true'] at h
    rcases Nat.lt_or_ge k N with h1 | h1
    · exact onlyB_spec N h.2 k h1 hr
    · have : k = N := by omega
      subst this
      rcases h.1 with h2 | h2
      · obtain ⟨x, hx, hb⟩ := List.any_eq_true.1 h2
        rw [Nat.eq_of_beq_eq_true hb]; exact hx
      · rw [hr] at h2; cases h2

theorem ready_mem (hc : chkOrd od D K ops = true) {m : Nat} {is : List Nat} (hm : Small ops.size m) (h : onlyB od m is ops.size = true) :
    ∀ k ∈ Region.ready .any ops (listA ops.size m), k ∈ is := fun k hk =>
  let ⟨h1, h2⟩ := (rdy_iff hc hm).1 hk
  onlyB_spec _ h k h1 h2

theorem chkRow_at : ∀ (Ms Ds Ks : List Nat) (M0 : List Nat) (Ai i Di Ki j k : Nat) (mj dj kj : Nat), chkRow M0 Ai i Di Ki j Ms Ds Ks = true → Ms[k]? = some mj → Ds[k]? = some dj → Ks[k]? = some kj →
    Ai.testBit (j + k) = true ∨ i = j + k ∨ mj.testBit i = true ∨ (Di &&& (kj ||| dj) = 0 ∧ dj &&& Ki = 0)
  | [], _, _, _, _, _, _, _, _, _, _, _, _, _, h, _, _ => by simp at h
  | _ :: _, [], _, _, _, _, _, _, _, _, _, _, _, _, _, h, _ => by simp at h
  | _ :: _, _ :: _, [], _, _, _, _, _, _, _, _, _, _, _, _, _, h => by simp at h
  | mj0 :: Ms, dj0 :: Ds, kj0 :: Ks, M0, Ai, i, Di, Ki, j, k, mj, dj, kj, hc, h1, h2, h3 => by
    simp only [chkRow, Bool.and_eq_true, Bool.or_eq_true] at hc
    cases k with
    | zero =>
      simp only [List.getElem?_cons_zero, Option.some.injEq] at h1 h2 h3
      subst h1 h2 h3
      rcases hc.1 with h | h | h | h
      · exact .inl h
      · exact .inr (.inl (Nat.eq_of_beq_eq_true h))
      · exact .inr (.inr (.inl h))
      · exact .inr (.inr (.inr ⟨Nat.eq_of_beq_eq_true h.1, Nat.eq_of_beq_eq_true h.2⟩))
    | succ k =>
      have := chkRow_at Ms Ds Ks M0 Ai i Di Ki (j + 1) k mj dj kj hc.2 (by simpa using h1) (by simpa using h2) (by simpa using h3)
      rw [show j + (k + 1) = j + 1 + k by omega]
      exact this

theorem chkA_at : ∀ (Ds Ks : List Nat) (i k : Nat) (di ki : Nat), chkA od D K i Ds Ks = true → Ds[k]? = some di → Ks[k]? = some ki →
    chkRow od.M (mAt od.A (i + k)) (i + k) di ki 0 od.M D K = true
  | [], _, _, _, _, _, _, h, _ => by simp at h
  | _ :: _, [], _, _, _, _, _, _, h => by simp at h
  | d :: Ds, k0 :: Ks, i, k, di, ki, hc, h1, h2 => by
    simp only [chkA, Bool.and_eq_true] at hc
    cases k with
    | zero =>
      simp only [List.getElem?_cons_zero, Option.some.injEq] at h1 h2
      subst h1 h2
      exact hc.1
    | succ k =>
      have := chkA_at Ds Ks (i + 1) k di ki hc.2 (by simpa using h1) (by simpa using h2)
      rw [show i + (k + 1) = i + 1 + k by omega]
      exact this

theorem land_zero {a b : Nat} (h : a &&& b = 0) {k : Nat} (ha : a.testBit k = true) : b.testBit k = false := by
  have := congrArg (fun x => x.testBit k) h
  simp only [Nat.testBit_and, ha, Bool.true_and, Nat.zero_testBit] at this
  exact this

theorem apart_of {x y : Oper} (h1 : maskL x.dst.toList &&& (maskL (y.looksAt ops) ||| maskL y.dst.toList) = 0) (h2 : maskL y.dst.toList &&& maskL (x.looksAt ops) = 0) :
    x.apart ops y = true := by
  unfold Oper.apart
  simp only [Bool.and_eq_true]
  refine ⟨?_, ?_⟩
  · cases hx : x.dst with
    | none => rfl
    | some d =>
      rw [hx] at h1
      have h3 := land_zero h1 (k := d) (by rw [testBit_maskL]; simp)
      simp only [Nat.testBit_or, testBit_maskL, Bool.or_eq_false_iff, decide_eq_false_iff_not] at h3
      simp only [Bool.and_eq_true, Bool.not_eq_true', bne_iff_ne, ne_eq]
      refine ⟨by simpa using h3.1, fun h => ?_⟩
      rw [h] at h3
      simp at h3
  · cases hy : y.dst with
    | none => rfl
    | some d =>
      rw [hy] at h2
      have h3 := land_zero h2 (k := d) (by rw [testBit_maskL]; simp)
      simp only [testBit_maskL, decide_eq_false_iff_not] at h3
      simpa using h3

theorem free_of (hc : chkOrd od D K ops = true) {m i : Nat} {oi : Oper} (hi : ops[i]? = some oi) (h : freeB od ops.size m i = true) :
    ∀ j oj, ops[j]? = some oj → j ≠ i → (listA ops.size m).getD j true = false → (∀ e ∈ oj.after, Region.binds .any e = true → e.on ≠ i) → oi.apart ops oj = true := by
  intro j oj hj hji hun hno
  have hc' := hc
  simp only [chkOrd, Bool.and_eq_true] at hc
  obtain ⟨hlen, hM, hD, hK, hA⟩ := hc
  have hlen' := Nat.eq_of_beq_eq_true hlen
  have hD' := natListEq_eq hD
  have hK' := natListEq_eq hK
  have hji' : j < ops.size := (Array.getElem?_eq_some_iff.1 hj).1
  have gD : ∀ {k : Nat} {o : Oper}, ops[k]? = some o → D[k]? = some (maskL o.dst.toList) := fun {k o} ho => by
    rw [← hD']; simp [dMask, ho]
  have gK : ∀ {k : Nat} {o : Oper}, ops[k]? = some o → K[k]? = some (maskL (o.looksAt ops)) := fun {k o} ho => by
    rw [← hK']; simp [kMask, ho]
  have hrow := chkA_at D K 0 i _ _ hA (gD hi) (gK hi)
  have hMj : od.M[j]? = some (mAt od.M j) := by
    unfold mAt
    have : j < od.M.length := by omega
    simp [List.getD, this]
  have := chkRow_at od.M D K od.M _ _ _ _ 0 j _ _ _ hrow hMj (gD hj) (gK hj)
  simp only [Nat.zero_add] at this
  rcases this with h1 | h1 | h1 | h1
  · exfalso
    have h2 := Nat.eq_of_beq_eq_true h
    have h3 := land_zero h2 h1
    rw [listA_getD hji'] at hun
    simp [Nat.testBit_xor, Nat.testBit_two_pow_sub_one, hji', hun] at h3
  · exact absurd h1.symm hji
  · exfalso
    rw [chk_M hc' hj, testBit_maskL] at h1
    simp only [decide_eq_true_eq] at h1
    obtain ⟨e, he, hb, hon⟩ := mem_afterL.1 h1
    exact hno e he hb hon
  · exact apart_of h1.1 h1.2

end

/-- The operation at j waits for all of those listed whose values hang on the world. -/
def Past (ops : Array Oper) (listed : Array Bool) (j : Nat) : Prop :=
  ∀ k ok oj, ops[k]? = some ok → ops[j]? = some oj → isSens ok = true → listed.getD k false = true → ∃ e ∈ oj.after, Region.binds .any e = true ∧ e.on = k

def MH (P : Program) (ops : Array Oper) (Q : Exit → Act → World → Prop) (n : Nat) (L : Array Bool → Act → World → Prop) : Nat → (World → Prop) → Array Bool → Act → World → Prop
  | 0, _, listed, a, w => L listed a w
  | f + 1, S, listed, a, w => Region.ready .any ops listed ≠ [] ∧
      ∀ i ∈ Region.ready .any ops listed, i < n ∧ wpOp P ops Q i (fun a' w' => ∃ S' : World → Prop, ((∀ x, S' x → S x) ∨ Past ops listed i) ∧ S' w' ∧ MH P ops Q n L f S' (listed.setIfInBounds i true) a' w') a w

def TailWaits (ops : Array Oper) (n : Nat) : Prop :=
  ∀ listed, HeadInv .any ops n listed → ∀ i, i < n → listed.getD i true = false → ∀ t, n ≤ t → t ∉ Region.ready .any ops listed

theorem tailWaits_all (ops : Array Oper) : TailWaits ops ops.size := by
  intro listed _ i _ _ t ht hr
  obtain ⟨_, o, ho, _⟩ := mem_ready.1 hr
  have := (Array.getElem?_eq_some_iff.1 ho).1
  omega

theorem tailWaits_of {ops : Array Oper} {n : Nat} (hs : Region.sinkB .any ops n = true) (hc : Region.chainB .any ops n = true) (hn : n < ops.size) : TailWaits ops n :=
  fun _ inv i hi hun t ht => tail_waits hs hc hn inv _ i rfl hi hun t ht

section
variable {P : Program} {ops : Array Oper} {Q : Exit → Act → World → Prop} {n : Nat} {L : Array Bool → Act → World → Prop}

theorem YieldsIf.mono {S S' : World → Prop} {o : Oper} {v : Value} {a : Act} (h : YieldsIf P ops S o v a) (hs : ∀ x, S' x → S x) : YieldsIf P ops S' o v a :=
  h.imp (fun ⟨h1, h2⟩ => ⟨h1, fun w hw => h2 w (hs w hw)⟩) id

theorem MH_first (htw : TailWaits ops n) {i : Nat} {oi : Oper} {v : Value} (hi : ops[i]? = some oi) (hsel : ∀ (j : Nat) (o : Oper) cs b, ops[j]? = some o → o.op ≠ .select cs b)
    (hQ : ∀ c a w, Q (.panic c) (a.put oi.dst v) w → Q (.panic c) a w) (hin : i < n) (hdone : ∀ listed a w, L listed a w → ∀ j ∈ Region.ready .any ops listed, n ≤ j) :
    ∀ (f : Nat) (S T : World → Prop) (listed : Array Bool) (a : Act) (w : World), (∀ x, S x → T x) → (isSens oi = true ∨ ∀ x, T x) → HeadInv .any ops n listed →
      (∀ j oj, ops[j]? = some oj → j ≠ i → listed.getD j true = false → (∀ e ∈ oj.after, Region.binds .any e = true → e.on ≠ i) → oi.apart ops oj = true) →
      i ∈ Region.ready .any ops listed → YieldsIf P ops T oi v a → S w →
      MH P ops Q n L f S (listed.setIfInBounds i true) (a.put oi.dst v) w → MH P ops Q n L (f + 1) S listed a w := by
  intro f
  induction f with
  | zero =>
    intro S T listed a w hST hTT inv _ hr hy hS H
    have hun := (mem_ready.1 hr).1
    refine ⟨fun h => (by rw [h] at hr; cases hr), fun j hj => ?_⟩
    have hjn : j < n := by
      rcases Nat.lt_or_ge j n with h | h
      · exact h
      · exact absurd hj (htw listed inv i hin hun j h)
    refine ⟨hjn, ?_⟩
    by_cases hji : j = i
    · subst hji; exact (YieldsIf.mono hy hST).wpOp hi hS ⟨S, .inl fun _ h => h, hS, H⟩
    · have := hdone _ _ _ H j (ready_mono hj hji)
      omega
  | succ f ih =>
    intro S T listed a w hST hTT inv hfree hr hy hS H
    have hun := (mem_ready.1 hr).1
    refine ⟨fun h => (by rw [h] at hr; cases hr), fun j hj => ?_⟩
    have hjn : j < n := by
      rcases Nat.lt_or_ge j n with h | h
      · exact h
      · exact absurd hj (htw listed inv i hin hun j h)
    refine ⟨hjn, ?_⟩
    by_cases hji : j = i
    · subst hji; exact (YieldsIf.mono hy hST).wpOp hi hS ⟨S, .inl fun _ h => h, hS, H⟩
    · have h1 := (H.2 j (ready_mono hj hji)).2
      obtain ⟨hjun, oj, hoj, hall⟩ := mem_ready.1 hj
      have hnot : ∀ e ∈ oj.after, Region.binds .any e = true → e.on ≠ i := fun e he hb heq => by
        have h1 := hall e he hb
        rw [heq, getD_both hun] at h1
        cases h1
      have h2 := wpOp_putIf hoj (hfree j oj hoj hji hjun hnot) (fun cs b => hsel i oi cs b hi) (fun cs b => hsel j oj cs b hoj) hQ hy h1
      have hfree' : ∀ k ok, ops[k]? = some ok → k ≠ i → (listed.setIfInBounds j true).getD k true = false →
          (∀ e ∈ ok.after, Region.binds .any e = true → e.on ≠ i) → oi.apart ops ok = true := fun k ok hk hki hun hno => by
        refine hfree k ok hk hki ?_ hno
        by_cases hjk : j = k
        · subst hjk; exact hjun
        · rw [getD_set_ne true hjk] at hun; exact hun
      refine wpOp_mono (fun a' w' h3 => ?_) h2
      obtain ⟨hy', S', hsub, hS', hM⟩ := h3
      have hM' := hM
      rw [← Array.setIfInBounds_comm _ _ hji] at hM'
      have hpast : Past ops (listed.setIfInBounds i true) j → Past ops listed j := fun hp k ok oj' hk hj' hs hl => hp k ok oj' hk hj' hs (by
        by_cases hik : i = k
        · subst hik
          have : listed.getD i true = true := by
            simp only [Array.getD] at hl ⊢
            split at hl
            · rename_i hlt; simp [hlt] at hl ⊢; exact hl
            · cases hl
          rw [this] at hun; cases hun
        · simp only [Array.getD, Array.size_setIfInBounds] at hl ⊢
          split at hl
          · rename_i hlt
            simp only [hlt, dif_pos]
            simp only [Array.getInternal_eq_getElem] at hl ⊢
            rw [Array.getElem_setIfInBounds_ne _ hik]
            exact hl
          · cases hl)
      rcases hTT with hs | hall'
      · have hsub' : ∀ x, S' x → S x := by
          rcases hsub with h | h
          · exact h
          · exfalso
            obtain ⟨e, he, hb, hon⟩ := h i oi oj hi hoj hs (by
              have hlt : i < listed.size := by
                rcases Nat.lt_or_ge i listed.size with h | h
                · exact h
                · simp [Array.getD, Nat.not_lt.2 h] at hun
              simp [Array.getD, hlt])
            exact hnot e he hb hon
        exact ⟨S', .inl hsub', hS', ih S' T (listed.setIfInBounds j true) a' w' (fun x hx => hST x (hsub' x hx)) (.inl hs) (inv.set hj hjn) hfree' (ready_mono hr (Ne.symm hji)) hy' hS' hM'⟩
      · exact ⟨S', hsub.imp id hpast, hS', ih S' T (listed.setIfInBounds j true) a' w' (fun x _ => hall' x) (.inr hall') (inv.set hj hjn) hfree' (ready_mono hr (Ne.symm hji)) hy' hS' hM'⟩

theorem wpAny_of_MH {g : Nat} (hL : ∀ listed a w, L listed a w → wpAny P .any ops Q g listed a w) :
    ∀ (f : Nat) (S : World → Prop) (listed : Array Bool) (a : Act) (w : World), MH P ops Q n L f S listed a w → wpAny P .any ops Q (f + g) listed a w
  | 0, _, listed, a, w, h => by rw [Nat.zero_add]; exact hL _ _ _ h
  | f + 1, S, listed, a, w, h => by
    rw [show f + 1 + g = (f + g) + 1 by omega]
    exact ⟨fun h0 => absurd h0 h.1, fun i hi => wpOp_mono (fun a' w' ⟨S', _, _, h'⟩ => wpAny_of_MH hL f S' _ a' w' h') (h.2 i hi).2⟩

/-- The end of the head. -/
def LE (P : Program) (ops : Array Oper) (Q : Exit → Act → World → Prop) (n : Nat) (listed : Array Bool) (a : Act) (w : World) : Prop :=
  (Region.ready .any ops listed = [] ∧ n = ops.size ∧ Q .normal a w) ∨
  (Region.seqB .any ops (ops.size - n) n listed = true ∧ n < ops.size ∧ wpList P ops Q (ops.toList.drop n) a w)

theorem LE_done : ∀ listed a w, LE P ops Q n listed a w → ∀ j ∈ Region.ready .any ops listed, n ≤ j := by
  rintro listed a w (⟨h, _, _⟩ | ⟨h, hn, _⟩) j hj
  · rw [h] at hj; cases hj
  · exact seqB_ready h j hj

theorem LE_any : ∀ listed a w, LE P ops Q n listed a w → wpAny P .any ops Q (ops.size - n) listed a w := by
  rintro listed a w (⟨h, hn, hq⟩ | ⟨h, hn, hq⟩)
  · subst hn
    rw [Nat.sub_self]
    exact ⟨h, hq⟩
  · have := wpAny_of_seq (md := .any) (P := P) (Q' := Q) (ops.toList.drop n) n listed a w (fun j => by simp [List.getElem?_drop]) (by simpa using h) hq
    simpa using this

end

section
variable {P : Program} {tk : TypeId → RK} {ops : Array Oper} {n : Nat} {od : OrdM} {D0 K0 : List Nat} {W : Nat → Prop}

theorem seqC_sound (hc : chkOrd od D0 K0 ops = true) : ∀ (g k m : Nat), Small ops.size m → k + g = ops.size → seqC od g k ops.size m = true → Region.seqB .any ops g k (listA ops.size m) = true
  | 0, k, m, hm, hk, h => by
    simp only [seqC] at h
    simp only [Region.seqB, List.isEmpty_iff]
    cases hr : Region.ready .any ops (listA ops.size m) with
    | nil => rfl
    | cons x l =>
      have := ready_mem hc hm h x (by rw [hr]; simp)
      cases this
  | g + 1, k, m, hm, hk, h => by
    simp only [seqC, Bool.and_eq_true] at h
    simp only [Region.seqB, Bool.and_eq_true, decide_eq_true_eq]
    have hkk : k < ops.size := by omega
    have hmem : k ∈ Region.ready .any ops (listA ops.size m) := (rdy_iff hc hm).2 ⟨hkk, h.1.1⟩
    refine ⟨?_, ?_⟩
    · have hall := ready_mem hc hm h.1.2
      have hnd : (Region.ready .any ops (listA ops.size m)).Nodup := by
        unfold Region.ready
        exact List.Pairwise.filter _ List.nodup_range
      revert hmem hall hnd
      generalize Region.ready .any ops (listA ops.size m) = l
      intro hmem hall hnd
      match l, hmem, hall, hnd with
      | [], hmem, _, _ => cases hmem
      | [x], hmem, hall, _ => rw [List.mem_singleton.1 (hall x (by simp))]
      | x :: y :: l, _, hall, hnd =>
        have hx := List.mem_singleton.1 (hall x (by simp))
        have hy := List.mem_singleton.1 (hall y (by simp))
        simp [hx, hy] at hnd
    · rw [listA_set]
      exact seqC_sound hc g (k + 1) (m ||| 2 ^ k) (small_or hm hkk) (by omega) h.2

theorem DR_sound (hc : chkOrd od D0 K0 ops = true) (htw : TailWaits ops n) (hn : n ≤ ops.size) (hsel : Region.noSelect ops = true) {a0 : Act} (hb : ∀ d ∈ dsts ops.toList, d < a0.tmps.size) :
    ∀ (t : Tr) (W : Nat → Prop) (f : Nat) (m : Nat) (K : Env → World → Prop) (e : Env) (a : Act) (w : World), Agrees e a → Keep (dsts ops.toList) a0 a → Small ops.size m → HeadInv .any ops n (listA ops.size m) →
      DR P tk ops n od W t f m K e w → MH P ops (PostL a0 (dsts ops.toList) K) n (LE P ops (PostL a0 (dsts ops.toList) K) n) f (Chg W w) (listA ops.size m) a w := by
  intro t
  have hdst : ∀ (i : Nat) (o : Oper), ops[i]? = some o → ∀ k, o.dst = some k → k ∈ dsts ops.toList := by
    intro i o ho k hk
    simp only [dsts, List.mem_filterMap]
    exact ⟨o, by simpa using Array.mem_of_getElem? ho, hk⟩
  have effOne : ∀ (W : Nat → Prop) (t : Tr), (∀ (W : Nat → Prop) (f : Nat) (m : Nat) (K : Env → World → Prop) (e : Env) (a : Act) (w : World), Agrees e a → Keep (dsts ops.toList) a0 a → Small ops.size m → HeadInv .any ops n (listA ops.size m) →
      DR P tk ops n od W t f m K e w → MH P ops (PostL a0 (dsts ops.toList) K) n (LE P ops (PostL a0 (dsts ops.toList) K) n) f (Chg W w) (listA ops.size m) a w) →
      ∀ (f : Nat) (m : Nat) (K : Env → World → Prop) (e : Env) (a : Act) (w : World) (i : Nat) (o : Oper), Agrees e a → Keep (dsts ops.toList) a0 a → Small ops.size m → HeadInv .any ops n (listA ops.size m) →
      i ∈ Region.ready .any ops (listA ops.size m) → i < n → ops[i]? = some o →
      guardK ops o e (DOp P tk o (fun v w' => Chg W w w' ∧ DR P tk ops n od W t f (m ||| 2 ^ i) K (eput o.dst v e) w') e w) (DR P tk ops n od W t f (m ||| 2 ^ i) K (eput o.dst undef e) w) →
      wpOp P ops (PostL a0 (dsts ops.toList) K) i (fun a' w' => ∃ S' : World → Prop, ((∀ x, S' x → Chg W w x) ∨ Past ops (listA ops.size m) i) ∧ S' w' ∧ MH P ops (PostL a0 (dsts ops.toList) K) n (LE P ops (PostL a0 (dsts ops.toList) K) n) f S' ((listA ops.size m).setIfInBounds i true) a' w') a w := by
    intro W t ih f m K e a w i o hA hk hm inv hr hin ho h
    have next : ∀ (v : Value) (w' : World), Chg W w w' → DR P tk ops n od W t f (m ||| 2 ^ i) K (eput o.dst v e) w' →
        ∃ S' : World → Prop, ((∀ x, S' x → Chg W w x) ∨ Past ops (listA ops.size m) i) ∧ S' w' ∧ MH P ops (PostL a0 (dsts ops.toList) K) n (LE P ops (PostL a0 (dsts ops.toList) K) n) f S' ((listA ops.size m).setIfInBounds i true) (a.put o.dst v) w' := by
      intro v w' hC' h
      have hk' : Keep (dsts ops.toList) a (a.put o.dst v) := Keep.put (hdst i o ho)
      have hinv := inv.set hr hin
      rw [listA_set] at hinv ⊢
      exact ⟨Chg W w', .inl fun x hx => hC'.trans hx, .refl _ _, ih W f _ K _ _ w' (hA.put fun k hk2 => by rw [hk.size]; exact hb k (hdst i o ho k hk2)) (hk.trans hk') (small_or hm (by omega)) hinv h⟩
    unfold wpOp
    simp only [ho]
    rcases guardK_sound hA h with ⟨hw, hp⟩ | ⟨hw, hp⟩
    · simp only [hw, if_true]
      exact .inl ((DOp_sound hA hp).wp fun v w' ⟨h1, h2⟩ => next v w' h1 h2)
    · simp only [hw, Bool.false_eq_true, if_false]
      exact next _ _ (.refl _ _) hp
  have bif3 : ∀ {b c d : Bool} {X : Prop}, (bif b && (c && d) then X else False) → b = true ∧ c = true ∧ d = true ∧ X := by
    intro b c d X h
    cases b <;> cases c <;> cases d <;> first | exact h.elim | exact ⟨rfl, rfl, rfl, h⟩
  have bif2 : ∀ {b c : Bool} {X : Prop}, (bif b && c then X else False) → b = true ∧ c = true ∧ X := by
    intro b c X h
    cases b <;> cases c <;> first | exact h.elim | exact ⟨rfl, rfl, h⟩
  have blt : ∀ {i j : Nat}, Nat.blt i j = true → i < j := fun h => by
    have := Nat.le_of_ble_eq_true h
    omega
  have ne_nil : ∀ {m i : Nat}, Small ops.size m → rdyB od m i = true → i < ops.size → Region.ready .any ops (listA ops.size m) ≠ [] := fun hm h hi h0 => by
    have := (rdy_iff hc hm).2 ⟨hi, h⟩
    rw [h0] at this; cases this
  induction t with
  | take i t ih =>
    intro W f m K e a w hA hk hm inv h
    cases f with
    | zero => simp [DR] at h
    | succ f =>
      simp only [DR] at h
      obtain ⟨h1, h2, h3, h⟩ := bif3 h
      have hin := blt h3
      have hr : i ∈ Region.ready .any ops (listA ops.size m) := (rdy_iff hc hm).2 ⟨by omega, h1⟩
      split at h
      · rename_i o ho
        have fin : ∀ v, YieldsIf P ops (fun x => isSens o = true → Chg W w x) o v a → DR P tk ops n od W t f (m ||| 2 ^ i) K (eput o.dst v e) w →
            MH P ops (PostL a0 (dsts ops.toList) K) n (LE P ops (PostL a0 (dsts ops.toList) K) n) (f + 1) (Chg W w) (listA ops.size m) a w := by
          intro v hy h
          have hk' : Keep (dsts ops.toList) a (a.put o.dst v) := Keep.put (hdst i o ho)
          refine MH_first htw ho (Region.noSelect_spec hsel) (fun c a w hq => by cases hq.1) hin LE_done f (Chg W w) (fun x => isSens o = true → Chg W w x) _ a w (fun _ h _ => h) (by cases hs : isSens o <;> simp) inv (free_of hc ho h2) hr hy (.refl _ _) ?_
          have hinv := inv.set hr hin
          rw [listA_set] at hinv ⊢
          exact ih W f _ K _ _ w (hA.put fun k hk2 => by rw [hk.size]; exact hb k (hdst i o ho k hk2)) (hk.trans hk') (small_or hm (by omega)) hinv h
        rcases guardK_sound hA h with ⟨hw, hp⟩ | ⟨hw, hp⟩
        · obtain ⟨v, hv, hK⟩ := DStill_sound hA hp
          exact fin v (.inl ⟨hw, fun w' hc => hv w' hc⟩) hK
        · exact fin undef (.inr ⟨hw, rfl⟩) hp
      · exact h.elim
  | eff i t ih =>
    intro W f m K e a w hA hk hm inv h
    cases f with
    | zero => simp [DR] at h
    | succ f =>
      simp only [DR] at h
      obtain ⟨h12, h3, h⟩ := bif2 h
      simp only [Bool.and_eq_true] at h12
      have hin := blt h3
      split at h
      · rename_i o ho
        refine ⟨ne_nil hm h12.1 (by omega), fun j hj => ?_⟩
        have hji : j = i := by simpa using ready_mem hc hm h12.2 j hj
        subst hji
        exact ⟨hin, effOne W t ih f m K e a w j o hA hk hm inv hj hin ho h⟩
      · exact h.elim
  | out i b t ih =>
    intro W f m K e a w hA hk hm inv h
    cases f with
    | zero => simp [DR] at h
    | succ f =>
      simp only [DR] at h
      obtain ⟨h12, h3, h4, h⟩ := bif3 h
      simp only [Bool.and_eq_true] at h12
      have hin := blt h3
      have h4 := Nat.eq_of_beq_eq_true h4
      split at h
      · rename_i o ho
        refine ⟨ne_nil hm h12.1 (by omega), fun j hj => ?_⟩
        have hji : j = i := by simpa using ready_mem hc hm h12.2 j hj
        subst hji
        refine ⟨hin, ?_⟩
        have hpast : Past ops (listA ops.size m) j := by
          intro k ok oj hk' hj' hs hl
          have hkl : k < ops.size := (Array.getElem?_eq_some_iff.1 hk').1
          rw [listA_getD hkl] at hl
          have hb' : (sensM 0 ops.toList &&& m).testBit k = true := by
            rw [Nat.testBit_and, hl, Bool.and_true]
            exact (sensM_at ops.toList 0 k ok (by simpa using hk')).trans hs |> (by simpa using ·)
          have h5 : (mAt od.M j).testBit k = true := land_eq_self h4 hb'
          rw [chk_M hc hj', testBit_maskL] at h5
          simp only [decide_eq_true_eq] at h5
          exact mem_afterL.1 h5
        have next : ∀ (v : Value) (w' : World) (V : Nat → Prop), DR P tk ops n od V t f (m ||| 2 ^ j) K (eput o.dst v e) w' →
            ∃ S' : World → Prop, ((∀ x, S' x → Chg W w x) ∨ Past ops (listA ops.size m) j) ∧ S' w' ∧ MH P ops (PostL a0 (dsts ops.toList) K) n (LE P ops (PostL a0 (dsts ops.toList) K) n) f S' ((listA ops.size m).setIfInBounds j true) (a.put o.dst v) w' := by
          intro v w' V h
          have hk' : Keep (dsts ops.toList) a (a.put o.dst v) := Keep.put (hdst j o ho)
          have hinv := inv.set hj hin
          rw [listA_set] at hinv ⊢
          exact ⟨Chg V w', .inr hpast, .refl _ _, ih V f _ K _ _ w' (hA.put fun k hk2 => by rw [hk.size]; exact hb k (hdst j o ho k hk2)) (hk.trans hk') (small_or hm (by omega)) hinv h⟩
        unfold wpOp
        simp only [ho]
        rcases guardK_sound hA h with ⟨hw, hp⟩ | ⟨hw, hp⟩
        · simp only [hw, if_true]
          refine .inl ((DOp_sound hA hp).wp fun v w' h2 => ?_)
          cases b with
          | true =>
            obtain ⟨V, h2⟩ := h2
            exact next v w' V h2
          | false => exact next v w' W h2
        · simp only [hw, Bool.false_eq_true, if_false]
          exact next _ _ W hp
      · exact h.elim
  | two i t j u iht ihu =>
    intro W f m K e a w hA hk hm inv h
    cases f with
    | zero => simp [DR] at h
    | succ f =>
      simp only [DR] at h
      obtain ⟨h12, h3, h4, h⟩ := bif3 h
      simp only [Bool.and_eq_true] at h12
      have hi := blt h3
      split at h
      · rename_i o q ho hq
        refine ⟨ne_nil hm h12.1 (by omega), fun k hk' => ?_⟩
        have hki : k = i ∨ k = j := by simpa using ready_mem hc hm h12.2 k hk'
        rcases hki with hki | hki
        · subst hki
          exact ⟨blt h3, effOne W t iht f m K e a w k o hA hk hm inv hk' (blt h3) ho h.1⟩
        · subst hki
          exact ⟨blt h4, effOne W u ihu f m K e a w k q hA hk hm inv hk' (blt h4) hq h.2⟩
      · exact h.elim
  | three i t j u k x iht ihu ihx =>
    intro W f m K e a w hA hk hm inv h
    cases f with
    | zero => simp [DR] at h
    | succ f =>
      simp only [DR] at h
      obtain ⟨h12, h3, h45, h⟩ := bif3 (d := _) h
      obtain ⟨h4, h5⟩ : Nat.blt j n = true ∧ Nat.blt k n = true := by simpa using h45
      simp only [Bool.and_eq_true] at h12
      have hi := blt h3
      split at h
      · rename_i o q r ho hq hrr
        refine ⟨ne_nil hm h12.1 (by omega), fun y hk' => ?_⟩
        have hki : y = i ∨ y = j ∨ y = k := by simpa using ready_mem hc hm h12.2 y hk'
        rcases hki with hki | hki | hki
        · subst hki
          exact ⟨blt h3, effOne W t iht f m K e a w y o hA hk hm inv hk' (blt h3) ho h.1⟩
        · subst hki
          exact ⟨blt h4, effOne W u ihu f m K e a w y q hA hk hm inv hk' (blt h4) hq h.2.1⟩
        · subst hki
          exact ⟨blt h5, effOne W x ihx f m K e a w y r hA hk hm inv hk' (blt h5) hrr h.2.2⟩
      · exact h.elim
  | sp s t u iht ihu =>
    intro W f m K e a w hA hk hm inv h
    have h' : match e.get s with
      | some (.bool c) => (c = true → DR P tk ops n od W t f m K ((s, .bool true) :: e) w) ∧ (c = false → DR P tk ops n od W u f m K ((s, .bool false) :: e) w)
      | _ => False := by cases f <;> simpa only [DR] using h
    split at h'
    · rename_i c hs
      cases c with
      | true => exact iht W f m K _ a w (hA.lit hs) hk hm inv (h'.1 rfl)
      | false => exact ihu W f m K _ a w (hA.lit hs) hk hm inv (h'.2 rfl)
    · exact h'.elim
  | fin =>
    intro W f m K e a w hA hk hm inv h
    cases f with
    | succ f => simp [DR] at h
    | zero =>
      simp only [DR] at h
      obtain ⟨h1, h2, h⟩ := bif2 h
      refine .inl ⟨?_, Nat.eq_of_beq_eq_true h2, rfl, hk, e, hA, h⟩
      cases hr : Region.ready .any ops (listA ops.size m) with
      | nil => rfl
      | cons x l =>
        have := ready_mem hc hm h1 x (by rw [hr]; simp)
        cases this
  | tail as =>
    intro W f m K e a w hA hk hm inv h
    cases f with
    | succ f => simp [DR] at h
    | zero =>
      simp only [DR] at h
      obtain ⟨h1, h2, h⟩ := bif2 h
      have hsub : ∀ k, k ∈ dsts (ops.toList.drop n) → k ∈ dsts ops.toList := fun k hk => by
        simp only [dsts, List.mem_filterMap] at hk ⊢
        obtain ⟨o, ho, hk⟩ := hk
        exact ⟨o, List.mem_of_mem_drop ho, hk⟩
      have := DOps_sound _ _ _ K e a w hA (fun d hd => by rw [hk.size]; exact hb d (hsub d hd)) h
      exact .inr ⟨seqC_sound hc _ _ _ hm (by omega) h1, blt h2, wpList_mono (fun x a' w' ⟨g1, g2, g3⟩ => ⟨g1, hk.trans (g2.mono hsub), g3⟩) _ _ _ this⟩

theorem headInv_init (ops : Array Oper) (n : Nat) : HeadInv .any ops n (Array.replicate ops.size false) :=
  ⟨by simp, fun j oj _ hl => (by rw [getD_replicate_false] at hl; cases hl), fun t _ ht => getD_in (by simpa using ht) (getD_replicate_false _ _)⟩

/-- What must be shown of a region that draws. -/
def DRegion (P : Program) (tk : TypeId → RK) (ops : Array Oper) (n : Nat) (hasEff : Bool) (od : OrdM) (D0 K0 : List Nat) (t : Tr) (K : Env → World → Prop) (e : Env) (w : World) : Prop :=
  bif (Region.noSelect ops && chkOrd od D0 K0 ops) && (bif Nat.beq n ops.size then true else Nat.blt n ops.size && (Region.sinkB .any ops n && Region.chainB .any ops n)) then
    bif hasEff then
      Nx w.drew fun w1 => ∃ W : Nat → Prop, DR P tk ops n od W t n 0 K e w1
    else Nx w.drew fun w1 => DR P tk ops n od (fun _ => False) t n 0 K e w1
  else False

theorem DRegion_sound {id : Nat} {hasEff : Bool} {t : Tr} {K : Env → World → Prop} {e : Env} {a : Act} {w : World} (hm : P.follows .mixedOrders = true)
    (hA : Agrees e a) (hb : ∀ d ∈ dsts ops.toList, d < a.tmps.size) (h : DRegion P tk ops n hasEff od D0 K0 t K e w) :
    (Code.region id ops true).wp P (PostL a (dsts ops.toList) K) a w := by
  unfold DRegion at h
  cases h0 : (Region.noSelect ops && chkOrd od D0 K0 ops) with
  | false => rw [h0] at h; exact h.elim
  | true =>
    rw [h0] at h
    simp only [Bool.true_and] at h
    simp only [Bool.and_eq_true] at h0
    obtain ⟨h1, hc⟩ := h0
    cases h2 : (bif Nat.beq n ops.size then true else Nat.blt n ops.size && (Region.sinkB .any ops n && Region.chainB .any ops n)) with
    | false => rw [h2] at h; exact h.elim
    | true =>
      rw [h2] at h
      simp only [cond_true] at h
      have htw : TailWaits ops n := by
        cases hn : Nat.beq n ops.size with
        | true => rw [Nat.eq_of_beq_eq_true hn]; exact tailWaits_all ops
        | false =>
          rw [hn] at h2
          simp only [cond_false, Bool.and_eq_true] at h2
          refine tailWaits_of h2.2.1 h2.2.2 ?_
          have := Nat.le_of_ble_eq_true h2.1
          omega
      have hle : n ≤ ops.size := by
        cases hn : Nat.beq n ops.size with
        | true => rw [Nat.eq_of_beq_eq_true hn]; exact Nat.le_refl _
        | false =>
          rw [hn] at h2
          simp only [cond_false, Bool.and_eq_true] at h2
          have := Nat.le_of_ble_eq_true h2.1
          omega
      have key : ∀ W, DR P tk ops n od W t n 0 K e w.drew → (Code.region id ops true).wp P (PostL a (dsts ops.toList) K) a w := by
        intro W h
        refine wp_region_any hm ?_
        have hM := DR_sound hc htw hle h1 hb t W n 0 K e a w.drew hA (.refl _ _) (small_zero _) (by rw [listA_zero]; exact headInv_init ops n) h
        rw [listA_zero] at hM
        have := wpAny_of_MH LE_any _ _ _ _ _ hM
        rw [show n + (ops.size - n) = ops.size by omega] at this
        exact this
      cases hasEff with
      | true => obtain ⟨W, h⟩ := h; exact key W h
      | false => exact key _ h

end

end Gx
