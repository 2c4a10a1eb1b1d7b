/- What a Go program of the model must show, as text that can be read; sound against the kit. -/
import Derived.Carry
import Derived.Defers
import Derived.Lib.Overlaps
import Derived.WideKeyRuns
import Derived.Test.YtplieiecebljmaaGreatKNone1
namespace Gx
open Go
def Dfr (P : Program) (f : FuncId) (args : Array Value) (w : World) (K : World → Prop) : Prop :=
 Callable P f ∧ CallsD P f args .returning w fun e u' w' => (∃ v, e = .returned v) ∧ u' = .returning ∧ K w'
def DDef (P : Program) (tk : TypeId → RK) (c : Code) (K : FuncId → Array Value → Array Value → Env → World → Prop) (e : Env) (w : World) : Prop :=
 match c with
 | .region _ ops false => match ops.toList with
   | [o1, o2] => match o1.guard, o2.guard, o2.dst, o2.op with
     | none, none, none, .defer call => match call.callee, call.args.toList with
       | .value x, [] => DOp P tk o1 (fun v w' => match ev (eput o1.dst v e) x with | some (.func (.func f) first cap) => K f first cap (eput o1.dst v e) w' | _ => False) e w
       | _, _ => False
     | _, _, _, _ => False
   | _ => False
 | _ => False
def DD (P : Program) (tk : TypeId → RK) : AT → Code → (Exit → Env → World → Prop) → (FuncId → Array Value → Array Value → Exit → Env → World → Prop) → Env → World → Prop
 | .seq .leaf B, .seq a b, _, Kd, e, w => DDef P tk a (fun f first cap e' w' => D P tk B b (Kd f first cap) e' w') e w
 | .seq A B, .seq a b, K, Kd, e, w => D P tk A a (fun x e' w' => match x with | .normal => DD P tk B b K Kd e' w' | x => K x e' w') e w
 | _, _, _, _, _, _ => False
def KD (P : Program) (tk : TypeId → RK) (rs : List ResultVar) (R : Value → World → Prop) (f : FuncId) (first cap : Array Value) (x : Exit) (e : Env) (w : World) : Prop :=
 match x with
 | .normal | .ret => Dfr P f (first ++ cap) w fun w' => resE P tk rs e w' fun vs => R (resV vs) w'
 | _ => False
def DFD (P : Program) (tk : TypeId → RK) (A : AT) (fn : Func) (args : List Value) (w : World) (R : Value → World → Prop) : Prop :=
 match fn.body with
 | some c => DD P tk A c (KR P tk fn.results.toList R) (KD P tk fn.results.toList R) (initEnv 0 args) w
 | none => False
variable {P : Program} {tk : TypeId → RK}
def dOf (f : FuncId) (first cap : Array Value) : Deferred := { target := .fn (.func f) cap, args := first ++ #[] }
theorem DDef_sound {c : Code} {K : FuncId → Array Value → Array Value → Env → World → Prop} {e : Env} {a : Act} {w : World} (hA : Agrees e a) (hb : ∀ d ∈ writes c, d < a.tmps.size) (h : DDef P tk c K e w) :
   c.wp P (fun x a' w' => x = .normal ∧ ∃ f first cap, a'.defers = dOf f first cap :: a.defers ∧ a'.tmps.size = a.tmps.size ∧ ∃ e', Agrees e' a' ∧ K f first cap e' w') a w := by
 unfold DDef at h
 split at h
 case h_2 => exact h.elim
 rename_i id ops
 split at h
 case h_2 => exact h.elim
 rename_i o1 o2 hl
 split at h
 case h_2 => exact h.elim
 rename_i call hg1 hg2 hd2 hop
 split at h
 case h_2 => exact h.elim
 rename_i x hc hargs
 refine wp_region_list ?_
 rw [hl]
 have w1 : Region.wanted o1 (yielded ops a.tmps) = true := by unfold Region.wanted; rw [hg1]
 simp only [wpList, w1, if_true]
 refine .inl ((DOp_sound hA h).wp ?_)
 intro v w' hv
 have hw2 : Region.wanted o2 (yielded ops (a.put o1.dst v).tmps) = true := by unfold Region.wanted; rw [hg2]
 simp only [hw2, if_true]
 refine .inl ?_
 split at hv
 case h_2 => exact hv.elim
 rename_i f first cap hev
 have hA1 : Agrees (eput o1.dst v e) (a.put o1.dst v) := hA.put fun k hk => hb k (by simp [writes, hl, dsts, hk])
 have hca : call.args = #[] := by
   have := congrArg List.toArray hargs
   simpa using this
 have hrun : (execOp (a.put o1.dst v).eval o2).run P w' = .ok (.defer (dOf f first cap)) w' := by
   have hm : ∀ g : Operand → Value, Array.map g #[] = #[] := fun g => by simp
   simp only [execOp, hop, resolve, hc, hca, hA1.ev hev, hm]
   rfl
 show o2.upon P _ _ _ ((execOp (a.put o1.dst v).eval o2).run P w')
 rw [hrun, Oper.upon_defer, hd2]
 refine ⟨trivial, f, first, cap, ?_, ?_, eput o1.dst v e, ?_, hv⟩
 · have := (Keep.put (a := a) (d := o1.dst) (v := v) (ds := dsts [o1]) (fun k hk => by simp [dsts, hk])).defers
   show dOf f first cap :: (a.put o1.dst v).defers = _
   rw [this]
 · exact (Keep.put (a := a) (d := o1.dst) (v := v) (ds := dsts [o1]) (fun k hk => by simp [dsts, hk])).size
 · exact ⟨fun s v hs => hA1.get s v hs⟩
theorem DD_sound (hm : P.follows .mixedOrders = true) : ∀ (A : AT) (c : Code) (K : Exit → Env → World → Prop) (Kd : FuncId → Array Value → Array Value → Exit → Env → World → Prop) (e : Env) (a : Act) (w : World), Agrees e a → a.defers = [] →
   (∀ d ∈ writes c, d < a.tmps.size) → DD P tk A c K Kd e w →
   c.wp P (fun x a' w' => (a'.defers = [] ∧ ∃ e', Agrees e' a' ∧ K x e' w') ∨ ∃ f first cap, a'.defers = [dOf f first cap] ∧ ∃ e', Agrees e' a' ∧ Kd f first cap x e' w') a w := by
 intro A
 induction A with
 | seq A B ihA ihB =>
   intro c K Kd e a w hA hd hb h
   unfold DD at h
   split at h
   case h_3 => exact h.elim
   · rename_i B' x y hAB
     cases hAB
     have hx : ∀ d, d ∈ writes x → d ∈ writes (.seq x y) := fun d hd => by simp [writes, hd]
     have hy : ∀ d, d ∈ writes y → d ∈ writes (.seq x y) := fun d hd => by simp [writes, hd]
     refine wp_seq (wp_post (DDef_sound hA (fun d hd => hb d (hx d hd)) h) ?_)
     rintro ex a1 w1 ⟨rfl, f, first, cap, h1, h2, e1, hA1, h3⟩
     refine wp_post (D_sound hm B y _ e1 a1 w1 hA1 (fun d hd => by rw [h2]; exact hb d (hy d hd)) h3) ?_
     rintro ex a2 w2 ⟨hk2, e2, hA2, h4⟩
     exact .inr ⟨f, first, cap, by rw [hk2.defers, h1, hd], e2, hA2, h4⟩
   · rename_i A' B' x y _ hAB
     cases hAB
     have hx : ∀ d, d ∈ writes x → d ∈ writes (.seq x y) := fun d hd => by simp [writes, hd]
     have hy : ∀ d, d ∈ writes y → d ∈ writes (.seq x y) := fun d hd => by simp [writes, hd]
     refine wp_seq (wp_post (D_sound hm A x _ _ a _ hA (fun d hd => hb d (hx d hd)) h) ?_)
     rintro ex a1 w1 ⟨hk, e1, hA1, h1⟩
     have hd1 : a1.defers = [] := by rw [hk.defers, hd]
     cases ex with
     | normal => exact ihB y _ _ e1 a1 w1 hA1 hd1 (fun d hd => by rw [hk.size]; exact hb d (hy d hd)) h1
     | exit id => exact .inl ⟨hd1, e1, hA1, h1⟩
     | goto l => exact .inl ⟨hd1, e1, hA1, h1⟩
     | ret => exact .inl ⟨hd1, e1, hA1, h1⟩
     | panic ch => exact .inl ⟨hd1, e1, hA1, h1⟩
     | outgrown => exact .inl ⟨hd1, e1, hA1, h1⟩
 | _ => intro c K Kd e a w hA hd hb h; unfold DD at h; exact h.elim
theorem act_of {fn : Func} {args : List Value} (hn : args.length ≤ fn.ntmps) : Agrees (initEnv 0 args) { tmps := args.toArray ++ Array.replicate (fn.ntmps - args.toArray.size) undef, defers := [] } := by
 constructor
 intro s v hs
 obtain ⟨_, h2⟩ := get_initEnv hs
 simp only [Nat.sub_zero] at h2
 have hlt : s < args.length := (List.getElem?_eq_some_iff.1 h2).1
 simp [Array.getElem?_append, hlt]
 rw [List.getElem?_eq_getElem hlt] at h2
 exact Option.some.inj h2
theorem dfr_of_DF {f : FuncId} {fn : Func} {A : AT} {args : List Value} {w : World} {K : World → Prop} (hm : P.follows .mixedOrders = true) (hc : Callable P f)
   (hf : P.funcs[f]? = some fn) (hok : dfOk fn args.length = true) (h : DF P tk A fn args w fun _ w' => K w') : Dfr P f args.toArray w K := by
 refine ⟨hc, ?_⟩
 unfold DF at h
 unfold dfOk at hok
 cases hbd : fn.body with
 | none => rw [hbd] at h; exact h.elim
 | some c =>
   rw [hbd] at h hok
   simp only [Bool.and_eq_true] at h hok
   obtain ⟨hw, hn⟩ := hok
   have hn' := Nat.le_of_ble_eq_true hn
   have hsz : (args.toArray ++ Array.replicate (fn.ntmps - args.toArray.size) undef).size = fn.ntmps := by simp; omega
   refine (callsD_of_wp (R := fun e w' => (∃ v, e = .returned v) ∧ K w') hf hbd ?_).mono fun e u' w' ⟨h1, h2, h3⟩ => ⟨h2, h1, h3⟩
   refine wp_post (D_sound hm A c _ _ _ w (act_of hn') (fun d hd => ?_) h) ?_
   · have h1 := List.all_eq_true.1 hw d hd
     have h2 := Nat.le_of_ble_eq_true h1
     show d < (args.toArray ++ Array.replicate (fn.ntmps - args.toArray.size) undef).size
     rw [hsz]
     omega
   · rintro x a' w' ⟨hk, e', hA', hK⟩
     have hd : a'.defers = [] := hk.defers
     cases x with
     | normal =>
       obtain ⟨vs, hvs, hR⟩ := resE_sound hA' hK
       exact ⟨hd, _, results_run hvs, ⟨_, rfl⟩, hR⟩
     | ret =>
       obtain ⟨vs, hvs, hR⟩ := resE_sound hA' hK
       exact ⟨hd, _, results_run hvs, ⟨_, rfl⟩, hR⟩
     | exit id => exact hK.elim
     | goto l => exact hK.elim
     | panic ch => exact hK.elim
     | outgrown => exact hK.elim
theorem calls_of_DFD {f : FuncId} {fn : Func} {A : AT} {args : List Value} {w : World} {R : Value → World → Prop} (hm : P.follows .mixedOrders = true)
   (hf : P.funcs[f]? = some fn) (hok : dfOk fn args.length = true) (h : DFD P tk A fn args w R) :
   Calls P f args.toArray w fun e w' => ∃ v, e = .returned v ∧ R v w' := by
 unfold DFD at h
 unfold dfOk at hok
 cases hbd : fn.body with
 | none => rw [hbd] at h; exact h.elim
 | some c =>
   rw [hbd] at h hok
   simp only [Bool.and_eq_true] at h hok
   obtain ⟨hw, hn⟩ := hok
   have hn' := Nat.le_of_ble_eq_true hn
   have hsz : (args.toArray ++ Array.replicate (fn.ntmps - args.toArray.size) undef).size = fn.ntmps := by simp; omega
   refine calls_of_wp_defers hf hbd ?_
   refine wp_post (DD_sound hm A c _ _ _ _ w (act_of hn') rfl (fun d hd => ?_) h) ?_
   · have h1 := List.all_eq_true.1 hw d hd
     have h2 := Nat.le_of_ble_eq_true h1
     show d < (args.toArray ++ Array.replicate (fn.ntmps - args.toArray.size) undef).size
     rw [hsz]
     omega
   · have key : ∀ {a' : Act} {w' : World} {e' : Env} {g : FuncId} {first cap : Array Value}, a'.defers = [dOf g first cap] → Agrees e' a' → (Dfr P g (first ++ cap) w' fun w' => resE P tk fn.results.toList e' w' fun vs => R (resV vs) w') →
         Leaves P fn a'.tmps (fun e w' => ∃ v, e = .returned v ∧ R v w') a'.defers .returning w' := by
       intro a' w' e' g first cap hd hA' ⟨hc, hK⟩
       rw [hd]
       refine leaves_cons (f := g) (args := first ++ cap) (by simp) (by simp [invoke, run_callFunc hc]) (hK.mono ?_)
       rintro _ _ w2 ⟨⟨v, rfl⟩, rfl, h3⟩
       obtain ⟨vs, hvs, hR⟩ := resE_sound hA' h3
       exact ⟨_, results_run hvs, _, rfl, hR⟩
     rintro x a' w' (⟨hd, e', hA', hK⟩ | ⟨g, first, cap, hd, e', hA', hK⟩)
     · cases x with
       | normal =>
         obtain ⟨vs, hvs, hR⟩ := resE_sound hA' hK
         show Leaves _ _ _ _ a'.defers _ _
         rw [hd]; exact ⟨_, results_run hvs, _, rfl, hR⟩
       | ret =>
         obtain ⟨vs, hvs, hR⟩ := resE_sound hA' hK
         show Leaves _ _ _ _ a'.defers _ _
         rw [hd]; exact ⟨_, results_run hvs, _, rfl, hR⟩
       | exit id => exact hK.elim
       | goto l => exact hK.elim
       | panic ch => exact hK.elim
       | outgrown => exact hK.elim
     · cases x with
       | normal => exact key hd hA' hK
       | ret => exact key hd hA' hK
       | exit id => exact hK.elim
       | goto l => exact hK.elim
       | panic ch => exact hK.elim
       | outgrown => exact hK.elim
end Gx
namespace Gx
open Go Go.RowKit
section
variable {α : Type} {P : Program} {w : World} {kT eT T : TypeId} {enc : α → Value}
def entM (enc : α → Value) (x : α × Value × Nat) : MapEntry := ⟨enc x.1, x.2.1, x.2.2⟩
def kvM (x : α × Value × Nat) : α × Value := (x.1, x.2.1)
def lkM [DecidableEq α] (k : α) : List (α × Value × Nat) → Nat → Option (Nat × Value)
 | [], _ => none
 | x :: L, i => if k = x.1 then some (i, x.2.1) else lkM k L (i + 1)
theorem modify_at {β : Type} (f : β → β) (x : β) (L2 : List β) : ∀ L1 : List β, (L1 ++ x :: L2).modify L1.length f = L1 ++ f x :: L2
 | [] => rfl
 | y :: L1 => by
   show y :: ((L1 ++ x :: L2).modify L1.length f) = _
   rw [modify_at f x L2 L1]; rfl
structure KeyT [DecidableEq α] (P : Program) (kT : TypeId) (enc : α → Value) : Prop where
 find : ∀ (L : List (α × Value × Nat)) (k : α) (w : World), (Instr.findKey kT (enc k) (L.map (entM enc))).run P w = .ok (lkM k L 0) w
 check : ∀ (b : Bool) (k : α) (w : World), (Instr.checkKey b 10000 kT (enc k)).run P w = .ok () w
 bits : ∀ k, Instr.sameBits 10000 (enc k) (enc k) = true
theorem lkM_none [DecidableEq α] {k : α} : ∀ {L : List (α × Value × Nat)} {i : Nat}, (∀ x ∈ L, x.1 ≠ k) → lkM k L i = none
 | [], _, _ => rfl
 | x :: L, i, h => by
   rw [lkM, if_neg (fun e => h x (by simp) e.symm)]
   exact lkM_none fun y hy => h y (by simp [hy])
theorem lkM_at [DecidableEq α] {k : α} {v : Value} {n : Nat} {L2 : List (α × Value × Nat)} : ∀ {L1 : List (α × Value × Nat)} {i : Nat}, (∀ x ∈ L1, x.1 ≠ k) → lkM k (L1 ++ (k, v, n) :: L2) i = some (i + L1.length, v)
 | [], i, _ => by simp [lkM]
 | x :: L, i, h => by
   rw [List.cons_append, lkM, if_neg (fun e => h x (by simp) e.symm), lkM_at fun y hy => h y (by simp [hy])]
   simp; omega
theorem KeyT.int {k : IntKind} (hu : P.underlying kT = some (.int k)) : KeyT P kT (fun n : Int => Value.int k n) where
 find L n w := by
   have h : ∀ (L : List (Int × Value × Nat)) (i : Nat), Instr.findNow (.int k) (.int k n) (L.map (entM fun n : Int => Value.int k n)) i = some (lkM n L i) := by
     intro L
     induction L with
     | nil => intro i; rfl
     | cons x L ih =>
       intro i
       simp only [List.map_cons, Instr.findNow, entM, Instr.sameNow, if_true, lkM]
       by_cases hx : n = x.1
       · subst hx; simp
       · rw [if_neg hx, show (n == x.1) = false by simpa using hx]
         exact ih (i + 1)
   simp [Instr.findKey, run_underlying' hu, h]
 check b n w := by
   show (Instr.checkKey b (9999 + 1) kT (.int k n)).run P w = _
   unfold Instr.checkKey
   simp only [Sem.run_bind, run_underlying' hu, Result.andThen]
   rfl
 bits n := by
   show (k == k && n == n) = true
   simp
def MapK (w : World) (r : Nat) (enc : α → Value) (M : List (α × Value)) : Prop :=
 ∃ (L : List (α × Value × Nat)) (clk : Nat), w.heap[r]? = some (.map (L.map (entM enc)).toArray clk) ∧ (L.map kvM).Perm M ∧ (L.map (·.1)).Nodup ∧ (L.map (·.2.2)).Nodup ∧ ∀ x ∈ L, x.2.2 < clk
def MapE (w : World) (r : Nat) (enc : α → Value) (M : List (α × Value)) (k : α) (v : Value) (st : Int) : Prop :=
 ∃ (L1 L2 : List (α × Value × Nat)) (n clk : Nat), w.heap[r]? = some (.map ((L1 ++ (k, v, n) :: L2).map (entM enc)).toArray clk) ∧ ((L1 ++ L2).map kvM).Perm M ∧ ((L1 ++ (k, v, n) :: L2).map (·.1)).Nodup ∧ ((L1 ++ (k, v, n) :: L2).map (·.2.2)).Nodup ∧ (∀ x ∈ L1 ++ (k, v, n) :: L2, x.2.2 < clk) ∧ st = (n : Int)
variable {r : Nat} {M M' : List (α × Value)} {k : α} {v : Value} {st : Int} {w' : World}
theorem MapK.lt (h : MapK w r enc M) : r < w.heap.size := by
 obtain ⟨L, clk, h, _⟩ := h
 exact (Array.getElem?_eq_some_iff.1 h).1
theorem MapK.chg {W : Nat → Prop} (h : MapK w r enc M) (hc : Chg W w w') (hr : ¬ W r) : MapK w' r enc M := by
 have hl := h.lt
 obtain ⟨L, clk, h, hh⟩ := h
 exact ⟨L, clk, by rw [hc.block r hl hr]; exact h, hh⟩
theorem MapK.ext (h : MapK w r enc M) (hc : Ext w w') : MapK w' r enc M := h.chg hc id
theorem MapK.perm (h : MapK w r enc M) (hp : M.Perm M') : MapK w r enc M' := by
 obtain ⟨L, clk, h, h1, hh⟩ := h
 exact ⟨L, clk, h, h1.trans hp, hh⟩
theorem MapK.split (h : MapK w r enc ((k, v) :: M)) : ∃ n, MapE w r enc M k v (n : Nat) := by
 obtain ⟨L, clk, h, h1, h2, h3, h4⟩ := h
 have hm : (k, v) ∈ L.map kvM := h1.mem_iff.2 (by simp)
 obtain ⟨x, hx, hkv⟩ := List.mem_map.1 hm
 obtain ⟨L1, L2, rfl⟩ := List.append_of_mem hx
 obtain ⟨k', v', n⟩ := x
 simp only [kvM, Prod.mk.injEq] at hkv
 obtain ⟨rfl, rfl⟩ := hkv
 refine ⟨n, L1, L2, n, clk, h, ?_, h2, h3, h4, rfl⟩
 rw [List.map_append, List.map_cons] at h1
 have := (List.perm_middle.symm.trans h1)
 rw [List.map_append]
 exact this.cons_inv
theorem MapK.keys (h : MapK w r enc M) : (M.map (·.1)).Nodup := by
 obtain ⟨L, clk, h, h1, h2, h3, h4⟩ := h
 have := h1.map (·.1)
 rw [List.map_map] at this
 exact this.nodup_iff.1 h2
theorem MapK.mem_split (hm : (k, v) ∈ M) : ∃ M', M.Perm ((k, v) :: M') := by
 obtain ⟨A, B, rfl⟩ := List.append_of_mem hm
 exact ⟨A ++ B, List.perm_middle⟩
def setO (w : World) (r : Nat) (o : Obj) : World := { w with heap := w.heap.setIfInBounds r o }
theorem setO_chg (w : World) (r : Nat) (o : Obj) : Chg (fun q => q = r) w (setO w r o) :=
 ⟨rfl, rfl, rfl, by simp [setO], fun k _ hk => by
   have : ¬ r = k := fun e => hk e.symm
   simp [setO, this]⟩
theorem setO_size (w : World) (r : Nat) (o : Obj) : (setO w r o).heap.size = w.heap.size := by simp [setO]
theorem setO_get {w : World} {r : Nat} (h : r < w.heap.size) (o : Obj) : (setO w r o).heap[r]? = some o := by simp [setO, h]
theorem run_getObjM {es : Array MapEntry} {clk : Nat} (h : w.heap[r]? = some (.map es clk)) : (getObj r).run P w = .ok (.map es clk) w := by simp [getObj, Sem.run, h]
theorem run_setObjM {es : Array MapEntry} {clk : Nat} (h : w.heap[r]? = some (.map es clk)) (o : Obj) : (setObj r o).run P w = .ok () (setO w r o) := by simp [setObj, Sem.run, h, setO]
theorem nodup_front {L1 L2 : List (α × Value × Nat)} {x : α × Value × Nat} (h : ((L1 ++ x :: L2).map (·.1)).Nodup) : ∀ y ∈ L1, y.1 ≠ x.1 := by
 intro y hy e
 rw [List.map_append, List.map_cons, List.nodup_append] at h
 exact h.2.2 _ (List.mem_map_of_mem hy) _ (List.mem_cons_self ..) e
theorem absent {L : List (α × Value × Nat)} (h1 : (L.map kvM).Perm M) (hk : ∀ v, (k, v) ∉ M) : ∀ x ∈ L, x.1 ≠ k := by
 intro x hx e
 refine hk x.2.1 (h1.mem_iff.1 (List.mem_map.2 ⟨x, hx, ?_⟩))
 simp [kvM, e]
theorem MapK.make (T : TypeId) (w : World) : (Instr.makeMap T none).run P w = .ok (.map (some w.heap.size)) (w.alloc (.map #[] 0)) ∧ MapK (w.alloc (.map #[] 0)) w.heap.size enc ([] : List (α × Value)) := by
 refine ⟨by simp [Instr.makeMap], [], 0, ?_, by simp, by simp, by simp, by simp⟩
 show (w.heap.push (.map #[] 0))[w.heap.size]? = _
 simp
theorem MapK.lookup_some [DecidableEq α] (hK : KeyT P kT enc) (hT : P.underlying T = some (.map kT eT)) (h : MapK w r enc M) (hm : (k, v) ∈ M) (ok : Bool) :
   (Instr.lookup T (.map (some r)) (enc k) ok).run P w = .ok (if ok then .tuple #[v, .bool true] else v) w := by
 obtain ⟨M', hp⟩ := MapK.mem_split hm
 obtain ⟨n, L1, L2, n', clk, h, h1, h2, h3, h4, _⟩ := (h.perm hp).split
 have hf := hK.find (L1 ++ (k, v, n') :: L2) k w
 rw [lkM_at (nodup_front h2)] at hf
 simp only [Instr.lookup, Sem.run_bind, run_underlying' hT, Result.andThen, run_getObjM h, Sem.run_pure, hK.check, hf]
theorem MapK.lookup_none [DecidableEq α] (hK : KeyT P kT enc) (hT : P.underlying T = some (.map kT eT)) {i : TypeInfo} {z : Value} (hi : P.info? eT = some i) (hz : i.zero = some z) (h : MapK w r enc M) (hm : ∀ v, (k, v) ∉ M) (ok : Bool) :
   (Instr.lookup T (.map (some r)) (enc k) ok).run P w = .ok (if ok then .tuple #[z, .bool false] else z) w := by
 obtain ⟨L, clk, h, h1, h2, h3, h4⟩ := h
 have hf := hK.find L k w
 rw [lkM_none (absent h1 hm)] at hf
 simp only [Instr.lookup, Sem.run_bind, run_underlying' hT, Result.andThen, run_getObjM h, Sem.run_pure, hK.check, hf, zeroValue, run_typeInfo' hi, hz]
end
end Gx
namespace Gx
open Go Go.RowKit
theorem spl_at (c : Array Value) : ∀ (vs : List Value) (i : Nat) (c : Array Value), (spl c i vs).toList.drop (i + vs.length) = c.toList.drop (i + vs.length)
 | [], _, _ => rfl
 | v :: vs, i, c => by
   simp only [spl, List.length_cons]
   rw [show i + (vs.length + 1) = i + 1 + vs.length by omega, spl_at c vs (i + 1) (c.setIfInBounds i v)]
   rw [Array.toList_setIfInBounds, List.drop_set]
   rw [if_pos (by omega)]
theorem toList_spl (vs : List Value) (c : Array Value) (i : Nat) (h : i + vs.length ≤ c.size) : (spl c i vs).toList = c.toList.take i ++ vs ++ c.toList.drop (i + vs.length) := by
 rw [← List.take_append_drop (i + vs.length) (spl c i vs).toList, take_spl vs c i h, spl_at c]
section
variable {P : Program} {w : World}
theorem run_copy_rows {dT sT ty e : TypeId} {d : TypeDesc} {sz : Nat} (hd : P.underlying dT = some (.slice e)) (he : P.underlying e = some d) (hsz : P.cellsOf e = sz) {A : Addr} {dl dc n : Nat} {x : Sl} (hn : Nat.min x.len dl = n) {xs : List Value} (hx : Src sz w ⟨x.a, n, x.cap⟩ xs) (hst : StoreOk w A xs) :
   Sem.run P (Builtin.copy_ #[dT, sT] ty #[.slice (some A) dl dc, .slice x.a x.len x.cap]) w = .ok (.int .i64 ((n : Nat) : Int)) (setCells w A 0 xs) := by
 have hz := run_sizeOf' (w := w) he
 rw [hsz] at hz
 have hf : Sem.run P (Builtin.firstCells sz n (.slice x.a x.len x.cap)) w = .ok xs.toArray w := by
   obtain ⟨a, l, c⟩ := x
   cases a <;> exact run_firstCells (P := P) hx
 have hst' := run_storeCells (P := P) (A := A) xs 0 w (by simpa using hst.1) hst.2
 simp only [Builtin.copy_, List.getElem?_toArray, List.getElem?_cons_zero, List.getElem?_cons_succ, Sem.run_bind, run_underlying' hd, Result.andThen, Builtin.lenOf, Sem.run_pure, hn, hz, hf, hst']
 rfl
set_option maxRecDepth 4000 in
theorem run_append_zeros {ats : Array TypeId} {oT sT xT e : TypeId} {i : TypeInfo} {k : IntKind} {z : Value} {sz n : Nat} {s : Sl} {old : List Value} (h0 : ats[0]? = some sT) (h1 : ats[1]? = some xT)
   (hs : P.underlying sT = some (.slice e)) (hx : P.underlying xT = some (.int k)) (hi : P.info? e = some i) (hd : (P.underlying e).isSome = true) (hz : i.zero = some z) (hzs : z.cells.size = sz) (hsz : P.cellsOf e = sz)
   (hb : i.bytes ≠ 0) (hold : Src sz w s old) (hfit : s.cap < s.len + n) (hsmall : (2 * (s.len + n) + 1000) * i.bytes ≤ 281474976710656) :
   ∃ (nc : Nat) (zs rest : List Value), s.len + n ≤ nc ∧ nc ≤ maxLen ∧ zs.length = n * sz ∧ rest.length = (nc - (s.len + n)) * sz ∧
     Sem.run P (Builtin.append_ ats oT #[.slice s.a s.len s.cap, .int .i64 ((n : Nat) : Int)]) w =
       .ok (.slice (some ⟨w.heap.size, 0, none⟩) (s.len + n) nc) (w.drew.alloc (.cells (old ++ zs ++ rest).toArray e)) := by
 obtain ⟨d, hd⟩ := cells_of _ hd
 have hsz' := run_sizeOf' (w := w) hd
 rw [hsz] at hsz'
 have hcap := nextcap_le hfit
 have hn : Builtin.nextslicecap (s.len + n) s.cap * i.bytes ≤ 281474976710656 := Nat.le_trans (Nat.mul_le_mul_right _ hcap) hsmall
 have hneed : s.len + n ≤ 281474976710656 := by
   have : s.len + n ≤ (2 * (s.len + n) + 1000) * i.bytes := by
     have := Nat.mul_le_mul_left (2 * (s.len + n) + 1000) (Nat.one_le_iff_ne_zero.2 hb)
     omega
   omega
 have hnb : n * i.bytes ≤ 281474976710656 := Nat.le_trans (Nat.mul_le_mul_right _ (by omega : n ≤ 2 * (s.len + n) + 1000)) hsmall
 let q : Question := .appendCap (s.len + n) s.cap e
 let nc : Nat := q.cut (w.tape w.drawn q)
 have hq : q.forced = false := rfl
 have hnc : s.len + n ≤ nc := by show s.len + n ≤ s.len + n + _; omega
 have hnc2 : nc ≤ maxLen := by
   show s.len + n + _ % (2 ^ 63 - (s.len + n)) ≤ 2 ^ 63 - 1
   have := Nat.mod_lt (w.tape w.drawn q) (y := 2 ^ 63 - (s.len + n)) (by omega)
   omega
 have holdd : Src sz w.drew s old := hold.ext (Chg.drew (.refl _ _))
 have hf2 := run_firstCells (P := P) holdd
 have hask : ∀ n (w' : World), (askRoom n).run P w' = .ok () w' := fun n w' => by unfold askRoom; split <;> rfl
 have hchoose : (choose q).run P w = .ok nc w.drew := by
   show Sem.run P (.choose q .pure) w = _
   simp only [Sem.run, hq, Bool.false_eq_true, if_false]
   rfl
 have hti := fun w : World => run_typeInfo' (w := w) hi
 refine ⟨nc, if n * sz = 0 then [] else (Builtin.zeroCells z.cells n).toList, (Builtin.zeroCells z.cells (nc - (s.len + n))).toList, hnc, hnc2, ?_, by simp [Builtin.zeroCells, hzs], ?_⟩
 · split
   · rename_i h0; simp [h0]
   · simp [Builtin.zeroCells, hzs]
 have hw : IntKind.i64.wrap ((n : Nat) : Int) = (n : Int) := wrapi (by omega) (by omega)
 have e0 : ¬ ((n : Int) < 0) := by omega
 have e5 : ¬ ((n : Int) * (i.bytes : Int) > 2 ^ 48) := by
   have : ((n * i.bytes : Nat) : Int) ≤ ((281474976710656 : Nat) : Int) := Int.ofNat_le.2 hnb
   rw [Int.natCast_mul] at this
   have e48 : (2 : Int) ^ 48 = ((281474976710656 : Nat) : Int) := by decide +kernel
   rw [e48]
   omega
 have e1 : ¬ (s.len + n ≤ s.cap) := by omega
 have e2 : ¬ ((s.len + n : Nat) : Int) > IntKind.i64.max := by
   simp [IntKind.max, IntKind.signed, IntKind.bits]; omega
 have e4 : ¬ Builtin.nextslicecap (s.len + n) s.cap * i.bytes > 2 ^ 48 := by
   have : (2 : Nat) ^ 48 = 281474976710656 := by decide +kernel
   omega
 have hchoose' : Sem.run P (choose (.appendCap (s.len + n) s.cap e)) w = .ok nc w.drew := hchoose
 unfold Builtin.append_
 simp only [List.getElem?_toArray, List.getElem?_cons_zero, List.getElem?_cons_succ, h0, h1, Sem.run_bind, run_underlying' hs, run_underlying' hx, Result.andThen, hsz', Sem.run_pure, asInt, asIntOf, hw, e0, if_false, hti, e5, Int.toNat_natCast, e1, e2, false_and, e4, if_true, Bool.not_true, Bool.false_eq_true, hchoose', hask, hf2]
 by_cases hz0 : n * sz = 0
 · simp only [hz0, if_true, Sem.run_pure, zeroValue, hti, hz, Sem.run_bind, Result.andThen, newRow, newObj, Sem.run]
   have hds : w.drew.heap.size = w.heap.size := rfl
   rw [hds]
   congr 1
   show w.drew.alloc _ = w.drew.alloc _
   congr 2
   simp
 · simp only [hz0, if_false, Sem.run_pure, zeroValue, hti, hz, Sem.run_bind, Result.andThen, newRow, newObj, Sem.run]
   have hds : w.drew.heap.size = w.heap.size := rfl
   rw [hds]
   congr 1
   show w.drew.alloc _ = w.drew.alloc _
   congr 2
   simp
end
theorem cut0' (a : Option Addr) (z c : Nat) : cutA a z 0 c = a := by
 unfold cutA
 split
 · rfl
 · cases a with
   | none => rfl
   | some A => simp [add_zero']
theorem Blk.srcAt {sz : Nat} {w : World} {b : Nat} {c : Array Value} {T : TypeId} (h : Blk w b c T) {o n cap : Nat} (hn : o + n * sz ≤ c.size) : Src sz w ⟨some ⟨b, o, none⟩, n, cap⟩ ((c.toList.drop o).take (n * sz)) := by
 refine ⟨by simp; omega, (fun h => by cases h), fun a ha => ?_⟩
 cases ha
 have := rdCells_blk h (n * sz) o 0 (by simpa using hn)
 simpa using this
theorem Blk.set0 {w : World} {b o : Nat} {c : Array Value} {T : TypeId} (h : Blk w b c T) (vs : List Value) : Blk (setCells w ⟨b, o, none⟩ 0 vs) b (spl c o vs) T := by
 simpa using Blk.sets vs o 0 h
theorem OwnS.mk' {sz : Nat} {T : TypeId} {w : World} {b n cap : Nat} {c : Array Value} {vs : List Value} (hb : Blk w b c T) (hl : vs.length = n * sz) (hn : n ≤ cap) (hc : cap ≤ maxLen) (hs : c.size = cap * sz) (hv : c.toList.take (n * sz) = vs) : OwnS sz T w ⟨some ⟨b, 0, Option.none⟩, n, cap⟩ vs :=
 ⟨hl, hn, hc, .inr ⟨b, c, rfl, hb, hs, hv⟩⟩
theorem addAdd (A : Addr) (a b : Nat) : (A.add a).add b = A.add (a + b) := by
 unfold Addr.add
 by_cases ha : a = 0
 · subst ha; simp
 · by_cases hb : b = 0
   · subst hb; simp
   · simp [ha, hb, Nat.add_assoc]
theorem rdGet {w : World} {A : Addr} : ∀ {n i : Nat} {vs : List Value} {j : Nat} {v : Value}, rdCells w A i n = some vs → vs[j]? = some v → w.cell? (A.add (i + j)) = some v
 | 0, _, vs, j, v, h, hv => by simp [rdCells] at h; subst h; simp at hv
 | n + 1, i, vs, j, v, h, hv => by
   simp only [rdCells] at h
   cases h1 : w.cell? (A.add i) with
   | none => simp [h1] at h
   | some u =>
     cases h2 : rdCells w A (i + 1) n with
     | none => simp [h1, h2] at h
     | some us =>
       simp only [h1, h2, Option.some.injEq] at h
       subst h
       cases j with
       | zero => simp at hv; subst hv; exact h1
       | succ j =>
         have := rdGet h2 (j := j) (v := v) (by simpa using hv)
         rwa [show i + (j + 1) = i + 1 + j by omega]
theorem rdOf {w : World} {A : Addr} : ∀ (n i : Nat) (vs : List Value), vs.length = n → (∀ j v, vs[j]? = some v → w.cell? (A.add (i + j)) = some v) → rdCells w A i n = some vs
 | 0, i, vs, hl, _ => by
   cases vs with
   | nil => simp [rdCells]
   | cons _ _ => simp at hl
 | n + 1, i, vs, hl, h => by
   cases vs with
   | nil => simp at hl
   | cons v vs =>
     simp only [rdCells]
     rw [show w.cell? (A.add i) = some v from h 0 v rfl, rdOf n (i + 1) vs (by simpa using hl) (fun j x hx => by have := h (j + 1) x (by simpa using hx); rwa [show i + (j + 1) = i + 1 + j by omega] at this)]
theorem rdPart {w : World} {A : Addr} {n k m : Nat} {vs : List Value} (h : rdCells w A 0 n = some vs) (hk : k + m ≤ n) : rdCells w (A.add k) 0 m = some ((vs.drop k).take m) := by
 have hl := rdCells_length h
 refine rdOf m 0 _ (by simp; omega) fun j v hv => ?_
 rw [addAdd, show k + (0 + j) = 0 + (k + j) by omega]
 refine rdGet h ?_
 rw [List.getElem?_take] at hv
 split at hv
 · rwa [List.getElem?_drop] at hv
 · cases hv
theorem mid_wrap {a b : Nat} (h : a + b ≤ 4000000) : IntKind.wrap .i64 (Int.fdiv (IntKind.wrap .u64 (IntKind.wrap .i64 ((a : Int) + (b : Int)))) (2 ^ (min (Int.toNat 1) 64))) = (((a + b) / 2 : Nat) : Int) := by
 rw [wrapi (n := (a : Int) + b) (by omega) (by omega), wr64 (by omega) (by omega)]
 have e : (2 : Int) ^ (min (Int.toNat 1) 64) = 2 := rfl
 rw [e, Int.fdiv_eq_ediv_of_nonneg _ (by omega), wrapi (by omega) (by omega)]
 omega
section
variable {w : World}
end
end Gx
