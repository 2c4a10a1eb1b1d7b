/- The wp-calculator, fourth part: code, loops, functions. -/
import Derived.Test.YtgljoledlhmhnaaGreatDoorGr
namespace Gx
open Go

inductive AT where
  | leaf
  | reg (as : List An)
  | drw (n : Nat) (hasEff : Bool) (od : OrdM) (D0 K0 : List Nat) (t : Tr)
  | seq (a b : AT)
  | cond (a b : AT)
  | blk (a : AT)
  | loop (live : List (Nat × Lf)) (keep : List Nat) (a : AT)
  | jk (live : List (Nat × Lf)) (keep : List Nat) (a : AT)

def PT : List (Nat × Lf) → Type
  | [] => World → Prop
  | (_, l) :: r => l.T → PT r

def MT : List (Nat × Lf) → Type
  | [] => World → Nat
  | (_, l) :: r => l.T → MT r

def getLf (l : Lf) (v : Option Value) (K : l.T → Prop) : Prop :=
  match l, v with
  | .int k, some (.int k' n) => bif kEq k k' then K n else False
  | .bool, some (.bool b) => K b
  | .str, some (.string s) => K s
  | .ptr, some (.pointer p) => K p
  | .slice, some (.slice a n c) => K ⟨a, n, c⟩
  | .map, some (.map r) => K r
  | .agg, some (.agg cs) => K cs
  | .fn, some (.func (.func f) a b) => K ⟨f, a, b⟩
  | .any, some v => K v
  | _, _ => False

def PT.app : (live : List (Nat × Lf)) → PT live → (Nat → Option Value) → World → Prop
  | [], k, _, w => k w
  | (s, l) :: r, k, g, w => getLf l (g s) fun x => PT.app r (k x) g w

def PT.lam : (live : List (Nat × Lf)) → (Env → World → Prop) → PT live
  | [], F => fun w => F [] w
  | (s, l) :: r, F => fun x => PT.lam r fun e w => F ((s, l.v x) :: e) w

def loopAll : (live : List (Nat × Lf)) → PT live → MT live → (Env → Nat → World → Prop) → Prop
  | [], I, μ, F => ∀ w, I w → F [] (μ w) w
  | (s, l) :: r, I, μ, F => ∀ x : l.T, loopAll r (I x) (μ x) fun e m w => F ((s, l.v x) :: e) m w

def appLt : (live : List (Nat × Lf)) → PT live → MT live → Nat → (Nat → Option Value) → World → Prop
  | [], I, μ, m, _, w => I w ∧ μ w < m
  | (s, l) :: r, I, μ, m, g, w => getLf l (g s) fun x => appLt r (I x) (μ x) m g w

def mOf : (live : List (Nat × Lf)) → MT live → (Nat → Option Value) → World → Nat
  | [], μ, _, w => μ w
  | (s, l) :: r, μ, g, w =>
    match l, g s, μ with
    | .int _, some (.int _ n), μ => mOf r (μ n) g w
    | .bool, some (.bool b), μ => mOf r (μ b) g w
    | .str, some (.string b), μ => mOf r (μ b) g w
    | .ptr, some (.pointer b), μ => mOf r (μ b) g w
    | .slice, some (.slice a n c), μ => mOf r (μ (Sl.mk a n c)) g w
    | .map, some (.map b), μ => mOf r (μ b) g w
    | .agg, some (.agg b), μ => mOf r (μ b) g w
    | .fn, some (.func (.func f) a b), μ => mOf r (μ (Fv.mk f a b)) g w
    | .any, some v, μ => mOf r (μ v) g w
    | _, _, _ => 0

def writes : Code → List Nat
  | .region _ ops _ => dsts ops.toList
  | .seq a b => writes a ++ writes b
  | .cond _ a b => writes a ++ writes b
  | .block _ a => writes a
  | .loop a => writes a
  | .scope a => writes a
  | _ => []

def keepOk (keep ws : List Nat) : Bool := keep.all fun s => !(ws.any fun d => Nat.beq d s)

def keepEnv (e : Env) : List Nat → Env
  | [] => []
  | s :: ks => match e.get s with
    | some v => (s, v) :: keepEnv e ks
    | none => keepEnv e ks

def eapp : Env → Env → Env
  | [], f => f
  | p :: e, f => p :: eapp e f

def D (P : Program) (tk : TypeId → RK) : AT → Code → (Exit → Env → World → Prop) → Env → World → Prop
  | .leaf, c, K, e, w =>
    match c with
    | .skip => K .normal e w
    | .label _ => K .normal e w
    | .exit id => K (.exit id) e w
    | .ret => K .ret e w
    | _ => False
  | .reg as, c, K, e, w =>
    match c with
    | .region _ ops false => DOps P tk ops (ops.size + 1) ops.toList as (fun e' w' => K .normal e' w') e w
    | _ => False
  | .drw n he od D0 K0 t, c, K, e, w =>
    match c with
    | .region _ ops true => DRegion P tk ops n he od D0 K0 t (fun e' w' => K .normal e' w') e w
    | _ => False
  | .seq A B, c, K, e, w =>
    match c with
    | .seq a b => D P tk A a (fun x e' w' => match x with | .normal => D P tk B b K e' w' | x => K x e' w') e w
    | _ => False
  | .cond A B, c, K, e, w =>
    match c with
    | .cond o x y => match ev e o with
      | some (.bool b) => (b = true → D P tk A x K e w) ∧ (b = false → D P tk B y K e w)
      | _ => False
    | _ => False
  | .blk A, c, K, e, w =>
    match c with
    | .block id b => D P tk A b (fun x e' w' => match x with | .exit id' => bif Nat.beq id' id then K .normal e' w' else K (.exit id') e' w' | x => K x e' w') e w
    | _ => False
  | .loop live keep A, c, K, e, w =>
    match c with
    | .loop b => bif keepOk keep (writes b) then
        ∃ (I : PT live) (μ : MT live), PT.app live I e.get w ∧
          loopAll live I μ fun el m w' => D P tk A b (fun x e' w'' => match x with | .normal => appLt live I μ m e'.get w'' | x => K x e' w'') (eapp el (keepEnv e keep)) w'
      else False
    | _ => False
  | .jk live keep A, c, K, e, w =>
    bif keepOk keep (writes c) then
      Jn (fun k : PT live => D P tk A c (fun x e' w' => match x with | .normal => PT.app live k e'.get w' | x => K x e' w') e w)
        (PT.lam live fun el w' => K .normal (eapp el (keepEnv e keep)) w')
    else False

/-! ### Soundness -/
def PostC (a : Act) (ds : List Nat) (K : Exit → Env → World → Prop) (x : Exit) (a' : Act) (w' : World) : Prop :=
  Keep ds a a' ∧ ∃ e', Agrees e' a' ∧ K x e' w'

def Sub (e : Env) (g : Nat → Option Value) : Prop := ∀ s v, e.get s = some v → g s = some v

theorem Sub.cons {e : Env} {g : Nat → Option Value} {s : Nat} {v : Value} (h : Sub e g) (hs : g s = some v) : Sub ((s, v) :: e) g := by
  intro t u ht
  rw [get_cons] at ht
  by_cases hst : s = t
  · subst hst; rw [if_pos rfl] at ht; rw [hs]; exact ht
  · rw [if_neg hst] at ht; exact h t u ht

theorem Sub.nil {g : Nat → Option Value} : Sub [] g := fun _ _ h => by cases h

theorem getLf_out {l : Lf} {v : Option Value} {K : l.T → Prop} (h : getLf l v K) : ∃ x : l.T, v = some (l.v x) ∧ K x := by
  unfold getLf at h
  split at h
  · rename_i k k' n K
    by_cases hk : k = k'
    · subst hk
      simp only [kEq, decide_true, cond_true] at h
      exact ⟨n, rfl, h⟩
    · simp [kEq, hk] at h
  all_goals first
    | exact ⟨_, rfl, h⟩
    | exact h.elim

theorem getLf_in {l : Lf} {v : Option Value} {K : l.T → Prop} {x : l.T} (hv : v = some (l.v x)) (h : K x) : getLf l v K := by
  subst hv
  cases l <;> simp only [getLf, Lf.v, kEq, decide_true, cond_true] <;> exact h

theorem mOf_cons {s : Nat} {l : Lf} {r : List (Nat × Lf)} {μ : MT ((s, l) :: r)} {g : Nat → Option Value} {w : World} {x : l.T} (hv : g s = some (l.v x)) :
    mOf ((s, l) :: r) μ g w = mOf r (μ x) g w := by
  cases l <;> simp only [mOf, hv, Lf.v] <;> rfl

theorem app_lam : ∀ {live : List (Nat × Lf)} {F : Env → World → Prop} {g : Nat → Option Value} {w : World}, PT.app live (PT.lam live F) g w → ∃ el, Sub el g ∧ F el w
  | [], F, g, w, h => ⟨[], Sub.nil, h⟩
  | (s, l) :: r, F, g, w, h => by
    obtain ⟨x, hv, h⟩ := getLf_out h
    obtain ⟨el, hs, h⟩ := app_lam h
    exact ⟨(s, l.v x) :: el, hs.cons hv, h⟩

theorem app_mono : ∀ {live : List (Nat × Lf)} {I : PT live} {g g' : Nat → Option Value} {w : World}, (∀ s v, g s = some v → g' s = some v) → PT.app live I g w → PT.app live I g' w
  | [], _, _, _, _, _, h => h
  | (s, l) :: r, I, g, g', w, hg, h => by
    obtain ⟨x, hv, h⟩ := getLf_out h
    exact getLf_in (hg _ _ hv) (app_mono hg h)

theorem loopAll_out : ∀ {live : List (Nat × Lf)} {I : PT live} {μ : MT live} {F : Env → Nat → World → Prop} {g : Nat → Option Value} {w : World},
    loopAll live I μ F → PT.app live I g w → ∃ el, Sub el g ∧ F el (mOf live μ g w) w
  | [], I, μ, F, g, w, h, hI => ⟨[], Sub.nil, h w hI⟩
  | (s, l) :: r, I, μ, F, g, w, h, hI => by
    obtain ⟨x, hv, hI⟩ := getLf_out hI
    obtain ⟨el, hs, h⟩ := loopAll_out (h x) hI
    exact ⟨(s, l.v x) :: el, hs.cons hv, by rw [mOf_cons hv]; exact h⟩

theorem appLt_out : ∀ {live : List (Nat × Lf)} {I : PT live} {μ : MT live} {m : Nat} {g g' : Nat → Option Value} {w : World},
    (∀ s v, g s = some v → g' s = some v) → appLt live I μ m g w → PT.app live I g' w ∧ mOf live μ g' w < m
  | [], _, _, _, _, _, _, _, h => h
  | (s, l) :: r, I, μ, m, g, g', w, hg, h => by
    obtain ⟨x, hv, h⟩ := getLf_out h
    obtain ⟨h1, h2⟩ := appLt_out hg h
    exact ⟨getLf_in (hg _ _ hv) h1, by rw [mOf_cons (hg _ _ hv)]; exact h2⟩

theorem get_eapp : ∀ {e f : Env} {s : Nat} {v : Value}, (eapp e f).get s = some v → e.get s = some v ∨ f.get s = some v
  | [], _, _, _, h => .inr h
  | (k, u) :: e, f, s, v, h => by
    simp only [eapp] at h
    rw [get_cons] at h ⊢
    by_cases hk : k = s
    · rw [if_pos hk] at h ⊢; exact .inl h
    · rw [if_neg hk] at h ⊢; exact get_eapp h

theorem get_keepEnv {e : Env} : ∀ {ks : List Nat} {s : Nat} {v : Value}, (keepEnv e ks).get s = some v → s ∈ ks ∧ e.get s = some v
  | [], _, _, h => by cases h
  | k :: ks, s, v, h => by
    simp only [keepEnv] at h
    split at h
    · rename_i u hu
      rw [get_cons] at h
      by_cases hk : k = s
      · rw [if_pos hk] at h
        subst hk
        exact ⟨by simp, by rw [hu]; exact h⟩
      · rw [if_neg hk] at h
        have := get_keepEnv h
        exact ⟨by simp [this.1], this.2⟩
    · have := get_keepEnv h
      exact ⟨by simp [this.1], this.2⟩

theorem agrees_join {e el : Env} {a a' : Act} {keep ws : List Nat} (hA : Agrees e a) (hk : Keep ws a a') (ho : keepOk keep ws = true) (hs : Sub el fun s => a'.tmps[s]?) :
    Agrees (eapp el (keepEnv e keep)) a' := by
  constructor
  intro s v h
  rcases get_eapp h with h | h
  · exact hs s v h
  · obtain ⟨h1, h2⟩ := get_keepEnv h
    have h3 := List.all_eq_true.1 ho s h1
    simp only [Bool.not_eq_true', List.any_eq_false] at h3
    rw [hk.same s fun hm => h3 s hm (Nat.beq_refl s)]
    exact hA.get s v h2

section
variable {P : Program} {tk : TypeId → RK}

theorem wp_post {c : Code} {Q Q' : Exit → Act → World → Prop} {a : Act} {w : World} (h : c.wp P Q a w) (hq : ∀ e a w, Q e a w → Q' e a w) : c.wp P Q' a w := wp_mono h hq

theorem D_sound (hm : P.follows .mixedOrders = true) : ∀ (A : AT) (c : Code) (K : Exit → Env → World → Prop) (e : Env) (a : Act) (w : World), Agrees e a → (∀ d ∈ writes c, d < a.tmps.size) →
    D P tk A c K e w → c.wp P (PostC a (writes c) K) a w := by
  intro A
  induction A with
  | leaf =>
    intro c K e a w hA hb h
    simp only [D] at h
    split at h
    · exact wp_skip ⟨.refl _ _, e, hA, h⟩
    · exact wp_label ⟨.refl _ _, e, hA, h⟩
    · exact wp_exit ⟨.refl _ _, e, hA, h⟩
    · exact wp_ret ⟨.refl _ _, e, hA, h⟩
    · exact h.elim
  | reg as =>
    intro c K e a w hA hb h
    simp only [D] at h
    split at h
    · rename_i id ops
      have := DOps_sound _ _ _ _ e a w hA hb h
      refine wp_region_list (wpList_mono ?_ _ _ _ this)
      rintro x a' w' ⟨rfl, hk, e', hA', hK⟩
      exact ⟨hk, e', hA', hK⟩
    · exact h.elim
  | drw n he od D0 K0 t =>
    intro c K e a w hA hb h
    simp only [D] at h
    split at h
    · rename_i id ops
      refine wp_post (DRegion_sound hm hA hb h) ?_
      rintro x a' w' ⟨rfl, hk, e', hA', hK⟩
      exact ⟨hk, e', hA', hK⟩
    · exact h.elim
  | seq A B ihA ihB =>
    intro c K e a w hA hb h
    simp only [D] at h
    split at h
    · rename_i x y
      have hx : ∀ d, d ∈ writes x → d ∈ writes (.seq x y) := fun d hd => by simp [writes, hd]
      have hy : ∀ d, d ∈ writes y → d ∈ writes (.seq x y) := fun d hd => by simp [writes, hd]
      refine wp_seq (wp_post (ihA x _ e a w hA (fun d hd => hb d (hx d hd)) h) ?_)
      rintro ex a1 w1 ⟨hk, e1, hA1, h1⟩
      cases ex with
      | normal =>
        refine wp_post (ihB y K e1 a1 w1 hA1 (fun d hd => by rw [hk.size]; exact hb d (hy d hd)) h1) ?_
        rintro ex a2 w2 ⟨hk2, e2, hA2, h2⟩
        exact ⟨(hk.mono hx).trans (hk2.mono hy), e2, hA2, h2⟩
      | exit id => exact ⟨hk.mono hx, e1, hA1, h1⟩
      | goto l => exact ⟨hk.mono hx, e1, hA1, h1⟩
      | ret => exact ⟨hk.mono hx, e1, hA1, h1⟩
      | panic ch => exact ⟨hk.mono hx, e1, hA1, h1⟩
      | outgrown => exact ⟨hk.mono hx, e1, hA1, h1⟩
    · exact h.elim
  | cond A B ihA ihB =>
    intro c K e a w hA hb h
    simp only [D] at h
    split at h
    · rename_i o x y
      have hx : ∀ d, d ∈ writes x → d ∈ writes (.cond o x y) := fun d hd => by simp [writes, hd]
      have hy : ∀ d, d ∈ writes y → d ∈ writes (.cond o x y) := fun d hd => by simp [writes, hd]
      split at h
      · rename_i b ho
        refine wp_cond_split (hA.ev ho) (fun hb1 => ?_) (fun hb1 => ?_)
        · refine wp_post (ihA x K e a w hA (fun d hd => hb d (hx d hd)) (h.1 hb1)) ?_
          rintro ex a2 w2 ⟨hk2, e2, hA2, h2⟩
          exact ⟨hk2.mono hx, e2, hA2, h2⟩
        · refine wp_post (ihB y K e a w hA (fun d hd => hb d (hy d hd)) (h.2 hb1)) ?_
          rintro ex a2 w2 ⟨hk2, e2, hA2, h2⟩
          exact ⟨hk2.mono hy, e2, hA2, h2⟩
      · exact h.elim
    · exact h.elim
  | blk A ih =>
    intro c K e a w hA hb h
    simp only [D] at h
    split at h
    · rename_i id b
      refine wp_block (wp_post (ih b _ e a w hA hb h) ?_)
      rintro ex a1 w1 ⟨hk, e1, hA1, h1⟩
      cases ex with
      | exit id' =>
        simp only [Exit.inBlock]
        by_cases hid : id' = id
        · subst hid
          simp only [Nat.beq_refl, cond_true] at h1
          rw [if_pos rfl]
          exact ⟨hk, e1, hA1, h1⟩
        · have : Nat.beq id' id = false := by
            cases hbq : Nat.beq id' id
            · rfl
            · exact absurd (Nat.eq_of_beq_eq_true hbq) hid
          simp only [this, cond_false] at h1
          rw [if_neg hid]
          exact ⟨hk, e1, hA1, h1⟩
      | normal => exact ⟨hk, e1, hA1, h1⟩
      | goto l => exact ⟨hk, e1, hA1, h1⟩
      | ret => exact ⟨hk, e1, hA1, h1⟩
      | panic ch => exact ⟨hk, e1, hA1, h1⟩
      | outgrown => exact ⟨hk, e1, hA1, h1⟩
    · exact h.elim
  | loop live keep A ih =>
    intro c K e a w hA hb h
    simp only [D] at h
    split at h
    · rename_i b
      cases hko : keepOk keep (writes b) with
      | false => rw [hko] at h; exact h.elim
      | true =>
        rw [hko] at h
        obtain ⟨I, μ, h0, hround⟩ := h
        refine wp_loop (fun a' w' => Keep (writes b) a a' ∧ PT.app live I (fun s => a'.tmps[s]?) w') (fun a' w' => mOf live μ (fun s => a'.tmps[s]?) w')
          ⟨.refl _ _, app_mono (fun s v hs => hA.get s v hs) h0⟩ ?_
        rintro a1 w1 ⟨hk, hI⟩
        obtain ⟨el, hs, hF⟩ := loopAll_out hround hI
        refine wp_post (ih b _ _ a1 w1 (agrees_join hA hk hko hs) (fun d hd => by rw [hk.size]; exact hb d hd) hF) ?_
        rintro ex a2 w2 ⟨hk2, e2, hA2, h2⟩
        cases ex with
        | normal =>
          obtain ⟨g1, g2⟩ := appLt_out (g' := fun s => a2.tmps[s]?) (fun s v hs => hA2.get s v hs) h2
          exact ⟨⟨hk.trans hk2, g1⟩, g2⟩
        | exit id => exact ⟨hk.trans hk2, e2, hA2, h2⟩
        | goto l => exact ⟨hk.trans hk2, e2, hA2, h2⟩
        | ret => exact ⟨hk.trans hk2, e2, hA2, h2⟩
        | panic ch => exact ⟨hk.trans hk2, e2, hA2, h2⟩
        | outgrown => exact ⟨hk.trans hk2, e2, hA2, h2⟩
    · exact h.elim
  | jk live keep A ih =>
    intro c K e a w hA hb h
    simp only [D] at h
    cases hko : keepOk keep (writes c) with
    | false => rw [hko] at h; exact h.elim
    | true =>
      rw [hko] at h
      simp only [cond_true] at h
      have h := h.out
      refine wp_post (ih c _ e a w hA hb h) ?_
      rintro ex a1 w1 ⟨hk, e1, hA1, h1⟩
      cases ex with
      | normal =>
        obtain ⟨el, hs, hF⟩ := app_lam h1
        exact ⟨hk, _, agrees_join hA hk hko (fun s v h => hA1.get s v (hs s v h)), hF⟩
      | exit id => exact ⟨hk, e1, hA1, h1⟩
      | goto l => exact ⟨hk, e1, hA1, h1⟩
      | ret => exact ⟨hk, e1, hA1, h1⟩
      | panic ch => exact ⟨hk, e1, hA1, h1⟩
      | outgrown => exact ⟨hk, e1, hA1, h1⟩

/-! ### Functions -/
def resE (P : Program) (tk : TypeId → RK) : List ResultVar → Env → World → (List Value → Prop) → Prop
  | [], _, _, K => K []
  | .tmp t :: r, e, w, K => match e.get t with
    | some v => resE P tk r e w fun vs => K (v :: vs)
    | none => False
  | .cell t T :: r, e, w, K => match e.get t with
    | some (.pointer (some A)) => dload P tk T A w fun v => resE P tk r e w fun vs => K (v :: vs)
    | _ => False

def resV : List Value → Value
  | [v] => v
  | vs => .tuple vs.toArray

def KR (P : Program) (tk : TypeId → RK) (rs : List ResultVar) (R : Value → World → Prop) (x : Exit) (e : Env) (w : World) : Prop :=
  match x with
  | .normal => resE P tk rs e w fun vs => R (resV vs) w
  | .ret => resE P tk rs e w fun vs => R (resV vs) w
  | _ => False

def initEnv : Nat → List Value → Env
  | _, [] => []
  | i, v :: vs => (i, v) :: initEnv (i + 1) vs

/-- The call of a function, by what D makes of its body. -/
def DF (P : Program) (tk : TypeId → RK) (A : AT) (fn : Func) (args : List Value) (w : World) (R : Value → World → Prop) : Prop :=
  match fn.body with
  | some c => D P tk A c (KR P tk fn.results.toList R) (initEnv 0 args) w
  | none => False

def dfOk (fn : Func) (n : Nat) : Bool :=
  match fn.body with
  | some c => (writes c).all (fun d => Nat.blt d fn.ntmps) && Nat.ble n fn.ntmps
  | none => false

theorem get_initEnv : ∀ {vs : List Value} {i s : Nat} {v : Value}, (initEnv i vs).get s = some v → i ≤ s ∧ vs[s - i]? = some v
  | [], _, _, _, h => by cases h
  | u :: vs, i, s, v, h => by
    simp only [initEnv] at h
    rw [get_cons] at h
    by_cases hk : i = s
    · subst hk
      rw [if_pos rfl] at h
      simpa using h
    · rw [if_neg hk] at h
      obtain ⟨h1, h2⟩ := get_initEnv h
      refine ⟨by omega, ?_⟩
      rw [show s - i = (s - (i + 1)) + 1 by omega]
      simpa using h2

def resOne (tmps : Array Value) (r : ResultVar) : Sem Value :=
  match r with
  | .tmp t => pure (tmps.getD t undef)
  | .cell x t => do loadVar t (← asAddr (tmps.getD x undef))

theorem resE_sound {a : Act} : ∀ {rs : List ResultVar} {e : Env} {w : World} {K : List Value → Prop}, Agrees e a → resE P tk rs e w K →
    ∃ vs, (rs.mapM (resOne a.tmps)).run P w = .ok vs w ∧ K vs
  | [], _, _, _, _, h => ⟨[], by simp, h⟩
  | .tmp t :: r, e, w, K, hA, h => by
    simp only [resE] at h
    split at h
    · rename_i v hv
      obtain ⟨vs, hvs, hK⟩ := resE_sound hA h
      refine ⟨v :: vs, ?_, hK⟩
      have ht : a.tmps.getD t undef = v := by simp [Array.getD_eq_getD_getElem?, hA.get _ _ hv]
      simp only [List.mapM_cons, resOne, Sem.run_bind, Sem.run_pure, Result.andThen, ht]
      rw [hvs]
    · exact h.elim
  | .cell t T :: r, e, w, K, hA, h => by
    simp only [resE] at h
    split at h
    · rename_i A hv
      obtain ⟨v, hl, h⟩ := dload_sound h
      obtain ⟨vs, hvs, hK⟩ := resE_sound hA h
      refine ⟨v :: vs, ?_, hK⟩
      have ht : a.tmps.getD t undef = .pointer (some A) := by simp [Array.getD_eq_getD_getElem?, hA.get _ _ hv]
      have hl' : (loadVar T A).run P w = .ok v w := by simpa [Instr.loadAt, Instr.sureAddr] using hl
      simp only [List.mapM_cons, resOne, Sem.run_bind, Sem.run_pure, Result.andThen, ht, asAddr, hl']
      rw [hvs]
    · exact h.elim

theorem results_run {fn : Func} {tmps : Array Value} {w : World} {vs : List Value}
    (h : (fn.results.toList.mapM (resOne tmps)).run P w = .ok vs w) :
    (results fn tmps).run P w = .ok (resV vs) w := by
  have e1 : results fn tmps = (do let vs ← fn.results.mapM (resOne tmps); pure (if h : vs.size = 1 then vs[0] else .tuple vs)) := rfl
  rw [e1, Array.mapM_eq_mapM_toList]
  simp only [Sem.run_bind, Sem.run_map]
  rw [h]
  simp only [Result.andThen, Sem.run_pure]
  congr 1
  match vs with
  | [] => rfl
  | [v] => rfl
  | u :: v :: vs => simp [resV]

theorem calls_of_DF {f : FuncId} {fn : Func} {A : AT} {args : List Value} {w : World} {R : Value → World → Prop} (hm : P.follows .mixedOrders = true)
    (hf : P.funcs[f]? = some fn) (hok : dfOk fn args.length = true) (h : DF P tk A fn args w R) :
    Calls P f args.toArray w fun e w' => ∃ v, e = .returned v ∧ R v w' := by
  unfold DF at h
  unfold dfOk at hok
  cases hbd : fn.body with
  | none => rw [hbd] at h; exact h.elim
  | some c =>
    rw [hbd] at h hok
    simp only [Bool.and_eq_true] at h hok
    obtain ⟨hw, hn⟩ := hok
    have hn' := Nat.le_of_ble_eq_true hn
    refine calls_of_wp hf hbd ?_
    have hsz : (args.toArray ++ Array.replicate (fn.ntmps - args.toArray.size) undef).size = fn.ntmps := by simp; omega
    have hA : Agrees (initEnv 0 args) { tmps := args.toArray ++ Array.replicate (fn.ntmps - args.toArray.size) undef, defers := [] } := by
      constructor
      intro s v hs
      obtain ⟨_, h2⟩ := get_initEnv hs
      simp only [Nat.sub_zero] at h2
      have hlt : s < args.length := (List.getElem?_eq_some_iff.1 h2).1
      simp [Array.getElem?_append, hlt]
      rw [List.getElem?_eq_getElem hlt] at h2
      exact Option.some.inj h2
    refine wp_post (D_sound hm A c _ _ _ w hA (fun d hd => ?_) h) ?_
    · have h1 := List.all_eq_true.1 hw d hd
      have h2 := Nat.le_of_ble_eq_true h1
      show d < (args.toArray ++ Array.replicate (fn.ntmps - args.toArray.size) undef).size
      rw [hsz]
      omega
    · rintro x a' w' ⟨hk, e', hA', hK⟩
      have hd : a'.defers = [] := hk.defers
      cases x with
      | normal =>
        obtain ⟨vs, hvs, hR⟩ := resE_sound hA' hK
        exact ⟨hd, _, results_run hvs, _, rfl, hR⟩
      | ret =>
        obtain ⟨vs, hvs, hR⟩ := resE_sound hA' hK
        exact ⟨hd, _, results_run hvs, _, rfl, hR⟩
      | exit id => exact hK.elim
      | goto l => exact hK.elim
      | panic ch => exact hK.elim
      | outgrown => exact hK.elim

end

end Gx
