/- The proof kit over what the calculator leaves: blocks, changes, calls. -/
import Derived.Test.YtgljoledlhmhnaaGreatDoorGl
namespace Gx
open Go Go.RowKit

/-- The call returns, and what it returns and leaves is so. -/
def Ret (P : Program) (f : FuncId) (args : Array Value) (w : World) (Q : Value → World → Prop) : Prop :=
  Calls P f args w fun e w1 => ∃ v, e = .returned v ∧ Q v w1

theorem Ret.use {P : Program} {f : FuncId} {args : Array Value} {w : World} {Q : Value → World → Prop} {R : Ending → World → Prop}
    (h : Ret P f args w Q) (k : ∀ v w', Q v w' → R (.returned v) w') : Calls P f args w R :=
  Calls.mono h fun _ _ ⟨v, hv, hq⟩ => by subst hv; exact k v _ hq
theorem Ret.mono {P : Program} {f : FuncId} {args : Array Value} {w : World} {Q R : Value → World → Prop}
    (h : Ret P f args w Q) (k : ∀ v w', Q v w' → R v w') : Ret P f args w R :=
  Ret.use h fun v _ hq => ⟨v, rfl, k _ _ hq⟩

/-- Nothing of what there was has turned. -/
abbrev Ext (w w' : World) : Prop := Chg (fun _ => False) w w'

theorem Chg.of_ext {W : Nat → Prop} {w w' : World} (h : Ext w w') : Chg W w w' := Chg.mono h fun _ _ h => h.elim
theorem Chg.drew {W : Nat → Prop} {w w' : World} (h : Chg W w w') : Chg W w w'.drew := ⟨h.os, h.tape, h.output, h.size, h.block⟩
theorem Chg.alloc {W : Nat → Prop} {w w' : World} (h : Chg W w w') (o : Obj) : Chg W w (w'.alloc o) :=
  h.trans ⟨rfl, rfl, rfl, by simp, fun k hk _ => Below.heap_alloc _ _ _ hk⟩
theorem Chg.set {W : Nat → Prop} {w w' : World} (h : Chg W w w') {A : Addr} (hb : A.block < w.heap.size → W A.block) (v : Value) : Chg W w (w'.setCell A v) :=
  ⟨h.os, h.tape, h.output, by simp only [World.setCell, Array.size_modify]; exact h.size, fun k hk hW => by
    rw [Below.heap_setCell _ _ _ _ (fun e => hW (by subst e; exact hb hk))]; exact h.block k hk hW⟩
theorem Chg.setCells {W : Nat → Prop} {w : World} {A : Addr} (hb : A.block < w.heap.size → W A.block) : ∀ (vs : List Value) (i : Nat) {w' : World}, Chg W w w' → Chg W w (setCells w' A i vs)
  | [], _, _, h => h
  | v :: vs, i, w', h => by
    have hbl : (A.add i).block = A.block := by unfold Addr.add; split <;> rfl
    exact Chg.setCells hb vs (i + 1) (Chg.set h (by rw [hbl]; exact hb) v)

theorem drew_heap (w : World) : w.drew.heap = w.heap := rfl
theorem drew_cell (w : World) (A : Addr) : w.drew.cell? A = w.cell? A := rfl
theorem drew_frozen (w : World) (A : Addr) : w.drew.frozen? A = w.frozen? A := rfl

theorem add_mk (b o n : Nat) : (Addr.mk b o none).add n = ⟨b, o + n, none⟩ := by
  unfold Addr.add; split
  · rename_i h; subst h; rfl
  · rfl

/-- A block of cells that may be written. -/
def Blk (w : World) (b : Nat) (c : Array Value) (T : TypeId) : Prop := w.heap[b]? = some (.cells c T (0, 0))

section
variable {w w' : World} {b i : Nat} {c : Array Value} {T : TypeId}

theorem Blk.lt (h : Blk w b c T) : b < w.heap.size := (Array.getElem?_eq_some_iff.1 h).1
theorem Blk.cell (h : Blk w b c T) (i : Nat) : w.cell? ⟨b, i, none⟩ = c[i]? := by
  unfold Blk at h
  simp [World.cell?, h]
theorem Blk.frozen (h : Blk w b c T) (A : Addr) (hA : A.block = b) : w.frozen? A = false := by
  unfold Blk at h
  simp [World.frozen?, hA, h]
theorem Blk.chg {W : Nat → Prop} (h : Blk w b c T) (hc : Chg W w w') (hb : ¬ W b) : Blk w' b c T := by
  have hl := h.lt
  unfold Blk at h ⊢
  rw [hc.block b hl hb]; exact h
theorem Blk.ext (h : Blk w b c T) (hc : Ext w w') : Blk w' b c T := h.chg hc id
theorem Blk.drew (h : Blk w b c T) : Blk w.drew b c T := h
theorem Blk.new (w : World) (c : Array Value) (T : TypeId) : Blk (w.alloc (.cells c T)) w.heap.size c T := by
  show (w.heap.push (.cells c T))[w.heap.size]? = some (.cells c T (0, 0))
  simp
theorem Blk.alloc (h : Blk w b c T) (o : Obj) : Blk (w.alloc o) b c T := h.ext (Chg.alloc (.refl _ _) o)
theorem Blk.set (h : Blk w b c T) (i : Nat) (v : Value) : Blk (w.setCell ⟨b, i, none⟩ v) b (c.setIfInBounds i v) T := by
  unfold Blk at h ⊢
  simp [World.setCell, Array.getElem?_modify, h]
theorem Blk.set_ne (h : Blk w b c T) {A : Addr} (hA : A.block ≠ b) (v : Value) : Blk (w.setCell A v) b c T := by
  unfold Blk at h ⊢
  rw [Below.heap_setCell _ _ _ _ (fun e => hA e.symm)]; exact h
theorem Blk.inj {c' : Array Value} {T' : TypeId} (h : Blk w b c T) (h' : Blk w b c' T') : c = c' ∧ T = T' := by
  unfold Blk at h h'
  rw [h] at h'
  simpa using h'

/-- Cells laid over others. -/
def spl (c : Array Value) (i : Nat) : List Value → Array Value
  | [] => c
  | v :: vs => spl (c.setIfInBounds i v) (i + 1) vs

theorem spl_size : ∀ (vs : List Value) (c : Array Value) (i : Nat), (spl c i vs).size = c.size
  | [], _, _ => rfl
  | v :: vs, c, i => by simp [spl, spl_size vs]

theorem Blk.sets : ∀ (vs : List Value) {w : World} {c : Array Value} (i j : Nat), Blk w b c T → Blk (setCells w ⟨b, i, none⟩ j vs) b (spl c (i + j) vs) T
  | [], _, _, _, _, h => h
  | v :: vs, w, c, i, j, h => by
    simp only [setCells, spl, add_mk]
    have := Blk.sets vs i (j + 1) (h.set (i + j) v)
    rw [show i + (j + 1) = i + j + 1 by omega] at this
    exact this
theorem Blk.sets_ne (h : Blk w b c T) {A : Addr} (hA : A.block ≠ b) : ∀ (vs : List Value) (j : Nat) {w' : World}, Blk w' b c T → Blk (setCells w' A j vs) b c T
  | [], _, _, h => h
  | v :: vs, j, w', h' => by
    have hbl : (A.add j).block = A.block := by unfold Addr.add; split <;> rfl
    exact Blk.sets_ne h hA vs (j + 1) (h'.set_ne (by rw [hbl]; exact hA) v)

theorem Blk.storeOk (h : Blk w b c T) (i : Nat) (vs : List Value) (hn : i + vs.length ≤ c.size) (hp : ∀ v ∈ vs, Plain v) : StoreOk w ⟨b, i, none⟩ vs := by
  refine ⟨fun j hj => ?_, hp⟩
  rw [add_mk, h.cell, h.frozen _ rfl]
  have : i + j < c.size := by omega
  simp [this]

end

/-! ### Where ways meet -/
theorem Jn0 {B : (World → Prop) → Prop} {rest : World → Prop} (φ : World → Prop) (h1 : ∀ k : World → Prop, (∀ w, φ w → k w) → B k) (h2 : ∀ w, φ w → rest w) : Jn B rest := ⟨h1 rest h2⟩
theorem Jn1 {τ : Type} {B : (τ → World → Prop) → Prop} {rest : τ → World → Prop} (φ : τ → World → Prop) (h1 : ∀ k : τ → World → Prop, (∀ x w, φ x w → k x w) → B k) (h2 : ∀ x w, φ x w → rest x w) : Jn B rest := ⟨h1 rest h2⟩
theorem Jn2 {τ σ : Type} {B : (τ → σ → World → Prop) → Prop} {rest : τ → σ → World → Prop} (φ : τ → σ → World → Prop) (h1 : ∀ k : τ → σ → World → Prop, (∀ x y w, φ x y w → k x y w) → B k) (h2 : ∀ x y w, φ x y w → rest x y w) : Jn B rest := ⟨h1 rest h2⟩
theorem Jn3 {τ σ υ : Type} {B : (τ → σ → υ → World → Prop) → Prop} {rest : τ → σ → υ → World → Prop} (φ : τ → σ → υ → World → Prop) (h1 : ∀ k : τ → σ → υ → World → Prop, (∀ x y z w, φ x y z w → k x y z w) → B k) (h2 : ∀ x y z w, φ x y z w → rest x y z w) : Jn B rest := ⟨h1 rest h2⟩
theorem Jn4 {τ σ υ ρ : Type} {B : (τ → σ → υ → ρ → World → Prop) → Prop} {rest : τ → σ → υ → ρ → World → Prop} (φ : τ → σ → υ → ρ → World → Prop) (h1 : ∀ k : τ → σ → υ → ρ → World → Prop, (∀ x y z t w, φ x y z t w → k x y z t w) → B k) (h2 : ∀ x y z t w, φ x y z t w → rest x y z t w) : Jn B rest := ⟨h1 rest h2⟩

/-! ### Arguments -/
/-- A slice of numbers of one kind that can be read. -/
structure IntsAt (k : IntKind) (w : World) (s : Sl) : Prop where
  le : s.len ≤ s.cap
  cap : s.cap ≤ maxLen
  nil : s.a = none → s.cap = 0
  cell : ∀ a, s.a = some a → ∀ i, i < s.cap → ∃ n : Int, w.cell? (a.add i) = some (.int k n) ∧ k.min ≤ n ∧ n ≤ k.max

structure BoolsAt (w : World) (s : Sl) : Prop where
  le : s.len ≤ s.cap
  cap : s.cap ≤ maxLen
  nil : s.a = none → s.cap = 0
  cell : ∀ a, s.a = some a → ∀ i, i < s.cap → ∃ b : Bool, w.cell? (a.add i) = some (.bool b)

theorem rdCells_one {w : World} {A : Addr} {vs : List Value} (h : rdCells w A 0 1 = some vs) : ∃ v, vs = [v] ∧ w.cell? A = some v := by
  simp only [rdCells] at h
  rw [add_zero'] at h
  cases hc : w.cell? A with
  | none => simp [hc] at h
  | some v => simp [hc] at h; exact ⟨v, h.symm, rfl⟩

theorem IntsAt.of {P : Program} {w : World} {T e : TypeId} {k : IntKind} {v : Value} (h : OkV P w T v) (hT : P.underlying T = some (.slice e)) (he : P.underlying e = some (.int k)) (hc : P.cellsOf e = 1) :
    ∃ s : Sl, v = .slice s.a s.len s.cap ∧ IntsAt k w s := by
  simp only [OkV, hT] at h
  obtain ⟨fuel, h⟩ := h
  cases fuel with
  | zero => cases h
  | succ f =>
    simp only [okT, hT] at h
    obtain ⟨s, hv, h1, h2, h3, h4⟩ := h
    refine ⟨s, by simpa using hv, h1, h2, h3, fun a ha i hi => ?_⟩
    obtain ⟨vs, hr, hok⟩ := h4 a ha i hi
    rw [hc, Nat.mul_one] at hr
    obtain ⟨v, rfl, hv⟩ := rdCells_one hr
    cases f with
    | zero => cases hok
    | succ f =>
      simp only [okT, he] at hok
      obtain ⟨n, hn, h5, h6⟩ := hok
      simp only [List.cons.injEq, and_true] at hn
      subst hn
      exact ⟨n, hv, h5, h6⟩

theorem BoolsAt.of {P : Program} {w : World} {T e : TypeId} {v : Value} (h : OkV P w T v) (hT : P.underlying T = some (.slice e)) (he : P.underlying e = some .bool) (hc : P.cellsOf e = 1) :
    ∃ s : Sl, v = .slice s.a s.len s.cap ∧ BoolsAt w s := by
  simp only [OkV, hT] at h
  obtain ⟨fuel, h⟩ := h
  cases fuel with
  | zero => cases h
  | succ f =>
    simp only [okT, hT] at h
    obtain ⟨s, hv, h1, h2, h3, h4⟩ := h
    refine ⟨s, by simpa using hv, h1, h2, h3, fun a ha i hi => ?_⟩
    obtain ⟨vs, hr, hok⟩ := h4 a ha i hi
    rw [hc, Nat.mul_one] at hr
    obtain ⟨v, rfl, hv⟩ := rdCells_one hr
    cases f with
    | zero => cases hok
    | succ f =>
      simp only [okT, he] at hok
      obtain ⟨n, hn⟩ := hok
      simp only [List.cons.injEq, and_true] at hn
      subst hn
      exact ⟨n, hv⟩

theorem IntAt.of {P : Program} {w : World} {T : TypeId} {k : IntKind} {v : Value} (h : OkV P w T v) (hT : P.underlying T = some (.int k)) : ∃ n : Int, v = .int k n ∧ k.min ≤ n ∧ n ≤ k.max := by
  simp only [OkV, hT] at h
  obtain ⟨fuel, h⟩ := h
  cases fuel with
  | zero => cases h
  | succ f =>
    simp only [okT, hT] at h
    obtain ⟨n, hn, h1, h2⟩ := h
    exact ⟨n, by simpa using hn, h1, h2⟩

theorem BoolAt.of {P : Program} {w : World} {T : TypeId} {v : Value} (h : OkV P w T v) (hT : P.underlying T = some .bool) : ∃ b : Bool, v = .bool b := by
  simp only [OkV, hT] at h
  obtain ⟨fuel, h⟩ := h
  cases fuel with
  | zero => cases h
  | succ f =>
    simp only [okT, hT] at h
    obtain ⟨n, hn⟩ := h
    exact ⟨n, by simpa using hn⟩

theorem u8_range {n : Int} (h0 : IntKind.u8.min ≤ n) (h1 : n ≤ IntKind.u8.max) : 0 ≤ n ∧ n ≤ 255 := by
  simpa [IntKind.min, IntKind.max, IntKind.signed, IntKind.bits] using And.intro h0 h1
theorem i64_range {n : Int} (h0 : IntKind.i64.min ≤ n) (h1 : n ≤ IntKind.i64.max) : -9223372036854775808 ≤ n ∧ n ≤ 9223372036854775807 := by
  simpa [IntKind.min, IntKind.max, IntKind.signed, IntKind.bits] using And.intro h0 h1

theorem toNat_add_mul (n : Int) : Int.toNat n * 1 = Int.toNat n := Nat.mul_one _

theorem wrapi {n : Int} (h0 : -9223372036854775808 ≤ n) (h1 : n ≤ 9223372036854775807) : IntKind.i64.wrap n = n := by
  by_cases h : 0 ≤ n
  · exact wrap64_id h h1
  · have e : n % 18446744073709551616 = n + 18446744073709551616 := by omega
    simp [IntKind.wrap, IntKind.signed, IntKind.bits, e]
    omega

end Gx
