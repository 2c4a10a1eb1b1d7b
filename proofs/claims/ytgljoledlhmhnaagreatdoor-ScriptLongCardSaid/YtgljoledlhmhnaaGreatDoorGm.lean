/- Maps: an object of entries, and what make, lookup, entry, store, delete, clear and len do with it. -/
import Derived.Test.YtgljoledlhmhnaaGreatDoorGv
import Derived.WideKeyRuns
import Derived.Carry
namespace Gx
open Go Go.RowKit

section
variable {α : Type} {P : Program} {w : World} {kT eT T : TypeId} {enc : α → Value}

def entM (enc : α → Value) (x : α × Value × Nat) : MapEntry := ⟨enc x.1, x.2.1, x.2.2⟩
def kvM (x : α × Value × Nat) : α × Value := (x.1, x.2.1)
def lkM [DecidableEq α] (k : α) : List (α × Value × Nat) → Nat → Option (Nat × Value)
  | [], _ => none
  | x :: L, i => if k = x.1 then some (i, x.2.1) else lkM k L (i + 1)

/-- Keys of a type, and how they are written. -/
theorem modify_at {β : Type} (f : β → β) (x : β) (L2 : List β) : ∀ L1 : List β, (L1 ++ x :: L2).modify L1.length f = L1 ++ f x :: L2
  | [] => rfl
  | y :: L1 => by
    show y :: ((L1 ++ x :: L2).modify L1.length f) = _
    rw [modify_at f x L2 L1]; rfl

structure KeyT [DecidableEq α] (P : Program) (kT : TypeId) (enc : α → Value) : Prop where
  find : ∀ (L : List (α × Value × Nat)) (k : α) (w : World), (Instr.findKey kT (enc k) (L.map (entM enc))).run P w = .ok (lkM k L 0) w
  check : ∀ (b : Bool) (k : α) (w : World), (Instr.checkKey b 10000 kT (enc k)).run P w = .ok () w
  bits : ∀ k, Instr.sameBits 10000 (enc k) (enc k) = true

theorem lkM_none [DecidableEq α] {k : α} : ∀ {L : List (α × Value × Nat)} {i : Nat}, (∀ x ∈ L, x.1 ≠ k) → lkM k L i = none
  | [], _, _ => rfl
  | x :: L, i, h => by
    rw [lkM, if_neg (fun e => h x (by simp) e.symm)]
    exact lkM_none fun y hy => h y (by simp [hy])
theorem lkM_at [DecidableEq α] {k : α} {v : Value} {n : Nat} {L2 : List (α × Value × Nat)} : ∀ {L1 : List (α × Value × Nat)} {i : Nat}, (∀ x ∈ L1, x.1 ≠ k) → lkM k (L1 ++ (k, v, n) :: L2) i = some (i + L1.length, v)
  | [], i, _ => by simp [lkM]
  | x :: L, i, h => by
    rw [List.cons_append, lkM, if_neg (fun e => h x (by simp) e.symm), lkM_at fun y hy => h y (by simp [hy])]
    simp; omega

theorem KeyT.int {k : IntKind} (hu : P.underlying kT = some (.int k)) : KeyT P kT (fun n : Int => Value.int k n) where
  find L n w := by
    have h : ∀ (L : List (Int × Value × Nat)) (i : Nat), Instr.findNow (.int k) (.int k n) (L.map (entM fun n : Int => Value.int k n)) i = some (lkM n L i) := by
      intro L
      induction L with
      | nil => intro i; rfl
      | cons x L ih =>
        intro i
        simp only [List.map_cons, Instr.findNow, entM, Instr.sameNow, if_true, lkM]
        by_cases hx : n = x.1
        · subst hx; simp
        · rw [if_neg hx, show (n == x.1) = false by simpa using hx]
          exact ih (i + 1)
    simp [Instr.findKey, run_underlying' hu, h]
  check b n w := by
    show (Instr.checkKey b (9999 + 1) kT (.int k n)).run P w = _
    unfold Instr.checkKey
    simp only [Sem.run_bind, run_underlying' hu, Result.andThen]
    rfl
  bits n := by
    show (k == k && n == n) = true
    simp

theorem KeyT.agg [DecidableEq α] {d : TypeDesc} (hu : P.underlying kT = some d) (hd : aggT d = true) (heq : ∀ a b w, (Op.equal kT (enc a) (enc b)).run P w = .ok (decide (a = b)) w)
    (hc : ∀ (b : Bool) (k : α) (w : World), (Instr.checkKey b 10000 kT (enc k)).run P w = .ok () w) (hb : ∀ k, Instr.sameBits 10000 (enc k) (enc k) = true) : KeyT P kT enc where
  find L k w := by
    have h : ∀ (L : List (α × Value × Nat)) (i : Nat), (Instr.findAsking kT (enc k) (L.map (entM enc)) i).run P w = .ok (lkM k L i) w := by
      intro L
      induction L with
      | nil => intro i; rfl
      | cons x L ih =>
        intro i
        simp only [List.map_cons, Instr.findAsking, entM, Sem.run_bind, heq, Result.andThen, lkM]
        by_cases hx : k = x.1
        · simp [hx]
        · simp only [hx, decide_false, Bool.false_eq_true, if_false]
          exact ih (i + 1)
    rw [run_findKey_eq w (by rw [hu]; cases d <;> simp [aggT] at hd ⊢) (enc k) _]
    exact h L 0
  check := hc
  bits := hb

/-- A map with these keys and values. -/
def MapK (w : World) (r : Nat) (enc : α → Value) (M : List (α × Value)) : Prop :=
  ∃ (L : List (α × Value × Nat)) (clk : Nat), w.heap[r]? = some (.map (L.map (entM enc)).toArray clk) ∧ (L.map kvM).Perm M ∧ (L.map (·.1)).Nodup ∧ (L.map (·.2.2)).Nodup ∧ ∀ x ∈ L, x.2.2 < clk
/-- .. and one entry more, which has a stamp. -/
def MapE (w : World) (r : Nat) (enc : α → Value) (M : List (α × Value)) (k : α) (v : Value) (st : Int) : Prop :=
  ∃ (L1 L2 : List (α × Value × Nat)) (n clk : Nat), w.heap[r]? = some (.map ((L1 ++ (k, v, n) :: L2).map (entM enc)).toArray clk) ∧ ((L1 ++ L2).map kvM).Perm M ∧ ((L1 ++ (k, v, n) :: L2).map (·.1)).Nodup ∧ ((L1 ++ (k, v, n) :: L2).map (·.2.2)).Nodup ∧ (∀ x ∈ L1 ++ (k, v, n) :: L2, x.2.2 < clk) ∧ st = (n : Int)

variable {r : Nat} {M M' : List (α × Value)} {k : α} {v : Value} {st : Int} {w' : World}

theorem MapK.lt (h : MapK w r enc M) : r < w.heap.size := by
  obtain ⟨L, clk, h, _⟩ := h
  exact (Array.getElem?_eq_some_iff.1 h).1
theorem MapK.chg {W : Nat → Prop} (h : MapK w r enc M) (hc : Chg W w w') (hr : ¬ W r) : MapK w' r enc M := by
  have hl := h.lt
  obtain ⟨L, clk, h, hh⟩ := h
  exact ⟨L, clk, by rw [hc.block r hl hr]; exact h, hh⟩
theorem MapK.ext (h : MapK w r enc M) (hc : Ext w w') : MapK w' r enc M := h.chg hc id
theorem MapK.perm (h : MapK w r enc M) (hp : M.Perm M') : MapK w r enc M' := by
  obtain ⟨L, clk, h, h1, hh⟩ := h
  exact ⟨L, clk, h, h1.trans hp, hh⟩
theorem MapE.lt (h : MapE w r enc M k v st) : r < w.heap.size := by
  obtain ⟨L1, L2, n, clk, h, _⟩ := h
  exact (Array.getElem?_eq_some_iff.1 h).1
theorem MapE.chg {W : Nat → Prop} (h : MapE w r enc M k v st) (hc : Chg W w w') (hr : ¬ W r) : MapE w' r enc M k v st := by
  have hl := h.lt
  obtain ⟨L1, L2, n, clk, h, hh⟩ := h
  exact ⟨L1, L2, n, clk, by rw [hc.block r hl hr]; exact h, hh⟩
theorem MapE.ext (h : MapE w r enc M k v st) (hc : Ext w w') : MapE w' r enc M k v st := h.chg hc id
theorem MapE.toK (h : MapE w r enc M k v st) : MapK w r enc ((k, v) :: M) := by
  obtain ⟨L1, L2, n, clk, h, h1, h2, h3, h4, _⟩ := h
  refine ⟨_, clk, h, ?_, h2, h3, h4⟩
  rw [List.map_append, List.map_cons]
  rw [List.map_append] at h1
  exact List.perm_middle.trans (h1.cons _)
theorem MapK.split (h : MapK w r enc ((k, v) :: M)) : ∃ n, MapE w r enc M k v (n : Nat) := by
  obtain ⟨L, clk, h, h1, h2, h3, h4⟩ := h
  have hm : (k, v) ∈ L.map kvM := h1.mem_iff.2 (by simp)
  obtain ⟨x, hx, hkv⟩ := List.mem_map.1 hm
  obtain ⟨L1, L2, rfl⟩ := List.append_of_mem hx
  obtain ⟨k', v', n⟩ := x
  simp only [kvM, Prod.mk.injEq] at hkv
  obtain ⟨rfl, rfl⟩ := hkv
  refine ⟨n, L1, L2, n, clk, h, ?_, h2, h3, h4, rfl⟩
  rw [List.map_append, List.map_cons] at h1
  have := (List.perm_middle.symm.trans h1)
  rw [List.map_append]
  exact this.cons_inv
theorem MapK.keys (h : MapK w r enc M) : (M.map (·.1)).Nodup := by
  obtain ⟨L, clk, h, h1, h2, h3, h4⟩ := h
  have := h1.map (·.1)
  rw [List.map_map] at this
  exact this.nodup_iff.1 h2
theorem MapK.mem_split (hm : (k, v) ∈ M) : ∃ M', M.Perm ((k, v) :: M') := by
  obtain ⟨A, B, rfl⟩ := List.append_of_mem hm
  exact ⟨A ++ B, List.perm_middle⟩

/-- An object laid anew. -/
def setO (w : World) (r : Nat) (o : Obj) : World := { w with heap := w.heap.setIfInBounds r o }
theorem setO_chg (w : World) (r : Nat) (o : Obj) : Chg (fun q => q = r) w (setO w r o) :=
  ⟨rfl, rfl, rfl, by simp [setO], fun k _ hk => by
    have : ¬ r = k := fun e => hk e.symm
    simp [setO, this]⟩
theorem setO_size (w : World) (r : Nat) (o : Obj) : (setO w r o).heap.size = w.heap.size := by simp [setO]
theorem setO_get {w : World} {r : Nat} (h : r < w.heap.size) (o : Obj) : (setO w r o).heap[r]? = some o := by simp [setO, h]
theorem run_getObjM {es : Array MapEntry} {clk : Nat} (h : w.heap[r]? = some (.map es clk)) : (getObj r).run P w = .ok (.map es clk) w := by simp [getObj, Sem.run, h]
theorem run_setObjM {es : Array MapEntry} {clk : Nat} (h : w.heap[r]? = some (.map es clk)) (o : Obj) : (setObj r o).run P w = .ok () (setO w r o) := by simp [setObj, Sem.run, h, setO]

theorem nodup_front {L1 L2 : List (α × Value × Nat)} {x : α × Value × Nat} (h : ((L1 ++ x :: L2).map (·.1)).Nodup) : ∀ y ∈ L1, y.1 ≠ x.1 := by
  intro y hy e
  rw [List.map_append, List.map_cons, List.nodup_append] at h
  exact h.2.2 _ (List.mem_map_of_mem hy) _ (List.mem_cons_self ..) e
theorem nodup_frontB {L1 L2 : List (α × Value × Nat)} {x : α × Value × Nat} (h : ((L1 ++ x :: L2).map (·.2.2)).Nodup) : ∀ y ∈ L1, y.2.2 ≠ x.2.2 := by
  intro y hy e
  rw [List.map_append, List.map_cons, List.nodup_append] at h
  exact h.2.2 _ (List.mem_map_of_mem hy) _ (List.mem_cons_self ..) e
theorem absent {L : List (α × Value × Nat)} (h1 : (L.map kvM).Perm M) (hk : ∀ v, (k, v) ∉ M) : ∀ x ∈ L, x.1 ≠ k := by
  intro x hx e
  refine hk x.2.1 (h1.mem_iff.1 (List.mem_map.2 ⟨x, hx, ?_⟩))
  simp [kvM, e]

theorem MapK.make (T : TypeId) (w : World) : (Instr.makeMap T none).run P w = .ok (.map (some w.heap.size)) (w.alloc (.map #[] 0)) ∧ MapK (w.alloc (.map #[] 0)) w.heap.size enc ([] : List (α × Value)) := by
  refine ⟨by simp [Instr.makeMap], [], 0, ?_, by simp, by simp, by simp, by simp⟩
  show (w.heap.push (.map #[] 0))[w.heap.size]? = _
  simp

theorem MapK.lookup_some [DecidableEq α] (hK : KeyT P kT enc) (hT : P.underlying T = some (.map kT eT)) (h : MapK w r enc M) (hm : (k, v) ∈ M) (ok : Bool) :
    (Instr.lookup T (.map (some r)) (enc k) ok).run P w = .ok (if ok then .tuple #[v, .bool true] else v) w := by
  obtain ⟨M', hp⟩ := MapK.mem_split hm
  obtain ⟨n, L1, L2, n', clk, h, h1, h2, h3, h4, _⟩ := (h.perm hp).split
  have hf := hK.find (L1 ++ (k, v, n') :: L2) k w
  rw [lkM_at (nodup_front h2)] at hf
  simp only [Instr.lookup, Sem.run_bind, run_underlying' hT, Result.andThen, run_getObjM h, Sem.run_pure, hK.check, hf]
theorem MapK.lookup_none [DecidableEq α] (hK : KeyT P kT enc) (hT : P.underlying T = some (.map kT eT)) {i : TypeInfo} {z : Value} (hi : P.info? eT = some i) (hz : i.zero = some z) (h : MapK w r enc M) (hm : ∀ v, (k, v) ∉ M) (ok : Bool) :
    (Instr.lookup T (.map (some r)) (enc k) ok).run P w = .ok (if ok then .tuple #[z, .bool false] else z) w := by
  obtain ⟨L, clk, h, h1, h2, h3, h4⟩ := h
  have hf := hK.find L k w
  rw [lkM_none (absent h1 hm)] at hf
  simp only [Instr.lookup, Sem.run_bind, run_underlying' hT, Result.andThen, run_getObjM h, Sem.run_pure, hK.check, hf, zeroValue, run_typeInfo' hi, hz]
theorem lookup_nilM [DecidableEq α] (hK : KeyT P kT enc) (hT : P.underlying T = some (.map kT eT)) {i : TypeInfo} {z : Value} (hi : P.info? eT = some i) (hz : i.zero = some z) (k : α) (w : World) (ok : Bool) :
    (Instr.lookup T (.map none) (enc k) ok).run P w = .ok (if ok then .tuple #[z, .bool false] else z) w := by
  have hf := hK.find [] k w
  simp only [List.map_nil] at hf
  simp only [Instr.lookup, Sem.run_bind, run_underlying' hT, Result.andThen, Sem.run_pure, hK.check, hf, zeroValue, run_typeInfo' hi, hz, lkM]

theorem MapK.entry_new [DecidableEq α] (hK : KeyT P kT enc) (hT : P.underlying T = some (.map kT eT)) {i : TypeInfo} {z : Value} (hi : P.info? eT = some i) (hz : i.zero = some z) (h : MapK w r enc M) (hm : ∀ v, (k, v) ∉ M) :
    ∃ (st : Int) (w1 : World), (Instr.mapEntry T (.map (some r)) (enc k)).run P w = .ok (.tuple #[z, .int .i64 st]) w1 ∧ Chg (fun q => q = r) w w1 ∧ w1.heap.size = w.heap.size ∧ MapE w1 r enc M k z st := by
  have hlt := h.lt
  obtain ⟨L, clk, h, h1, h2, h3, h4⟩ := h
  have hab := absent h1 hm
  have hf := hK.find L k w
  rw [lkM_none hab] at hf
  refine ⟨(clk : Int), setO w r (.map ((L.map (entM enc)).toArray.push ⟨enc k, z, clk⟩) (clk + 1)), ?_, setO_chg _ _ _, setO_size _ _ _, L, [], clk, clk + 1, ?_, ?_, ?_, ?_, ?_, rfl⟩
  · simp only [Instr.mapEntry, Sem.run_bind, run_underlying' hT, Result.andThen, run_getObjM h, Sem.run_pure, hK.check, hf, zeroValue, run_typeInfo' hi, hz, run_setObjM h]
    rfl
  · rw [setO_get hlt]
    simp [entM]
  · simpa using h1
  · rw [List.map_append, List.nodup_append]
    refine ⟨h2, by simp, fun a ha b hb => ?_⟩
    obtain ⟨x, hx, rfl⟩ := List.mem_map.1 ha
    simp only [List.map_cons, List.map_nil, List.mem_singleton] at hb
    subst hb
    exact hab x hx
  · rw [List.map_append, List.nodup_append]
    refine ⟨h3, by simp, fun a ha b hb => ?_⟩
    obtain ⟨x, hx, rfl⟩ := List.mem_map.1 ha
    simp only [List.map_cons, List.map_nil, List.mem_singleton] at hb
    subst hb
    have := h4 x hx
    omega
  · intro x hx
    rcases List.mem_append.1 hx with hx | hx
    · have := h4 x hx; omega
    · rw [List.mem_singleton.1 hx]; show clk < clk + 1; omega
theorem MapK.entry_old [DecidableEq α] (hK : KeyT P kT enc) (hT : P.underlying T = some (.map kT eT)) (h : MapK w r enc ((k, v) :: M)) :
    ∃ (st : Int) (w1 : World), (Instr.mapEntry T (.map (some r)) (enc k)).run P w = .ok (.tuple #[v, .int .i64 st]) w1 ∧ Chg (fun q => q = r) w w1 ∧ w1.heap.size = w.heap.size ∧ MapE w1 r enc M k v st := by
  have hlt := h.lt
  obtain ⟨n, L1, L2, n', clk, h, h1, h2, h3, h4, _⟩ := h.split
  have hf := hK.find (L1 ++ (k, v, n') :: L2) k w
  rw [lkM_at (nodup_front h2), Nat.zero_add] at hf
  have hg : ((L1 ++ (k, v, n') :: L2).map (entM enc)).toArray[L1.length]? = some ⟨enc k, v, n'⟩ := by simp [entM]
  have hmod : ((L1 ++ (k, v, n') :: L2).map (entM enc)).toArray.modify L1.length (fun e => { e with key := enc k }) = ((L1 ++ (k, v, n') :: L2).map (entM enc)).toArray := by
    apply Array.toList_inj.1
    rw [Array.toList_modify, List.map_append, List.map_cons]
    have := modify_at (fun e => { e with key := enc k }) (entM enc (k, v, n')) (L2.map (entM enc)) (L1.map (entM enc))
    rw [List.length_map] at this
    rw [this]
    simp [entM]
  refine ⟨(n' : Int), setO w r (.map ((L1 ++ (k, v, n') :: L2).map (entM enc)).toArray clk), ?_, setO_chg _ _ _, setO_size _ _ _, L1, L2, n', clk, setO_get hlt _, h1, h2, h3, h4, rfl⟩
  simp only [Instr.mapEntry, Sem.run_bind, run_underlying' hT, Result.andThen, run_getObjM h, Sem.run_pure, hK.check, hf, hg, Option.map_some, Option.getD_some, Instr.keyThatStays, hK.bits, if_true, run_setObjM h, hmod]
  rfl
theorem MapE.store (h : MapE w r enc M k v st) (T : TypeId) (v' : Value) :
    ∃ w1 : World, (Instr.entryStore T (.map (some r)) (.int .i64 st) v').run P w = .ok () w1 ∧ Chg (fun q => q = r) w w1 ∧ w1.heap.size = w.heap.size ∧ MapK w1 r enc ((k, v') :: M) := by
  have hlt := h.lt
  obtain ⟨L1, L2, n, clk, h, h1, h2, h3, h4, rfl⟩ := h
  have hx : ((L1 ++ (k, v, n) :: L2).map (entM enc)).toArray.findIdx? (fun e => (e.born : Int) == (n : Int)) = some L1.length := by
    rw [List.findIdx?_toArray, List.findIdx?_eq_some_iff_getElem]
    refine ⟨by simp, by simp [entM], fun j hj => ?_⟩
    have hj2 : j < L1.length := hj
    have e : ((L1 ++ (k, v, n) :: L2).map (entM enc))[j]'(by simp; omega) = entM enc L1[j] := by simp [List.getElem_append, hj2]
    rw [e]
    have hne : (L1[j]).2.2 ≠ n := nodup_frontB h3 L1[j] (List.getElem_mem _)
    simp only [entM]
    intro hb
    have := eq_of_beq hb
    omega
  have hmod : ((L1 ++ (k, v, n) :: L2).map (entM enc)).toArray.modify L1.length (fun e => { e with val := v' }) = ((L1 ++ (k, v', n) :: L2).map (entM enc)).toArray := by
    apply Array.toList_inj.1
    rw [Array.toList_modify, List.map_append, List.map_cons]
    have := modify_at (fun e => { e with val := v' }) (entM enc (k, v, n)) (L2.map (entM enc)) (L1.map (entM enc))
    rw [List.length_map] at this
    rw [this]
    simp [entM]
  refine ⟨setO w r (.map ((L1 ++ (k, v', n) :: L2).map (entM enc)).toArray clk), ?_, setO_chg _ _ _, setO_size _ _ _, L1 ++ (k, v', n) :: L2, clk, setO_get hlt _, ?_, ?_, ?_, ?_⟩
  · simp only [Instr.entryStore, asInt, asIntOf, Sem.run_bind, Result.andThen, run_getObjM h, Sem.run_pure, hx, run_setObjM h, hmod]
  · rw [List.map_append, List.map_cons]
    rw [List.map_append] at h1
    exact List.perm_middle.trans (h1.cons _)
  · simpa using h2
  · simpa using h3
  · intro x hx
    rcases List.mem_append.1 hx with hx | hx
    · exact h4 x (by simp [hx])
    · rcases List.mem_cons.1 hx with rfl | hx
      · exact h4 (k, v, n) (by simp)
      · exact h4 x (by simp [hx])

theorem MapK.delete_some [DecidableEq α] (hK : KeyT P kT enc) (hT : P.underlying T = some (.map kT eT)) {kT' o : TypeId} (h : MapK w r enc ((k, v) :: M)) :
    ∃ w1 : World, (Builtin.delete_ #[T, kT'] o #[.map (some r), enc k]).run P w = .ok (.tuple #[]) w1 ∧ Chg (fun q => q = r) w w1 ∧ w1.heap.size = w.heap.size ∧ MapK w1 r enc M := by
  have hlt := h.lt
  obtain ⟨n, L1, L2, n', clk, h, h1, h2, h3, h4, _⟩ := h.split
  have hf := hK.find (L1 ++ (k, v, n') :: L2) k w
  rw [lkM_at (nodup_front h2), Nat.zero_add] at hf
  have her : ((L1 ++ (k, v, n') :: L2).map (entM enc)).toArray.eraseIdxIfInBounds L1.length = ((L1 ++ L2).map (entM enc)).toArray := by
    apply Array.toList_inj.1
    rw [Array.toList_eraseIdxIfInBounds]
    simp [List.eraseIdx_append_of_length_le]
  refine ⟨setO w r (.map ((L1 ++ L2).map (entM enc)).toArray clk), ?_, setO_chg _ _ _, setO_size _ _ _, L1 ++ L2, clk, setO_get hlt _, h1, ?_, ?_, ?_⟩
  · simp only [Builtin.delete_, List.getElem?_toArray, List.getElem?_cons_zero, List.getElem?_cons_succ, Sem.run_bind, run_underlying' hT, Result.andThen, run_getObjM h, Sem.run_pure, hK.check, hf, run_setObjM h, her]
  · refine List.Nodup.sublist ?_ h2
    rw [List.map_append, List.map_append, List.map_cons]
    exact List.Sublist.append_left (List.sublist_cons_self _ _) _
  · refine List.Nodup.sublist ?_ h3
    rw [List.map_append, List.map_append, List.map_cons]
    exact List.Sublist.append_left (List.sublist_cons_self _ _) _
  · intro x hx
    rcases List.mem_append.1 hx with hx | hx
    · exact h4 x (by simp [hx])
    · exact h4 x (by simp [hx])
theorem MapK.delete_none [DecidableEq α] (hK : KeyT P kT enc) (hT : P.underlying T = some (.map kT eT)) {kT' o : TypeId} (h : MapK w r enc M) (hm : ∀ v, (k, v) ∉ M) :
    ∃ w1 : World, (Builtin.delete_ #[T, kT'] o #[.map (some r), enc k]).run P w = .ok (.tuple #[]) w1 ∧ Chg (fun q => q = r) w w1 ∧ w1.heap.size = w.heap.size ∧ MapK w1 r enc M := by
  have hlt := h.lt
  obtain ⟨L, clk, h, h1, h2, h3, h4⟩ := h
  have hf := hK.find L k w
  rw [lkM_none (absent h1 hm)] at hf
  refine ⟨setO w r (.map (L.map (entM enc)).toArray clk), ?_, setO_chg _ _ _, setO_size _ _ _, L, clk, setO_get hlt _, h1, h2, h3, h4⟩
  simp only [Builtin.delete_, List.getElem?_toArray, List.getElem?_cons_zero, List.getElem?_cons_succ, Sem.run_bind, run_underlying' hT, Result.andThen, run_getObjM h, Sem.run_pure, hK.check, hf, run_setObjM h]

theorem MapK.len {kT' : TypeId} (hT : P.underlying T = some (.map kT' eT)) {o : TypeId} (h : MapK w r enc M) : (Builtin.len_ #[T] o #[.map (some r)]).run P w = .ok (.int .i64 ((M.length : Nat) : Int)) w := by
  obtain ⟨L, clk, h, h1, h2, h3, h4⟩ := h
  have hl : L.length = M.length := by rw [← h1.length_eq, List.length_map]
  simp only [Builtin.len_, List.getElem?_toArray, List.getElem?_cons_zero, Sem.run_bind, run_underlying' hT, Result.andThen, run_getObjM h, Sem.run_pure]
  simp [goInt, hl]

end
end Gx
