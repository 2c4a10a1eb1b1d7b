/- A law of a function that leaves what there was as it was: from its call to its row. -/
import Derived.Test.YtgljoledlhmhnaaGreatDoorGc
import Derived.WalkKit
import Derived.ProofKit
import Derived.OpenShut
import Derived.Below
import Derived.WideKeyArgs
namespace Gx
open Go Go.ChangeShapes Go.WideShapes Go.ChangeAt Go.RowKit

/-- What a value of a type is made of, down to the bottom. -/
def okT (P : Program) (w : World) : Nat → TypeId → List Value → Prop
  | 0, _, _ => False
  | fuel + 1, t, cs =>
    match P.underlying t with
    | some .bool => ∃ b : Bool, cs = [.bool b]
    | some (.int k) => ∃ n : Int, cs = [.int k n] ∧ k.min ≤ n ∧ n ≤ k.max
    | some .string => ∃ s : ByteArray, cs = [.string s] ∧ s.size ≤ maxLen
    | some (.slice e) => ∃ s : Sl, cs = [.slice s.a s.len s.cap] ∧ s.len ≤ s.cap ∧ s.cap ≤ maxLen ∧ (s.a = none → s.cap = 0) ∧
        ∀ a, s.a = some a → ∀ i, i < s.cap → ∃ vs, rdCells w (a.add (i * P.cellsOf e)) 0 (P.cellsOf e) = some vs ∧ okT P w fuel e vs
    | some (.struct fs) => cs.length = P.cellsOf t ∧ ∀ f ∈ fs, okT P w fuel f.type ((cs.drop f.offset).take (P.cellsOf f.type))
    | some (.array n e) => cs.length = P.cellsOf t ∧ ∀ i, i < n → okT P w fuel e ((cs.drop (i * P.cellsOf e)).take (P.cellsOf e))
    | some (.pointer e) => cs = [.pointer none] ∨ ∃ a vs, cs = [.pointer (some a)] ∧ rdCells w a 0 (P.cellsOf e) = some vs ∧ okT P w fuel e vs
    | _ => True

theorem mapM_some {α β : Type} {f : α → Option β} : ∀ {l : List α} {r : List β}, l.mapM f = some r → ∀ x ∈ l, ∃ y, f x = some y
  | [], _, _, _, hx => by cases hx
  | a :: l, r, h, x, hx => by
    simp only [List.mapM_cons] at h
    cases ha : f a with
    | none => simp [ha] at h
    | some b =>
      cases hl : l.mapM f with
      | none => simp [ha, hl] at h
      | some bs =>
        rcases List.mem_cons.1 hx with rfl | hx
        · exact ⟨b, ha⟩
        · exact mapM_some hl x hx

theorem rdCells_of_range {w : World} {a : Addr} : ∀ (n i : Nat) (vs : List Value), ((List.range' i n).mapM fun j => w.cell? (a.add j)) = some vs → rdCells w a i n = some vs
  | 0, i, vs, h => by simp at h; simp [rdCells, h]
  | n + 1, i, vs, h => by
    simp only [List.range'_succ, List.mapM_cons] at h
    cases h1 : w.cell? (a.add i) with
    | none => simp [h1] at h
    | some v =>
      cases h2 : ((List.range' (i + 1) n).mapM fun j => w.cell? (a.add j)) with
      | none => simp [h1, h2] at h
      | some us =>
        simp [h1, h2] at h
        have := rdCells_of_range n (i + 1) us h2
        simp [rdCells, h1, this, h]

theorem rdCells_of_cells? {w : World} {base : Nat} {a : Addr} {n : Nat} {vs : List Value} (h : w.cells? base a n = some vs) : rdCells w a 0 n = some vs := by
  unfold World.cells? at h
  split at h
  · rw [List.range_eq_range'] at h
    exact rdCells_of_range n 0 vs h
  · cases h

section
variable {H : Type} {enc : TypeId × Value → H} {P : Program} {w : World}

theorem okT_of_trod : ∀ (fuel : Nat) (t : TypeId) (cs : List Value) (x : DataW H × List MemPlace), DataW.trod enc P w 0 (fun _ => true) true fuel t cs = some x → okT P w fuel t cs
  | 0, _, _, _, h => by cases h
  | fuel + 1, t, cs, x, h => by
    simp only [DataW.trod] at h
    simp only [okT]
    cases ht : P.underlying t with
    | none => trivial
    | some d =>
      rw [ht] at h
      cases d <;> try trivial
      case bool =>
        match cs, h with
        | [.bool b], _ => exact ⟨b, rfl⟩
      case int k =>
        match cs, h with
        | [.int k' n], h =>
          simp only at h
          split at h
          · rename_i hk
            obtain ⟨rfl, hw⟩ := hk
            exact ⟨n, rfl, by simpa [Lit.wf] using hw⟩
          · cases h
      case string =>
        match cs, h with
        | [.string s], h =>
          simp only at h
          split at h
          · rename_i hk; exact ⟨s, rfl, hk⟩
          · cases h
      case pointer e =>
        match cs, h with
        | [.pointer none], _ => exact .inl rfl
        | [.pointer (some a)], h =>
          simp only [Option.map_eq_some_iff] at h
          obtain ⟨y, hy, _⟩ := h
          obtain ⟨vs, h1, h2⟩ := Option.bind_eq_some_iff.1 hy
          exact .inr ⟨a, vs, rfl, rdCells_of_cells? h1, okT_of_trod fuel e vs _ h2⟩
      case slice e =>
        match cs, h with
        | [.slice none 0 0], _ => exact ⟨⟨none, 0, 0⟩, rfl, Nat.le_refl _, Nat.zero_le _, (fun _ => rfl), (fun a ha => by cases ha)⟩
        | [.slice (some a) len cap], h =>
          simp only at h
          split at h
          · rename_i hk
            refine ⟨⟨some a, len, cap⟩, rfl, hk.2.1, hk.2.2, (fun h0 => by cases h0), fun a' ha' i hi => ?_⟩
            obtain ⟨elems, he, h⟩ := Option.bind_eq_some_iff.1 h
            simp only [if_true, Option.map_eq_some_iff] at h
            obtain ⟨rest, hr, _⟩ := h
            cases ha'
            have key : ∃ y, ((w.cells? 0 (a.add (i * P.cellsOf e)) (P.cellsOf e)).bind (DataW.trod enc P w 0 (fun _ => true) true fuel e)) = some y := by
              rcases Nat.lt_or_ge i len with hl | hl
              · exact mapM_some he i (List.mem_range.2 hl)
              · obtain ⟨y, hy⟩ := mapM_some hr (i - len) (List.mem_range.2 (by simp only at hi; omega))
                rw [show len + (i - len) = i by omega] at hy
                exact ⟨y, hy⟩
            obtain ⟨y, hy⟩ := key
            obtain ⟨vs, h1, h2⟩ := Option.bind_eq_some_iff.1 hy
            exact ⟨vs, rdCells_of_cells? h1, okT_of_trod fuel e vs _ h2⟩
          · cases h
      case struct fs =>
        simp only at h
        split at h
        · rename_i hl
          refine ⟨hl, fun f hf => ?_⟩
          simp only [Option.map_eq_some_iff] at h
          obtain ⟨ys, hy, _⟩ := h
          obtain ⟨y, hy⟩ := mapM_some hy f (by simpa using hf)
          exact okT_of_trod fuel _ _ _ hy
        · cases h
      case array n e =>
        simp only at h
        split at h
        · rename_i hl
          refine ⟨hl, fun i hi => ?_⟩
          simp only [Option.map_eq_some_iff] at h
          obtain ⟨ys, hy, _⟩ := h
          obtain ⟨y, hy⟩ := mapM_some hy i (List.mem_range.2 hi)
          exact okT_of_trod fuel _ _ _ hy
        · cases h

/-- A value that came in. -/
def OkV (P : Program) (w : World) (t : TypeId) (v : Value) : Prop :=
  match P.underlying t with
  | some (.struct _) => ∃ cs : Array Value, v = .agg cs ∧ ∃ fuel, okT P w fuel t cs.toList
  | some (.array _ _) => ∃ cs : Array Value, v = .agg cs ∧ ∃ fuel, okT P w fuel t cs.toList
  | _ => ∃ fuel, okT P w fuel t [v]

theorem okV_of {r : Reach} {b0 : Nat} {t : TypeId} {v : Value} {d : DataW H} {ps : List MemPlace} (hval : Value.okWide P w r b0 t v)
    (hd : DataW.Trod enc P w 0 (fun _ => true) true t v d ps) : OkV P w t v := by
  obtain ⟨fuel, hd⟩ := hd
  have h1 := okT_of_trod fuel t _ _ hd
  unfold OkV
  unfold Value.okWide at hval
  have sc : (∀ cs, v ≠ .agg cs) → v.cells.toList = [v] := fun h => by cases v <;> first | rfl | exact absurd rfl (h _)
  cases ht : P.underlying t with
  | none =>
    rw [ht] at hval
    cases fuel with
    | zero => cases hd
    | succ f => exact ⟨1, by simp [okT, ht]⟩
  | some dd =>
    rw [ht] at hval
    cases dd
    case struct fs => obtain ⟨cs, rfl, _, _⟩ := hval; exact ⟨cs, rfl, fuel, h1⟩
    case array n e => obtain ⟨cs, rfl, _, _⟩ := hval; exact ⟨cs, rfl, fuel, h1⟩
    all_goals
      refine ⟨fuel, ?_⟩
      rw [← sc]
      · exact h1
      · rintro cs rfl
        simp [Cell.okWide, Cell.ok, ht] at hval

theorem below_of_chg {w w' : World} (h : Chg (fun _ => False) w w') : Below w.heap.size w w' :=
  ⟨h.os, h.tape, h.output, h.size, fun k hk => h.block k hk (fun h => h)⟩

theorem law_post {f : Func} {s : ChangeSpec} {apart fresh handsOn again : Bool} {W W' : World} {args : Array Value} {T : TypeId} {ds gs : List (DataW H)} {before pa pv : List MemPlace}
    (hW : DataW.Whole enc P f.params.toList s.vars apart W args.toList ds gs before) (hT : P.underlying T = some .bool) (hres : f.resultTypes = #[T])
    (hs : s.fn H (ds ++ gs) = { results := [.lit (.bool true)], args := ds })
    (hargs : ∀ sp : Nat → Bool, (∀ p ∈ before, sp p.block = true) → DataW.TrodAll enc P W' 0 sp true f.params.toList args.toList ds pa)
    (hvars : ∀ sp : Nat → Bool, (∀ p ∈ before, sp p.block = true) → DataW.TrodVars enc P W' sp s.vars [] pv)
    (hps : before = pa ++ pv) (hb : Chg (fun _ => False) W W') :
    s.post enc P f apart fresh handsOn again W args (.bool true) W' := by
  have hB := below_of_chg hb
  have hlt : ∀ p ∈ before, p.block < W.heap.size := fun p hp => hW.lt p hp
  have hold : ∀ p ∈ before, (fun b => decide (b < W.heap.size)) p.block = true := fun p hp => by simpa using hlt p hp
  have hr : ∀ (b : Nat) (sp : Nat → Bool) (hd : Bool), DataW.TrodAll enc P W' b sp hd f.resultTypes.toList ((Value.bool true).resultList f.resultTypes.size) (s.fn H (ds ++ gs)).results [] := by
    intro b sp hd
    rw [hs, hres]
    exact trodAll_cons_mk (shut_bool hT true) trodAll_mk0
  have ha : ∀ sp : Nat → Bool, (∀ p ∈ before, sp p.block = true) → DataW.TrodAll enc P W' 0 sp true f.params.toList args.toList (s.fn H (ds ++ gs)).args pa := by
    intro sp hsp
    rw [hs]
    exact hargs sp hsp
  have hv : ∀ sp : Nat → Bool, (∀ p ∈ before, sp p.block = true) → DataW.TrodVars enc P W' sp s.vars (s.fn H (ds ++ gs)).vars pv := by
    intro sp hsp
    rw [hs]
    exact hvars sp hsp
  refine ⟨ds, gs, before, [], pa, pv, hW, hr _ _ _, ha _ hold, hv _ hold, World.keptBut_mono (fun p hp => ⟨hp, ?_⟩) (hB.frame (· ∈ before)), fun _ => ?_⟩
  · rw [hps, List.mem_append] at hp
    exact Or.inr hp
  · obtain ⟨_, _, _, _, _, hz, hn⟩ := hW
    refine ⟨ok_one hres rfl (okWide_bool_mk hT _), _, _, ([] ++ pa) ++ pv, ⟨[] ++ pa, pv, trodAll_append (ha _ (fun _ _ => rfl)) (hr _ _ _), hv _ (fun _ _ => rfl), rfl, ?_, ?_⟩, ?_⟩
    · intro b off hp
      have hin : MemPlace.cell b off ∈ before := by rw [hps]; simpa using hp
      rw [hB.frozen (hlt _ hin)]
      exact hz b off hin
    · intro hap
      have := hn hap
      rw [hps] at this
      simpa using this
    · intro p hp _
      rw [hps]
      simpa using hp

/-- An argument reads behind the call as it did. -/
theorem arg_stays {t : TypeId} (hl : laidOutB P = true) (hr : P.readableRec t = true) (hrow : t < P.types.size) {W W' : World} {v : Value} {d : DataW H} {ps : List MemPlace} {sp : Nat → Bool}
    (h : DataW.Trod enc P W 0 (fun _ => true) true t v d ps) (hb : Chg (fun _ => False) W W') (hlt : ∀ x ∈ ps, x.block < W.heap.size) (hs : ∀ p ∈ ps, sp p.block = true) :
    DataW.Trod enc P W' 0 sp true t v d ps :=
  WideElems.Trod_stays hl hr hrow h (fun x hx => (below_of_chg hb).same (hlt x hx)) hs

end

end Gx
