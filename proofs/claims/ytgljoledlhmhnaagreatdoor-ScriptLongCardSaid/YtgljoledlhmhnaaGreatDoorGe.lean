/- Equality of structs and arrays whose cells are numbers, truths and texts. -/
import Derived.Test.YtgljoledlhmhnaaGreatDoorGs
import Derived.Laws.StructEq
namespace Gx
open Go Go.RowKit

/-- The kinds of a type's cells, laid one behind the other. -/
def flatF (flatT : TypeId → Option (List Lf)) (P : Program) : List Field → Nat → Option (List Lf)
  | [], _ => some []
  | f :: fs, o => if f.name = "_" ∨ f.offset ≠ o then none else
      match flatT f.type with
      | some ls => if P.cellsOf f.type = ls.length then (flatF flatT P fs (o + ls.length)).map (ls ++ ·) else none
      | none => none

def reps (ls : List Lf) : Nat → List Lf
  | 0 => []
  | n + 1 => ls ++ reps ls n

def flatT (P : Program) : Nat → TypeId → Option (List Lf)
  | 0, _ => none
  | d + 1, T => match P.underlying T with
    | some (.int k) => some [.int k]
    | some .bool => some [.bool]
    | some .string => some [.str]
    | some (.struct fs) => if P.stoodInHeld T then none else flatF (flatT P d) P fs.toList 0
    | some (.array n e) => match flatT P d e with
      | some ls => if P.cellsOf e = ls.length then some (reps ls n) else none
      | none => none
    | _ => none

/-- A cell of a kind. -/
def okC : Lf → Value → Prop
  | .int k, v => ∃ n : Int, v = .int k n
  | .bool, v => ∃ b : Bool, v = .bool b
  | .str, v => ∃ s : ByteArray, v = .string s
  | _, _ => False

def okCs : List Lf → List Value → Prop
  | [], vs => vs = []
  | l :: ls, vs => ∃ v us, vs = v :: us ∧ okC l v ∧ okCs ls us

theorem okCs_length : ∀ {ls : List Lf} {vs : List Value}, okCs ls vs → vs.length = ls.length
  | [], _, h => by cases h; rfl
  | _ :: _, _, h => by
    obtain ⟨v, us, rfl, _, h⟩ := h
    simp [okCs_length h]

theorem okCs_append : ∀ {ls ms : List Lf} {vs : List Value}, okCs (ls ++ ms) vs → okCs ls (vs.take ls.length) ∧ okCs ms (vs.drop ls.length)
  | [], _, _, h => ⟨rfl, h⟩
  | l :: ls, ms, vs, h => by
    obtain ⟨v, us, rfl, h1, h2⟩ := h
    obtain ⟨h3, h4⟩ := okCs_append h2
    exact ⟨⟨v, _, rfl, h1, h3⟩, h4⟩
theorem okCs_mk : ∀ {ls ms : List Lf} {vs us : List Value}, okCs ls vs → okCs ms us → okCs (ls ++ ms) (vs ++ us)
  | [], _, _, _, h, h2 => by cases h; exact h2
  | l :: ls, ms, vs, us, h, h2 => by
    obtain ⟨v, vs, rfl, h1, h⟩ := h
    exact ⟨v, _, rfl, h1, okCs_mk h h2⟩

def eqV : Value → Value → Bool
  | .int _ a, .int _ b => a == b
  | .bool a, .bool b => a == b
  | .string a, .string b => a.toList == b.toList
  | _, _ => false
def eqVs : List Value → List Value → Bool
  | [], _ => true
  | a :: as, b :: bs => eqV a b && eqVs as bs
  | _ :: _, [] => false

theorem eqV_iff {l : Lf} {a b : Value} (ha : okC l a) (hb : okC l b) : eqV a b = true ↔ a = b := by
  cases l <;> simp only [okC] at ha hb <;> try exact ha.elim
  · obtain ⟨n, rfl⟩ := ha; obtain ⟨m, rfl⟩ := hb; simp [eqV]
  · obtain ⟨n, rfl⟩ := ha; obtain ⟨m, rfl⟩ := hb; simp [eqV]
  · obtain ⟨n, rfl⟩ := ha; obtain ⟨m, rfl⟩ := hb
    simp only [eqV, beq_iff_eq, Value.string.injEq]
    rw [ByteArray.toList_eq, ByteArray.toList_eq]
    obtain ⟨⟨x⟩⟩ := n; obtain ⟨⟨y⟩⟩ := m
    simp
theorem eqVs_iff : ∀ {ls : List Lf} {as bs : List Value}, okCs ls as → okCs ls bs → (eqVs as bs = true ↔ as = bs)
  | [], _, _, h1, h2 => by cases h1; cases h2; simp [eqVs]
  | l :: ls, _, _, h1, h2 => by
    obtain ⟨a, as, rfl, h3, h4⟩ := h1
    obtain ⟨b, bs, rfl, h5, h6⟩ := h2
    simp [eqVs, eqV_iff h3 h5, eqVs_iff h4 h6]

theorem eqVs_append : ∀ {as bs cs ds : List Value}, as.length = bs.length → eqVs (as ++ cs) (bs ++ ds) = (eqVs as bs && eqVs cs ds)
  | [], [], _, _, _ => by simp [eqVs]
  | a :: as, b :: bs, cs, ds, h => by
    simp only [List.cons_append, eqVs]
    rw [eqVs_append (by simpa using h), Bool.and_assoc]
  | [], _ :: _, _, _, h => by simp at h
  | _ :: _, [], _, _, h => by simp at h

/-- Cells as a value of a type. -/
def asV (P : Program) (T : TypeId) (cs : List Value) : Value :=
  match P.underlying T with
  | some d => if aggT d then .agg cs.toArray else cs.headD undef
  | none => undef

section
variable {P : Program}

theorem asV_agg {T : TypeId} {d : TypeDesc} {cs : List Value} (h : P.underlying T = some d) (ha : aggT d = true) : asV P T cs = .agg cs.toArray := by
  simp [asV, h, ha]
theorem asV_one {T : TypeId} {d : TypeDesc} {v : Value} (h : P.underlying T = some d) (ha : aggT d = false) : asV P T [v] = v := by
  simp [asV, h, ha]

/-- A part of cells is the value of those cells. -/
theorem run_part {T : TypeId} {cs us : List Value} {off : Nat} {d : TypeDesc} (hT : P.underlying T = some d) (hn : P.cellsOf T = us.length) (hne : aggT d = false → us.length = 1)
    (h : (cs.drop off).take us.length = us) (w : World) : (part T cs.toArray off).run P w = .ok (asV P T us) w := by
  cases hd : aggT d with
  | true =>
    rw [asV_agg hT hd]
    have e : cs.toArray.extract off (off + us.length) = us.toArray := by
      simp [h]
    simp [part, run_isAgg' hT, hd, run_sizeOf' hT, hn, h]
  | false =>
    obtain ⟨v, rfl⟩ := List.length_eq_one_iff.1 (hne hd)
    rw [asV_one hT hd]
    have hv : cs[off]? = some v := by
      have : ((cs.drop off).take 1)[0]? = some v := by
        have h' : List.take 1 (List.drop off cs) = [v] := h
        rw [h']; rfl
      rw [List.getElem?_take_of_lt (by omega), List.getElem?_drop] at this
      simpa using this
    simp [part, run_isAgg' hT, hd, hv]

theorem flat_agg {d : Nat} {T : TypeId} {ls : List Lf} (h : flatT P d T = some ls) : ∃ u, P.underlying T = some u ∧ (aggT u = false → ls.length = 1) := by
  cases d with
  | zero => cases h
  | succ d =>
    simp only [flatT] at h
    cases hu : P.underlying T with
    | none => simp [hu] at h
    | some u =>
      refine ⟨u, rfl, fun ha => ?_⟩
      rw [hu] at h
      cases u <;> simp only [aggT, reduceCtorEq] at ha h <;> first | (cases h; rfl) | cases h

theorem eqFields_flat {d D : Nat} (ih : ∀ {T : TypeId} {ls : List Lf} {xs ys : List Value}, flatT P d T = some ls → okCs ls xs → okCs ls ys → ∀ w, (Op.equalIn (D + d) T (asV P T xs) (asV P T ys)).run P w = .ok (eqVs xs ys) w)
    {xs ys : List Value} : ∀ {fs : List Field} {o : Nat} {ls : List Lf}, flatF (flatT P d) P fs o = some ls → okCs ls (xs.drop o) → okCs ls (ys.drop o) →
      ∀ w, (Op.eqFields (D + d) xs.toArray ys.toArray fs).run P w = .ok (eqVs (xs.drop o) (ys.drop o)) w
  | [], o, ls, h, hx, hy, w => by
    simp only [flatF, Option.some.injEq] at h
    subst h
    have hx : xs.drop o = [] := hx
    rw [hx]
    rfl
  | f :: fs, o, ls, h, hx, hy, w => by
    simp only [flatF] at h
    split at h
    · cases h
    · rename_i hf
      have hf1 : ¬ f.name = "_" := fun e => hf (.inl e)
      have hf2 : f.offset = o := by
        by_cases e : f.offset = o
        · exact e
        · exact absurd (.inr e) hf
      subst hf2
      split at h
      · rename_i ms hm
        split at h
        · rename_i hc
          cases hr : flatF (flatT P d) P fs (f.offset + ms.length) with
          | none => simp [hr] at h
          | some rs =>
            simp only [hr, Option.map_some, Option.some.injEq] at h
            subst h
            obtain ⟨hx1, hx2⟩ := okCs_append hx
            obtain ⟨hy1, hy2⟩ := okCs_append hy
            rw [List.drop_drop] at hx2 hy2
            obtain ⟨u, hu, hun⟩ := flat_agg hm
            have lx := okCs_length hx1
            have ly := okCs_length hy1
            have p1 := run_part (cs := xs) (off := f.offset) (us := (xs.drop f.offset).take ms.length) hu (by rw [hc, lx]) (fun ha => by rw [lx]; exact hun ha) (by rw [lx])
            have p2 := run_part (cs := ys) (off := f.offset) (us := (ys.drop f.offset).take ms.length) hu (by rw [hc, ly]) (fun ha => by rw [ly]; exact hun ha) (by rw [ly])
            have e := fun w => ih hm hx1 hy1 w
            have r := eqFields_flat ih (fs := fs) hr hx2 hy2
            have hfinal : eqVs (xs.drop f.offset) (ys.drop f.offset) = (eqVs ((xs.drop f.offset).take ms.length) ((ys.drop f.offset).take ms.length) && eqVs (xs.drop (f.offset + ms.length)) (ys.drop (f.offset + ms.length))) := by
              rw [← eqVs_append (by rw [lx, ly])]
              simp only [← List.drop_drop, List.take_append_drop]
            simp only [Op.eqFields, ne_eq, hf1, not_false_eq_true, if_true, Sem.run_bind, p1, p2, e, Result.andThen]
            rw [hfinal]
            cases eqVs ((xs.drop f.offset).take ms.length) ((ys.drop f.offset).take ms.length)
            · simp
            · simpa using r w
        · cases h
      · cases h

theorem reps_split (ls : List Lf) : ∀ {n i : Nat}, i < n → ∃ m, reps ls n = reps ls i ++ (ls ++ m)
  | n + 1, 0, _ => ⟨_, rfl⟩
  | n + 1, i + 1, h => by
    obtain ⟨m, hm⟩ := reps_split ls (n := n) (i := i) (by omega)
    exact ⟨m, by simp only [reps, hm, List.append_assoc]⟩
theorem reps_length (ls : List Lf) : ∀ n, (reps ls n).length = n * ls.length
  | 0 => by simp [reps]
  | n + 1 => by simp [reps, reps_length ls n, Nat.add_mul, Nat.add_comm]

theorem eqArr_flat {d D : Nat} (ih : ∀ {T : TypeId} {ls : List Lf} {xs ys : List Value}, flatT P d T = some ls → okCs ls xs → okCs ls ys → ∀ w, (Op.equalIn (D + d) T (asV P T xs) (asV P T ys)).run P w = .ok (eqVs xs ys) w)
    {e : TypeId} {ls : List Lf} {u : TypeDesc} (hu : P.underlying e = some u) (hun : aggT u = false → ls.length = 1) (hl : flatT P d e = some ls) (hc : P.cellsOf e = ls.length) {xs ys : List Value} :
    ∀ (n i : Nat), okCs (reps ls n) (xs.drop (i * ls.length)) → okCs (reps ls n) (ys.drop (i * ls.length)) → ∀ w,
      Sem.run P (do
        let r ← forIn (List.range' i n) ((none : Option Bool), ()) fun i _ => do
          let a ← part e xs.toArray (i * ls.length)
          let b ← part e ys.toArray (i * ls.length)
          let t ← Op.equalIn (D + d) e a b
          if (!t) = true then pure (ForInStep.done (some false, ())) else pure (ForInStep.yield (none, ()))
        match r.1 with
        | some b => pure b
        | none => pure true) w = .ok (eqVs (xs.drop (i * ls.length)) (ys.drop (i * ls.length))) w
  | 0, i, hx, hy, w => by
    have hx : xs.drop (i * ls.length) = [] := hx
    rw [hx]
    simp [eqVs]
  | n + 1, i, hx, hy, w => by
    obtain ⟨hx1, hx2⟩ := okCs_append hx
    obtain ⟨hy1, hy2⟩ := okCs_append hy
    rw [List.drop_drop, show i * ls.length + ls.length = (i + 1) * ls.length by rw [Nat.add_mul, Nat.one_mul]] at hx2 hy2
    have lx := okCs_length hx1
    have ly := okCs_length hy1
    have p1 := run_part (cs := xs) (off := i * ls.length) (us := (xs.drop (i * ls.length)).take ls.length) hu (by rw [hc, lx]) (fun ha => by rw [lx]; exact hun ha) (by rw [lx])
    have p2 := run_part (cs := ys) (off := i * ls.length) (us := (ys.drop (i * ls.length)).take ls.length) hu (by rw [hc, ly]) (fun ha => by rw [ly]; exact hun ha) (by rw [ly])
    have e1 := fun w => ih hl hx1 hy1 w
    have r := eqArr_flat ih hu hun hl hc n (i + 1) hx2 hy2 w
    have hfinal : eqVs (xs.drop (i * ls.length)) (ys.drop (i * ls.length)) = (eqVs ((xs.drop (i * ls.length)).take ls.length) ((ys.drop (i * ls.length)).take ls.length) && eqVs (xs.drop ((i + 1) * ls.length)) (ys.drop ((i + 1) * ls.length))) := by
      rw [← eqVs_append (by rw [lx, ly]), show (i + 1) * ls.length = i * ls.length + ls.length by rw [Nat.add_mul, Nat.one_mul]]
      simp only [← List.drop_drop, List.take_append_drop]
    rw [hfinal]
    simp only [List.range'_succ, List.forIn_cons, Sem.run_bind, p1, p2, e1, Result.andThen]
    cases eqVs ((xs.drop (i * ls.length)).take ls.length) ((ys.drop (i * ls.length)).take ls.length)
    · simp
    · simpa [Result.andThen] using r

theorem equalIn_flat (D : Nat) : ∀ (d : Nat) {T : TypeId} {ls : List Lf} {xs ys : List Value}, flatT P d T = some ls → okCs ls xs → okCs ls ys → ∀ w, (Op.equalIn (D + d) T (asV P T xs) (asV P T ys)).run P w = .ok (eqVs xs ys) w
  | 0, _, _, _, _, h, _, _, _ => by cases h
  | d + 1, T, ls, xs, ys, h, hx, hy, w => by
    have ih := @equalIn_flat D d
    simp only [flatT] at h
    cases hu : P.underlying T with
    | none => simp [hu] at h
    | some u =>
      rw [hu] at h
      cases u with
      | int k =>
        simp only [Option.some.injEq] at h; subst h
        obtain ⟨x, _, rfl, ⟨n, rfl⟩, rfl⟩ := hx
        obtain ⟨y, _, rfl, ⟨m, rfl⟩, rfl⟩ := hy
        rw [asV_one hu rfl, asV_one hu rfl]
        show (Op.equalIn (D + d + 1) T _ _).run P w = _
        simp [Op.equalIn, run_underlying' hu, eqVs, eqV]
      | bool =>
        simp only [Option.some.injEq] at h; subst h
        obtain ⟨x, _, rfl, ⟨n, rfl⟩, rfl⟩ := hx
        obtain ⟨y, _, rfl, ⟨m, rfl⟩, rfl⟩ := hy
        rw [asV_one hu rfl, asV_one hu rfl]
        show (Op.equalIn (D + d + 1) T _ _).run P w = _
        simp [Op.equalIn, run_underlying' hu, eqVs, eqV]
      | string =>
        simp only [Option.some.injEq] at h; subst h
        obtain ⟨x, _, rfl, ⟨n, rfl⟩, rfl⟩ := hx
        obtain ⟨y, _, rfl, ⟨m, rfl⟩, rfl⟩ := hy
        rw [asV_one hu rfl, asV_one hu rfl]
        show (Op.equalIn (D + d + 1) T _ _).run P w = _
        simp [Op.equalIn, run_underlying' hu, eqVs, eqV, beq_toListBytes]
      | struct fs =>
        simp only at h
        split at h
        · cases h
        · rename_i hp
          rw [asV_agg hu rfl, asV_agg hu rfl]
          have hfo : P.fieldsOf T = fs := by simp [Program.fieldsOf, hu]
          show (Op.equalIn (D + d + 1) T _ _).run P w = _
          rw [run_equalIn_struct w (D + d) T xs.toArray ys.toArray (by rw [hfo]; exact hu) (by simpa using hp), hfo]
          have := eqFields_flat (D := D) ih (xs := xs) (ys := ys) h (by simpa using hx) (by simpa using hy) w
          simpa using this
      | array n e =>
        simp only at h
        split at h
        · rename_i ms hm
          split at h
          · rename_i hc
            simp only [Option.some.injEq] at h; subst h
            obtain ⟨u, hu2, hun⟩ := flat_agg hm
            rw [asV_agg hu rfl, asV_agg hu rfl]
            show (Op.equalIn (D + d + 1) T _ _).run P w = _
            have := eqArr_flat (D := D) ih hu2 hun hm hc (xs := xs) (ys := ys) n 0 (by simpa using hx) (by simpa using hy) w
            rw [Nat.zero_mul, List.drop_zero, List.drop_zero] at this
            rw [← this]
            simp only [Op.equalIn, Sem.run_bind, run_underlying' hu, run_sizeOf' hu2, Result.andThen, hc, Std.Legacy.Range.forIn_eq_forIn_range', Std.Legacy.Range.size]
            simp
            congr 1
            funext a w
            obtain ⟨o, _⟩ := a
            cases o <;> rfl
          · cases h
        · cases h
      | _ => cases h

theorem AggEq.flat {T : TypeId} {d : TypeDesc} {ls : List Lf} {xs ys : List Value} (hT : P.underlying T = some d) (ha : aggT d = true) (hf : flatT P 8 T = some ls) (hg : P.eqGuardType P.depth T = false)
    (hx : okCs ls xs) (hy : okCs ls ys) : AggEq P T xs.toArray ys.toArray (eqVs xs ys) := by
  refine ⟨hg, fun w => ?_⟩
  have := equalIn_flat (P := P) 9992 8 hf hx hy w
  rwa [asV_agg hT ha, asV_agg hT ha] at this

end
end Gx
