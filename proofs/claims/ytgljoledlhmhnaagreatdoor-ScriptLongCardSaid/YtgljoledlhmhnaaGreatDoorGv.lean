/- What a row's listed variables hold; arguments of flat types. -/
import Derived.Test.YtgljoledlhmhnaaGreatDoorGt
import Derived.LaidLaws
import Derived.ChangeVars
import Derived.MakeChecks
import Derived.ChangeArms
namespace Gx
open Go Go.RowKit

/-! ### Listed variables -/
theorem laid_at {P : Program} {w : World} : ∀ {l : List (String × DataW Unit)} {ps : List MemPlace}, DataW.LaidVars P w l ps → ∀ {i : Nat} {n : String} {d : DataW Unit}, l[i]? = some (n, d) →
    ∃ g t cs fuel p, P.globalNamed n = some g ∧ (P.globals[g]?).map (·.type) = some t ∧ w.var? P n = some cs ∧ DataW.trod (fun _ => ()) P w 0 (fun _ => true) false fuel t cs.toList = some (d, p)
  | [], _, _, i, n, d, h => by simp at h
  | (n0, d0) :: r, ps, hl, i, n, d, h => by
    obtain ⟨g, t, cs, fuel, p, q, h1, h2, h3, h4, h5, _⟩ := hl
    cases i with
    | zero =>
      simp at h
      obtain ⟨rfl, rfl⟩ := h
      exact ⟨g, t, cs, fuel, p, h1, h2, h3, h4⟩
    | succ i => exact laid_at h5 (by simpa using h)

theorem mapM_get {α β : Type} {f : α → Option β} : ∀ {l : List α} {r : List β}, l.mapM f = some r → ∀ {i : Nat} {x : α}, l[i]? = some x → ∃ y, r[i]? = some y ∧ f x = some y
  | [], _, _, i, x, hx => by simp at hx
  | a :: l, r, h, i, x, hx => by
    simp only [List.mapM_cons] at h
    cases ha : f a with
    | none => simp [ha] at h
    | some b =>
      cases hl : l.mapM f with
      | none => simp [ha, hl] at h
      | some bs =>
        simp [ha, hl] at h
        subst h
        cases i with
        | zero => simp at hx; subst hx; exact ⟨b, rfl, ha⟩
        | succ i => exact mapM_get hl (by simpa using hx)

theorem laid_ints {P : Program} {w : World} {l : List (String × DataW Unit)} (h : laidMet P l w) {i : Nat} {n : String} {d : DataW Unit} (hm : l[i]? = some (n, d)) {g : Nat} {t e : TypeId} {N : Nat} {k : IntKind} {zs : List Int}
    (hg : P.globalNamed n = some g) (ht : (P.globals[g]?).map (·.type) = some t) (hu : P.underlying t = some (.array N e)) (he : P.underlying e = some (.int k)) (hc : P.cellsOf e = 1) (hd : d = .agg (zs.map fun z => .lit (.int k z))) :
    ∀ j, j < N → w.cell? ⟨g, j, none⟩ = some (.int k (zs.getD j 0)) := by
  intro j hj
  obtain ⟨ps, hl, _⟩ := h
  obtain ⟨g', t', cs, fuel, p, h1, h2, h3, h4⟩ := laid_at hl hm
  obtain rfl := Option.some.inj (hg.symm.trans h1)
  obtain rfl := Option.some.inj (ht.symm.trans h2)
  cases fuel with
  | zero => cases h4
  | succ f =>
    simp only [DataW.trod, hu] at h4
    split at h4
    · rename_i hlen
      cases hmm : (List.range N).mapM fun i => DataW.trod (fun _ => ()) P w 0 (fun _ => true) false f e ((cs.toList.drop (i * P.cellsOf e)).take (P.cellsOf e)) with
      | none => rw [hmm] at h4; simp at h4
      | some xs =>
        rw [hmm] at h4
        simp only [Option.map_some, Option.some.injEq, Prod.mk.injEq, hd, DataW.agg.injEq] at h4
        obtain ⟨y, hy1, hy2⟩ := mapM_get hmm (i := j) (x := j) (by simp [hj])
        rw [hc, Nat.mul_one] at hy2
        cases f with
        | zero => cases hy2
        | succ f =>
          have hx : (xs.map (·.1))[j]? = some y.1 := by rw [List.getElem?_map, hy1]; rfl
          rw [h4.1, List.getElem?_map] at hx
          cases hz : zs[j]? with
          | none => rw [hz] at hx; cases hx
          | some z =>
            rw [hz] at hx
            simp only [Option.map_some, Option.some.injEq] at hx
            obtain ⟨z', e1, e2, _⟩ := DataW.trod_int he hy2
            rw [e2] at hx
            simp only [DataW.lit.injEq, Lit.int.injEq, true_and] at hx
            have h0 : ((cs.toList.drop j).take 1)[0]? = some (.int k z') := by rw [e1]; rfl
            have h5 : cs[j]? = some (.int k z') := by simpa using h0
            rw [World.var?_cell h1 h3 j, h5, List.getD, hz, ← hx]
            rfl
    · cases h4

theorem laid_iface {P : Program} {w : World} {l : List (String × DataW Unit)} (h : laidMet P l w) {i : Nat} {n : String} {d : DataW Unit} (hm : l[i]? = some (n, d)) {g : Nat} {t : TypeId} {ms : Array (String × TypeId)}
    (hg : P.globalNamed n = some g) (ht : (P.globals[g]?).map (·.type) = some t) (hu : P.underlying t = some (.interface ms)) :
    ∃ v, w.cell? ⟨g, 0, none⟩ = some v ∧ (v = .nilIface ∨ ∃ t x, v = .iface t x) := by
  obtain ⟨ps, hl, _⟩ := h
  obtain ⟨g', t', cs, fuel, p, h1, h2, h3, h4⟩ := laid_at hl hm
  obtain rfl := Option.some.inj (hg.symm.trans h1)
  obtain rfl := Option.some.inj (ht.symm.trans h2)
  cases fuel with
  | zero => cases h4
  | succ f =>
    have hcs : cs.toList = [.nilIface] ∨ ∃ u v, cs.toList = [.iface u v] := by
      generalize cs.toList = L at h4
      match L, h4 with
      | [], h4 => simp [DataW.trod, hu] at h4
      | _ :: _ :: _, h4 => simp [DataW.trod, hu] at h4
      | [v], h4 =>
        cases v <;> first
          | exact .inl rfl
          | exact .inr ⟨_, _, rfl⟩
          | (simp [DataW.trod, hu] at h4; done)
    have hc := World.var?_cell h1 h3 0
    rcases hcs with e | ⟨u, v, e⟩
    · refine ⟨.nilIface, ?_, .inl rfl⟩
      rw [hc, ← Array.getElem?_toList, e]; rfl
    · refine ⟨.iface u v, ?_, .inr ⟨u, v, rfl⟩⟩
      rw [hc, ← Array.getElem?_toList, e]; rfl

/-! ### Arguments of flat types -/
/-- A cell of a kind, in its range. -/
def okR : Lf → Value → Prop
  | .int k, v => ∃ n : Int, v = .int k n ∧ k.min ≤ n ∧ n ≤ k.max
  | .bool, v => ∃ b : Bool, v = .bool b
  | .str, v => ∃ s : ByteArray, v = .string s ∧ s.size ≤ maxLen
  | _, _ => False
def okRs : List Lf → List Value → Prop
  | [], vs => vs = []
  | l :: ls, vs => ∃ v us, vs = v :: us ∧ okR l v ∧ okRs ls us
theorem okRs_length : ∀ {ls : List Lf} {vs : List Value}, okRs ls vs → vs.length = ls.length
  | [], _, h => by cases h; rfl
  | _ :: _, _, h => by
    obtain ⟨v, us, rfl, _, h⟩ := h
    simp [okRs_length h]
theorem okRs_mk : ∀ {ls ms : List Lf} {vs us : List Value}, okRs ls vs → okRs ms us → okRs (ls ++ ms) (vs ++ us)
  | [], _, _, _, h, h2 => by cases h; exact h2
  | l :: ls, ms, vs, us, h, h2 => by
    obtain ⟨v, vs, rfl, h1, h⟩ := h
    exact ⟨v, _, rfl, h1, okRs_mk h h2⟩
theorem okRs_app : ∀ {ls ms : List Lf} {vs : List Value}, okRs (ls ++ ms) vs → ∃ us ts, vs = us ++ ts ∧ okRs ls us ∧ okRs ms ts
  | [], _, vs, h => ⟨[], vs, rfl, rfl, h⟩
  | l :: ls, ms, vs, h => by
    obtain ⟨v, us, rfl, h1, h2⟩ := h
    obtain ⟨a, b, rfl, h3, h4⟩ := okRs_app h2
    exact ⟨v :: a, b, rfl, ⟨v, a, rfl, h1, h3⟩, h4⟩

theorem okRs_flatF {P : Program} {fT : TypeId → Option (List Lf)} {cs : List Value} {R : TypeId → List Value → Prop} (ih : ∀ {T : TypeId} {ls : List Lf} {us : List Value}, fT T = some ls → R T us → okRs ls us) :
    ∀ {fs : List Field} {o : Nat} {ls : List Lf}, flatF fT P fs o = some ls → o + ls.length = cs.length → (∀ f ∈ fs, R f.type ((cs.drop f.offset).take (P.cellsOf f.type))) → okRs ls (cs.drop o)
  | [], o, ls, h, hl, _ => by
    simp only [flatF, Option.some.injEq] at h
    subst h
    exact List.drop_of_length_le (by simp at hl; omega)
  | f :: fs, o, ls, h, hl, hr => by
    simp only [flatF] at h
    split at h
    · cases h
    · rename_i hf
      have hf2 : f.offset = o := by
        by_cases e : f.offset = o
        · exact e
        · exact absurd (.inr e) hf
      subst hf2
      split at h
      · rename_i ms hm
        split at h
        · rename_i hc
          cases hr2 : flatF fT P fs (f.offset + ms.length) with
          | none => simp [hr2] at h
          | some rs =>
            simp only [hr2, Option.map_some, Option.some.injEq] at h
            subst h
            have h1 := ih hm (hr f (by simp))
            have h2 := okRs_flatF ih (fs := fs) (cs := cs) hr2 (by simp at hl; omega) (fun g hg => hr g (by simp [hg]))
            rw [hc] at h1
            have := okRs_mk h1 h2
            rwa [← List.drop_drop, List.take_append_drop] at this
        · cases h
      · cases h

theorem okRs_reps {ls : List Lf} {cs : List Value} : ∀ {n i : Nat}, (∀ j, i ≤ j → j < i + n → okRs ls ((cs.drop (j * ls.length)).take ls.length)) → cs.length = (i + n) * ls.length → okRs (reps ls n) (cs.drop (i * ls.length))
  | 0, i, _, hl => List.drop_of_length_le (by simp at hl; omega)
  | n + 1, i, h, hl => by
    have h1 := h i (Nat.le_refl _) (by omega)
    have h2 := okRs_reps (n := n) (i := i + 1) (fun j h1 h2 => h j (by omega) (by omega)) (by rw [hl]; congr 1; omega)
    have := okRs_mk h1 h2
    rw [show (i + 1) * ls.length = i * ls.length + ls.length by rw [Nat.add_mul, Nat.one_mul], ← List.drop_drop, List.take_append_drop] at this
    exact this

theorem okT_flat {P : Program} {w : World} : ∀ (d : Nat) {T : TypeId} {ls : List Lf} {fuel : Nat} {cs : List Value}, flatT P d T = some ls → P.cellsOf T = ls.length → okT P w fuel T cs → okRs ls cs
  | 0, _, _, _, _, h, _, _ => by cases h
  | d + 1, T, ls, fuel, cs, h, hn, ho => by
    cases fuel with
    | zero => cases ho
    | succ f =>
      simp only [flatT] at h
      cases hu : P.underlying T with
      | none => simp [hu] at h
      | some u =>
        rw [hu] at h
        cases u with
        | int k =>
          simp only [Option.some.injEq] at h; subst h
          simp only [okT, hu] at ho
          obtain ⟨n, rfl, h1, h2⟩ := ho
          exact ⟨_, _, rfl, ⟨n, rfl, h1, h2⟩, rfl⟩
        | bool =>
          simp only [Option.some.injEq] at h; subst h
          simp only [okT, hu] at ho
          obtain ⟨b, rfl⟩ := ho
          exact ⟨_, _, rfl, ⟨b, rfl⟩, rfl⟩
        | string =>
          simp only [Option.some.injEq] at h; subst h
          simp only [okT, hu] at ho
          obtain ⟨s, rfl, h1⟩ := ho
          exact ⟨_, _, rfl, ⟨s, rfl, h1⟩, rfl⟩
        | struct fs =>
          simp only at h
          split at h
          · cases h
          · simp only [okT, hu] at ho
            have := okRs_flatF (P := P) (cs := cs) (fT := fun T => if (flatT P d T).isSome ∧ ∀ ms, flatT P d T = some ms → P.cellsOf T = ms.length then flatT P d T else none) (R := fun T us => okT P w f T us) (fun {T} {ls} {us} h1 h2 => by
              split at h1
              · rename_i hh; exact okT_flat d h1 (hh.2 _ h1) h2
              · cases h1) (fs := fs.toList) (o := 0) (ls := ls) (by
                have key : ∀ (fs : List Field) (o : Nat) (ls : List Lf), flatF (flatT P d) P fs o = some ls → flatF (fun T => if (flatT P d T).isSome ∧ ∀ ms, flatT P d T = some ms → P.cellsOf T = ms.length then flatT P d T else none) P fs o = some ls := by
                  intro fs
                  induction fs with
                  | nil => intro o ls h; exact h
                  | cons g fs ih =>
                    intro o ls h
                    simp only [flatF] at h ⊢
                    split at h
                    · cases h
                    · rename_i hg
                      rw [if_neg hg]
                      split at h
                      · rename_i ms hm
                        split at h
                        · rename_i hc
                          have hcond : (flatT P d g.type).isSome ∧ ∀ ms, flatT P d g.type = some ms → P.cellsOf g.type = ms.length := by
                            refine ⟨by simp [hm], fun ms' h' => ?_⟩
                            rw [hm] at h'; cases h'; exact hc
                          rw [if_pos hcond, hm]
                          simp only
                          rw [if_pos hc]
                          cases hr : flatF (flatT P d) P fs (o + ms.length) with
                          | none => rw [hr] at h; cases h
                          | some rs => rw [hr] at h; rw [ih _ _ hr]; exact h
                        · cases h
                      · cases h
                exact key _ _ _ h) (by rw [ho.1, hn]; simp) (fun g hg => ho.2 g (by simpa using hg))
            simpa using this
        | array n e =>
          simp only at h
          split at h
          · rename_i ms hm
            split at h
            · rename_i hc
              simp only [Option.some.injEq] at h; subst h
              simp only [okT, hu] at ho
              have := okRs_reps (ls := ms) (cs := cs) (n := n) (i := 0) (fun j _ hj => by
                have := ho.2 j (by omega)
                rw [hc] at this
                exact okT_flat d hm hc this) (by rw [ho.1, hn, reps_length]; simp)
              simpa using this
            · cases h
          · cases h
        | _ => cases h

theorem okV_flat {P : Program} {w : World} {T : TypeId} {d : TypeDesc} {ls : List Lf} {v : Value} (h : OkV P w T v) (hT : P.underlying T = some d) (ha : aggT d = true) (hf : flatT P 8 T = some ls) (hn : P.cellsOf T = ls.length) :
    ∃ cs : List Value, v = .agg cs.toArray ∧ okRs ls cs := by
  unfold OkV at h
  rw [hT] at h
  cases d <;> simp only [aggT, Bool.false_eq_true] at ha <;> simp only at h
  · obtain ⟨cs, rfl, fuel, h⟩ := h
    exact ⟨cs.toList, by simp, okT_flat 8 hf hn h⟩
  · obtain ⟨cs, rfl, fuel, h⟩ := h
    exact ⟨cs.toList, by simp, okT_flat 8 hf hn h⟩

theorem okRs_bytes : ∀ {n : Nat} {cs : List Value}, okRs (List.replicate n (.int .u8)) cs → ∃ l : List UInt8, l.length = n ∧ cs = l.map fun b => Value.int .u8 ((b.toNat : Nat) : Int)
  | 0, cs, h => ⟨[], rfl, h⟩
  | n + 1, cs, h => by
    obtain ⟨v, us, rfl, ⟨z, rfl, h0, h1⟩, h2⟩ := h
    obtain ⟨l, hl, rfl⟩ := okRs_bytes h2
    obtain ⟨h0, h1⟩ := u8_range h0 h1
    refine ⟨UInt8.ofNat z.toNat :: l, by simp [hl], ?_⟩
    simp only [List.map_cons, List.cons.injEq, Value.int.injEq, true_and, and_true]
    have e : (UInt8.ofNat z.toNat).toNat = z.toNat := by simp; omega
    omega

end Gx
