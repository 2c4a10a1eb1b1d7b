/- append, and slices that the call owns. -/
import Derived.Test.YtgljoledlhmhnaaGreatDoorGp
namespace Gx
open Go Go.RowKit

/-- What an append takes: a slice that can be read, as cells. -/
structure Src (sz : Nat) (w : World) (x : Sl) (xs : List Value) : Prop where
  len : xs.length = x.len * sz
  nil : x.a = none → xs = []
  rd : ∀ a, x.a = some a → rdCells w a 0 (x.len * sz) = some xs

/-- A slice that the call owns, with its cells. -/
def OwnS (sz : Nat) (T : TypeId) (w : World) (s : Sl) (vs : List Value) : Prop :=
  vs.length = s.len * sz ∧ s.len ≤ s.cap ∧ s.cap ≤ maxLen ∧
  ((s.a = none ∧ s.cap = 0) ∨ ∃ b c, s.a = some ⟨b, 0, none⟩ ∧ Blk w b c T ∧ c.size = s.cap * sz ∧ c.toList.take (s.len * sz) = vs)

/-- The block of a slice. -/
def ownB (s : Sl) (k : Nat) : Prop := ∃ A, s.a = some A ∧ A.block = k

theorem rdCells_length {w : World} {A : Addr} : ∀ {n i : Nat} {vs : List Value}, rdCells w A i n = some vs → vs.length = n
  | 0, _, _, h => by simp [rdCells] at h; simp [← h]
  | n + 1, i, vs, h => by
    simp only [rdCells] at h
    cases h1 : w.cell? (A.add i) with
    | none => simp [h1] at h
    | some v =>
      cases h2 : rdCells w A (i + 1) n with
      | none => simp [h1, h2] at h
      | some us =>
        simp only [h1, h2, Option.some.injEq] at h
        subst h
        simp [rdCells_length h2]

theorem rdCells_blk {w : World} {b : Nat} {c : Array Value} {T : TypeId} (h : Blk w b c T) : ∀ (n o i : Nat), o + i + n ≤ c.size → rdCells w ⟨b, o, none⟩ i n = some ((c.toList.drop (o + i)).take n)
  | 0, o, i, _ => by simp [rdCells]
  | n + 1, o, i, hn => by
    have h1 : o + i < c.size := by omega
    have ih := rdCells_blk h n o (i + 1) (by omega)
    simp only [rdCells, add_mk, h.cell, ih]
    have h2 : c[o + i]? = some c[o + i] := by simp [h1]
    rw [h2]
    simp only [Option.some.injEq]
    have h3 : c.toList.drop (o + i) = c[o + i] :: c.toList.drop (o + i + 1) := by
      rw [List.drop_eq_getElem_cons (by simpa using h1)]
      simp
    rw [h3]
    simp [Nat.add_assoc]

theorem OwnS.src {sz : Nat} {T : TypeId} {w : World} {s : Sl} {vs : List Value} (h : OwnS sz T w s vs) : Src sz w s vs := by
  obtain ⟨h1, h2, h3, h4⟩ := h
  refine ⟨h1, fun hn => ?_, fun a ha => ?_⟩
  · rcases h4 with ⟨_, hc⟩ | ⟨b, c, hb, _⟩
    · have : s.len = 0 := by omega
      rw [this, Nat.zero_mul] at h1
      exact List.length_eq_zero_iff.1 h1
    · rw [hn] at hb; cases hb
  · rcases h4 with ⟨hn, _⟩ | ⟨b, c, hb, hblk, hs, hv⟩
    · rw [hn] at ha; cases ha
    · rw [hb] at ha
      cases ha
      have := rdCells_blk hblk (s.len * sz) 0 0 (by rw [hs]; simp; exact Nat.mul_le_mul_right _ h2)
      rw [this]
      simp [hv]

section
variable {P : Program} {w : World}

theorem run_firstCells {sz : Nat} {x : Sl} {xs : List Value} (h : Src sz w x xs) : (Builtin.firstCells sz x.len (.slice x.a x.len x.cap)).run P w = .ok xs.toArray w := by
  cases hx : x.a with
  | none => rw [h.nil hx]; rfl
  | some a =>
    simp only [Builtin.firstCells, loadCells]
    rw [run_loadCellsFrom _ _ _ _ (h.rd a hx)]
    simp

theorem growBy_le (need : Nat) : ∀ (r c : Nat), c ≤ 2 * need + 1000 → Builtin.growBy need r c ≤ 2 * need + 1000
  | 0, c, h => h
  | r + 1, c, h => by
    simp only [Builtin.growBy]
    split
    · exact h
    · exact growBy_le need r _ (by omega)

theorem nextcap_le {need cap : Nat} (h : cap < need) : Builtin.nextslicecap need cap ≤ 2 * need + 1000 := by
  unfold Builtin.nextslicecap
  split
  · omega
  · split
    · omega
    · exact growBy_le need 4 cap (by omega)

theorem run_append_fit {ats : Array TypeId} {oT sT xT e : TypeId} {d : TypeDesc} {sz : Nat} {s x : Sl} {xs : List Value} (h0 : ats[0]? = some sT) (h1 : ats[1]? = some xT)
    (hs : P.underlying sT = some (.slice e)) (hx : P.underlying xT = some (.slice e)) (he : P.underlying e = some d) (hsz : P.cellsOf e = sz) (hsrc : Src sz w x xs)
    (hfit : s.len + x.len ≤ s.cap) (hst : ∀ a, s.a = some a → StoreOk w (a.add (s.len * sz)) xs) :
    Sem.run P (Builtin.append_ ats oT #[.slice s.a s.len s.cap, .slice x.a x.len x.cap]) w =
      .ok (.slice s.a (s.len + x.len) s.cap) (match s.a with | some a => setCells w (a.add (s.len * sz)) 0 xs | none => w) := by
  have hf := run_firstCells (P := P) hsrc
  have hsz' := run_sizeOf' (w := w) he
  rw [hsz] at hsz'
  cases hsa : s.a with
  | none =>
    simp [Builtin.append_, h0, h1, run_underlying' hs, run_underlying' hx, hsz', Builtin.lenOf, hfit, hf]
  | some a =>
    have hst' := hst a hsa
    have := run_storeCells (P := P) (A := a.add (s.len * sz)) xs 0 w (by simpa using hst'.1) hst'.2
    simp [Builtin.append_, h0, h1, run_underlying' hs, run_underlying' hx, hsz', Builtin.lenOf, hfit, hf, this]

theorem run_append_grow {ats : Array TypeId} {oT sT xT e : TypeId} {i : TypeInfo} {z : Value} {sz : Nat} {s x : Sl} {xs old : List Value} (h0 : ats[0]? = some sT) (h1 : ats[1]? = some xT)
    (hs : P.underlying sT = some (.slice e)) (hx : P.underlying xT = some (.slice e)) (hi : P.info? e = some i) (hd : (P.underlying e).isSome = true) (hz : i.zero = some z) (hzs : z.cells.size = sz) (hsz : P.cellsOf e = sz)
    (hb : i.bytes ≠ 0) (hsrc : Src sz w x xs) (hold : Src sz w s old) (hfit : s.cap < s.len + x.len) (hsmall : (2 * (s.len + x.len) + 1000) * i.bytes ≤ 281474976710656) :
    ∃ (nc : Nat) (rest : List Value), s.len + x.len ≤ nc ∧ nc ≤ maxLen ∧ rest.length = (nc - (s.len + x.len)) * sz ∧
      Sem.run P (Builtin.append_ ats oT #[.slice s.a s.len s.cap, .slice x.a x.len x.cap]) w =
        .ok (.slice (some ⟨w.heap.size, 0, none⟩) (s.len + x.len) nc) (w.drew.alloc (.cells (old ++ xs ++ rest).toArray e)) := by
  obtain ⟨d, hd⟩ := cells_of _ hd
  have hsz' := run_sizeOf' (w := w) hd
  rw [hsz] at hsz'
  have hcap := nextcap_le hfit
  have hn : Builtin.nextslicecap (s.len + x.len) s.cap * i.bytes ≤ 281474976710656 := Nat.le_trans (Nat.mul_le_mul_right _ hcap) hsmall
  have hneed : s.len + x.len ≤ 281474976710656 := by
    have : s.len + x.len ≤ (2 * (s.len + x.len) + 1000) * i.bytes := by
      have := Nat.mul_le_mul_left (2 * (s.len + x.len) + 1000) (Nat.one_le_iff_ne_zero.2 hb)
      omega
    omega
  let q : Question := .appendCap (s.len + x.len) s.cap e
  let nc : Nat := q.cut (w.tape w.drawn q)
  have hq : q.forced = false := rfl
  have hnc : s.len + x.len ≤ nc := by show s.len + x.len ≤ s.len + x.len + _; omega
  have hnc2 : nc ≤ maxLen := by
    show s.len + x.len + _ % (2 ^ 63 - (s.len + x.len)) ≤ 2 ^ 63 - 1
    have := Nat.mod_lt (w.tape w.drawn q) (y := 2 ^ 63 - (s.len + x.len)) (by omega)
    omega
  have hsrcd : Src sz w.drew x xs := ⟨hsrc.len, hsrc.nil, fun a ha => by
    have := hsrc.rd a ha
    have hc : Chg (fun _ => False) w w.drew := Chg.drew (.refl _ _)
    exact hc.rdCells (by simp) _ _ _ this⟩
  have holdd : Src sz w.drew s old := ⟨hold.len, hold.nil, fun a ha => by
    have := hold.rd a ha
    have hc : Chg (fun _ => False) w w.drew := Chg.drew (.refl _ _)
    exact hc.rdCells (by simp) _ _ _ this⟩
  have hf := run_firstCells (P := P) hsrcd
  have hf2 := run_firstCells (P := P) holdd
  have hask : ∀ n (w' : World), (askRoom n).run P w' = .ok () w' := fun n w' => by unfold askRoom; split <;> rfl
  have hchoose : (choose q).run P w = .ok nc w.drew := by
    show Sem.run P (.choose q .pure) w = _
    simp only [Sem.run, hq, Bool.false_eq_true, if_false]
    rfl
  have hti := fun w : World => run_typeInfo' (w := w) hi
  refine ⟨nc, (Builtin.zeroCells z.cells (nc - (s.len + x.len))).toList, hnc, hnc2, by simp [Builtin.zeroCells, hzs], ?_⟩
  have e1 : ¬ (s.len + x.len ≤ s.cap) := by omega
  have e2 : ¬ ((s.len + x.len : Nat) : Int) > IntKind.i64.max := by
    simp [IntKind.max, IntKind.signed, IntKind.bits]; omega
  have e3 : ¬ (281474976710656 < Builtin.nextslicecap (s.len + x.len) s.cap * i.bytes) := by omega
  have e4 : ¬ Builtin.nextslicecap (s.len + x.len) s.cap * i.bytes > 2 ^ 48 := by simpa using e3
  unfold Builtin.append_
  simp only [List.getElem?_toArray, List.getElem?_cons_zero, List.getElem?_cons_succ, h0, h1, Sem.run_bind, run_underlying' hs, run_underlying' hx, Result.andThen, hsz', Builtin.lenOf, Sem.run_pure, e1, if_false, Bool.false_eq_true, hti, e2, false_and, e4, Bool.not_false, if_true]
  have hchoose' : Sem.run P (choose (.appendCap (s.len + x.len) s.cap e)) w = .ok nc w.drew := hchoose
  simp only [hchoose', hask, hf, hf2, zeroValue, hti, hz, Sem.run_bind, Result.andThen, Sem.run_pure, newRow, newObj, Sem.run]
  have hds : w.drew.heap.size = w.heap.size := rfl
  rw [hds]
  congr 1
  show w.drew.alloc _ = w.drew.alloc _
  congr 2
  simp

/-- What is laid behind a row's head. -/
theorem take_spl : ∀ (vs : List Value) (c : Array Value) (i : Nat), i + vs.length ≤ c.size → (spl c i vs).toList.take (i + vs.length) = c.toList.take i ++ vs
  | [], c, i, _ => by simp [spl]
  | v :: vs, c, i, h => by
    simp only [List.length_cons] at h
    simp only [spl]
    have := take_spl vs (c.setIfInBounds i v) (i + 1) (by simpa using (by omega : i + 1 + vs.length ≤ c.size))
    rw [show i + (v :: vs).length = i + 1 + vs.length by simp; omega, this]
    have hi : i < c.size := by omega
    have h2 : (c.setIfInBounds i v).toList.take (i + 1) = c.toList.take i ++ [v] := by
      rw [List.take_succ_eq_append_getElem (by simpa using hi)]
      have h3 : (List.take i c.toList).set i v = List.take i c.toList := by
        apply List.set_eq_of_length_le
        simp only [List.length_take]
        omega
      simp [List.take_set, h3]
    rw [h2]
    simp

theorem append_own {ats : Array TypeId} {oT sT xT e : TypeId} {i : TypeInfo} {z : Value} {sz : Nat} {s x : Sl} {xs vs : List Value} (h0 : ats[0]? = some sT) (h1 : ats[1]? = some xT)
    (hs : P.underlying sT = some (.slice e)) (hx : P.underlying xT = some (.slice e)) (hi : P.info? e = some i) (hd : (P.underlying e).isSome = true) (hz : i.zero = some z) (hzs : z.cells.size = sz) (hsz : P.cellsOf e = sz)
    (hb : i.bytes ≠ 0) (hsrc : Src sz w x xs) (hown : OwnS sz e w s vs) (hp : ∀ v ∈ xs, Plain v) (hsmall : (2 * (s.len + x.len) + 1000) * i.bytes ≤ 281474976710656) :
    ∃ (s' : Sl) (w' : World), Sem.run P (Builtin.append_ ats oT #[.slice s.a s.len s.cap, .slice x.a x.len x.cap]) w = .ok (.slice s'.a s'.len s'.cap) w' ∧
      OwnS sz e w' s' (vs ++ xs) ∧ s'.len = s.len + x.len ∧ Chg (ownB s) w w' ∧ (∀ k, ownB s' k → ownB s k ∨ w.heap.size ≤ k) := by
  have hold := hown.src
  obtain ⟨g1, g2, g3, g4⟩ := hown
  by_cases hfit : s.len + x.len ≤ s.cap
  · have hst : ∀ a, s.a = some a → StoreOk w (a.add (s.len * sz)) xs := by
      intro a ha
      rcases g4 with ⟨hn, _⟩ | ⟨b, c, hbb, hblk, hcs, hv⟩
      · rw [hn] at ha; cases ha
      · rw [hbb] at ha
        cases ha
        rw [add_mk]
        refine hblk.storeOk _ _ ?_ hp
        rw [hcs, hsrc.len, Nat.zero_add, ← Nat.add_mul]
        exact Nat.mul_le_mul_right _ hfit
    obtain ⟨d, hd⟩ := cells_of _ hd
    have hrun := run_append_fit (oT := oT) h0 h1 hs hx hd hsz hsrc hfit hst
    refine ⟨⟨s.a, s.len + x.len, s.cap⟩, _, hrun, ?_, rfl, ?_, fun k hk => .inl hk⟩
    · refine ⟨by simp [g1, hsrc.len, Nat.add_mul], hfit, g3, ?_⟩
      rcases g4 with ⟨hn, hc⟩ | ⟨b, c, hbb, hblk, hcs, hv⟩
      · exact .inl ⟨hn, hc⟩
      · refine .inr ⟨b, spl c (s.len * sz) xs, hbb, ?_, by rw [spl_size]; exact hcs, ?_⟩
        · simp only [hbb, add_mk]
          have := Blk.sets (T := e) xs (0 + s.len * sz) 0 hblk
          simpa using this
        · have hle : s.len * sz + xs.length ≤ c.size := by
            rw [hcs, hsrc.len, ← Nat.add_mul]
            exact Nat.mul_le_mul_right _ hfit
          have := take_spl xs c (s.len * sz) hle
          rw [hsrc.len, ← Nat.add_mul] at this
          rw [this, hv]
    · cases hsa : s.a with
      | none => exact .refl _ _
      | some a =>
        refine Chg.setCells (fun _ => ?_) xs 0 (.refl _ _)
        exact ⟨a, hsa, by unfold Addr.add; split <;> rfl⟩
  · obtain ⟨nc, rest, hn1, hn2, hr, hrun⟩ := run_append_grow (oT := oT) h0 h1 hs hx hi hd hz hzs hsz hb hsrc hold (by omega) hsmall
    refine ⟨⟨some ⟨w.heap.size, 0, none⟩, s.len + x.len, nc⟩, _, hrun, ?_, rfl, Chg.alloc (Chg.drew (.refl _ _)) _, ?_⟩
    · refine ⟨by simp [g1, hsrc.len, Nat.add_mul], hn1, hn2, .inr ⟨w.heap.size, (vs ++ xs ++ rest).toArray, rfl, Blk.new w.drew _ _, ?_, ?_⟩⟩
      · simp [g1, hsrc.len, hr]
        rw [← Nat.add_mul, ← Nat.add_mul]
        congr 1
        omega
      · have : (vs ++ xs).length = (s.len + x.len) * sz := by simp [g1, hsrc.len, Nat.add_mul]
        show List.take ((s.len + x.len) * sz) (vs ++ xs ++ rest).toArray.toList = vs ++ xs
        rw [← this]
        exact List.take_left
    · rintro k ⟨A, hA, hk⟩
      cases hA
      exact .inr (by simpa using hk ▸ Nat.le_refl _)

end

theorem OwnS.chg {sz : Nat} {T : TypeId} {w w' : World} {s : Sl} {vs : List Value} {W : Nat → Prop} (h : OwnS sz T w s vs) (hc : Chg W w w') (hn : ∀ k, ownB s k → ¬ W k) : OwnS sz T w' s vs := by
  obtain ⟨h1, h2, h3, h4⟩ := h
  refine ⟨h1, h2, h3, ?_⟩
  rcases h4 with h4 | ⟨b, c, hb, hblk, hcs, hv⟩
  · exact .inl h4
  · exact .inr ⟨b, c, hb, hblk.chg hc (hn b ⟨_, hb, rfl⟩), hcs, hv⟩

theorem Src.chg {sz : Nat} {w w' : World} {s : Sl} {vs : List Value} {W : Nat → Prop} (h : Src sz w s vs) (hc : Chg W w w') (hn : ∀ k, ownB s k → ¬ W k) : Src sz w' s vs :=
  ⟨h.len, h.nil, fun a ha => hc.rdCells (hn _ ⟨a, ha, rfl⟩) _ _ _ (h.rd a ha)⟩

theorem OwnS.lt {sz : Nat} {T : TypeId} {w : World} {s : Sl} {vs : List Value} (h : OwnS sz T w s vs) : ∀ k, ownB s k → k < w.heap.size := by
  rintro k ⟨A, hA, rfl⟩
  obtain ⟨_, _, _, h4⟩ := h
  rcases h4 with ⟨hn, _⟩ | ⟨b, c, hb, hblk, _⟩
  · rw [hn] at hA; cases hA
  · rw [hb] at hA; cases hA; exact hblk.lt

/-! ### Reading and writing one cell of a slice of one-cell elements -/
theorem OwnS.cell {T : TypeId} {w : World} {s : Sl} {vs : List Value} (h : OwnS 1 T w s vs) {i : Nat} {v : Value} (hv : vs[i]? = some v) :
    ∃ b c, s.a = some ⟨b, 0, none⟩ ∧ Blk w b c T ∧ c.size = s.cap ∧ i < s.len ∧ i < c.size ∧ w.cell? ⟨b, i, none⟩ = some v ∧ c.toList.take s.len = vs := by
  obtain ⟨h1, h2, h3, h4⟩ := h
  have hi : i < s.len := by
    have := (List.getElem?_eq_some_iff.1 hv).1
    omega
  rcases h4 with ⟨_, hc⟩ | ⟨b, c, hb, hblk, hcs, ht⟩
  · omega
  · rw [Nat.mul_one] at hcs ht
    refine ⟨b, c, hb, hblk, hcs, hi, by omega, ?_, ht⟩
    rw [hblk.cell]
    rw [← ht, List.getElem?_take] at hv
    rw [if_pos hi] at hv
    simpa using hv

theorem OwnS.set {T : TypeId} {w : World} {s : Sl} {vs : List Value} {b i : Nat} (h : OwnS 1 T w s vs) (hb : s.a = some ⟨b, 0, none⟩) (v : Value) :
    OwnS 1 T (w.setCell ⟨b, i, none⟩ v) s (vs.set i v) := by
  obtain ⟨h1, h2, h3, h4⟩ := h
  refine ⟨by simpa using h1, h2, h3, .inr ?_⟩
  rcases h4 with ⟨hn, _⟩ | ⟨b', c, hb', hblk, hcs, ht⟩
  · rw [hn] at hb; cases hb
  · rw [hb] at hb'
    cases hb'
    refine ⟨b, _, hb, hblk.set i v, by simpa using hcs, ?_⟩
    rw [← ht]
    simp [List.take_set]

/-! ### append at a type, by one check -/
def appTB (P : Program) (sT e : TypeId) (sz bytes : Nat) : Bool :=
  match P.underlying sT, P.info? e, P.underlying e with
  | some (.slice e'), some i, some _ => e' == e && (match i.zero with | some z => z.cells.size == sz | none => false) && P.cellsOf e == sz && i.bytes == bytes && bytes != 0
  | _, _, _ => false

structure AppT (P : Program) (sT e : TypeId) (sz bytes : Nat) : Prop where
  h : appTB P sT e sz bytes = true

theorem AppT.out {P : Program} {sT e : TypeId} {sz bytes : Nat} (h : AppT P sT e sz bytes) :
    P.underlying sT = some (.slice e) ∧ ∃ i z, P.info? e = some i ∧ (P.underlying e).isSome = true ∧ i.zero = some z ∧ z.cells.size = sz ∧ P.cellsOf e = sz ∧ i.bytes = bytes ∧ bytes ≠ 0 := by
  have h := h.h
  unfold appTB at h
  split at h
  · rename_i e' i d h1 h2 h3
    simp only [Bool.and_eq_true, beq_iff_eq, bne_iff_ne] at h
    obtain ⟨⟨⟨⟨rfl, h4⟩, h5⟩, h6⟩, h7⟩ := h
    split at h4
    · rename_i z hz
      exact ⟨h1, i, z, h2, by simp [h3], hz, by simpa using h4, h5, h6, h7⟩
    · cases h4
  · cases h

theorem AppT.append {P : Program} {w : World} {sT e oT : TypeId} {sz bytes : Nat} {s x : Sl} {xs vs : List Value} (h : AppT P sT e sz bytes)
    (hsrc : Src sz w x xs) (hown : OwnS sz e w s vs) (hp : ∀ v ∈ xs, Plain v) (hsmall : (2 * (s.len + x.len) + 1000) * bytes ≤ 281474976710656) :
    ∃ (s' : Sl) (w' : World), Sem.run P (Builtin.append_ #[sT, sT] oT #[.slice s.a s.len s.cap, .slice x.a x.len x.cap]) w = .ok (.slice s'.a s'.len s'.cap) w' ∧
      OwnS sz e w' s' (vs ++ xs) ∧ s'.len = s.len + x.len ∧ Chg (ownB s) w w' ∧ (∀ k, ownB s' k → ownB s k ∨ w.heap.size ≤ k) := by
  obtain ⟨h1, i, z, h2, h3, h4, h5, h6, rfl, h8⟩ := h.out
  exact append_own rfl rfl h1 h1 h2 h3 h4 h5 h6 h8 hsrc hown hp hsmall

theorem Src.new {sz : Nat} {T : TypeId} (w : World) (xs : List Value) (n : Nat) (hn : xs.length = n * sz) : Src sz (w.alloc (.cells xs.toArray T)) ⟨some ⟨w.heap.size, 0, none⟩, n, n⟩ xs := by
  refine ⟨hn, (fun h => by cases h), fun a ha => ?_⟩
  cases ha
  rw [rdCells_blk (Blk.new w xs.toArray T) _ _ _ (by simp [hn])]
  simp [← hn]

theorem OwnS.new {sz : Nat} {T : TypeId} (w : World) (xs : List Value) (n : Nat) (hn : xs.length = n * sz) (hm : n ≤ maxLen) : OwnS sz T (w.alloc (.cells xs.toArray T)) ⟨some ⟨w.heap.size, 0, none⟩, n, n⟩ xs := by
  refine ⟨hn, Nat.le_refl _, hm, .inr ⟨_, _, rfl, Blk.new w _ _, by simp [hn], ?_⟩⟩
  show List.take (n * sz) xs = xs
  rw [← hn, List.take_length]

theorem OwnS.none (sz : Nat) (T : TypeId) (w : World) : OwnS sz T w ⟨.none, 0, 0⟩ [] := ⟨by simp, Nat.le_refl _, by decide, .inl ⟨rfl, rfl⟩⟩

theorem ownB_none (k : Nat) : ¬ ownB ⟨.none, 0, 0⟩ k := by rintro ⟨A, hA, _⟩; cases hA
theorem ownB_some {A : Addr} {n m k : Nat} : ownB ⟨some A, n, m⟩ k ↔ A.block = k := ⟨fun ⟨B, hB, h⟩ => by cases hB; exact h, fun h => ⟨_, rfl, h⟩⟩

theorem Src.alloc {sz : Nat} {w : World} {s : Sl} {vs : List Value} (h : Src sz w s vs) (o : Obj) : Src sz (w.alloc o) s vs := h.chg (W := fun _ => False) (Chg.alloc (.refl _ _) o) (fun _ _ h => h)
theorem OwnS.ext {sz : Nat} {T : TypeId} {w w' : World} {s : Sl} {vs : List Value} (h : OwnS sz T w s vs) (hc : Ext w w') : OwnS sz T w' s vs := h.chg hc fun _ _ h => h
theorem Src.ext {sz : Nat} {w w' : World} {s : Sl} {vs : List Value} (h : Src sz w s vs) (hc : Ext w w') : Src sz w' s vs := h.chg hc fun _ _ h => h

/-- One element, laid into a row of its own, is appended. -/
theorem AppT.push {P : Program} {w : World} {sT e oT : TypeId} {sz bytes : Nat} {s : Sl} {vs xs : List Value} (h : AppT P sT e sz bytes) (hx : xs.length = sz)
    (hown : OwnS sz e w s vs) (hp : ∀ v ∈ xs, Plain v) (hsmall : (2 * (s.len + 1) + 1000) * bytes ≤ 281474976710656) :
    ∃ (s' : Sl) (w' : World), Sem.run P (Builtin.append_ #[sT, sT] oT #[.slice s.a s.len s.cap, .slice (some ⟨w.heap.size, 0, none⟩) 1 1]) (w.alloc (.cells xs.toArray e)) = .ok (.slice s'.a s'.len s'.cap) w' ∧
      OwnS sz e w' s' (vs ++ xs) ∧ s'.len = s.len + 1 ∧ Chg (ownB s) w w' ∧ (∀ k, ownB s' k → ownB s k ∨ w.heap.size ≤ k) := by
  have hc : Ext w (w.alloc (.cells xs.toArray e)) := Chg.alloc (.refl _ _) _
  obtain ⟨s', w', h1, h2, h3, h4, h5⟩ := h.append (oT := oT) (Src.new (T := e) w xs 1 (by simpa using hx)) (hown.ext hc) hp hsmall
  exact ⟨s', w', h1, h2, h3, (Chg.of_ext hc).trans h4, fun k hk => (h5 k hk).imp id (fun h => by simp at h; omega)⟩

/-- A copy: an append to an empty row. -/
theorem AppT.clone {P : Program} {w : World} {sT e oT : TypeId} {sz bytes : Nat} {x : Sl} {xs : List Value} (h : AppT P sT e sz bytes)
    (hsrc : Src sz w x xs) (hp : ∀ v ∈ xs, Plain v) (hsmall : (2 * x.len + 1000) * bytes ≤ 281474976710656) :
    ∃ (s' : Sl) (w' : World), Sem.run P (Builtin.append_ #[sT, sT] oT #[.slice (some ⟨w.heap.size, 0, none⟩) 0 0, .slice x.a x.len x.cap]) (w.alloc (.cells #[] e)) = .ok (.slice s'.a s'.len s'.cap) w' ∧
      OwnS sz e w' s' xs ∧ s'.len = x.len ∧ Ext w w' ∧ (∀ k, ownB s' k → w.heap.size ≤ k) ∧ s'.a.isSome = true := by
  have hown := OwnS.new (sz := sz) (T := e) w [] 0 (by simp) (by decide)
  have hsrc' := hsrc.alloc (.cells #[] e)
  obtain ⟨s', w', h1, h2, h3, h4, h5⟩ := h.append (oT := oT) hsrc' hown hp (by simpa using hsmall)
  refine ⟨s', w', h1, by simpa using h2, by simpa using h3, ?_, fun k hk => ?_, ?_⟩
  · refine ⟨h4.os.trans rfl, h4.tape.trans rfl, h4.output.trans rfl, ?_, fun k hk _ => ?_⟩
    · have := h4.size; simp at this; omega
    · rw [h4.block k (by simp; omega) (by rintro ⟨A, hA, h⟩; cases hA; simp at h; omega)]
      exact Below.heap_alloc _ _ _ hk
  · rcases h5 k hk with ⟨A, hA, h⟩ | h
    · cases hA; simp at h; omega
    · simp at h; omega
  · obtain ⟨_, i, z, h2', h3', h4', h5', h6', rfl, h8⟩ := h.out
    have hb := h2.2.2.2
    rcases hb with ⟨hn, hc⟩ | ⟨b, c, hb, _⟩
    · -- an empty copy keeps the row it began with
      exfalso
      have hl := h2.2.1
      have hx0 : x.len = 0 := by simp at h3; omega
      have hxs : xs = [] := List.length_eq_zero_iff.1 (by rw [hsrc.len, hx0, Nat.zero_mul])
      obtain ⟨d, hd⟩ := cells_of _ h3'
      have := run_append_fit (P := P) (w := w.alloc (.cells #[] e)) (ats := #[sT, sT]) (oT := oT) (s := ⟨some ⟨w.heap.size, 0, Option.none⟩, 0, 0⟩) rfl rfl h.out.1 h.out.1 hd h6' hsrc' (by simp [hx0]) (fun a _ => by
        rw [hxs]; exact ⟨fun i hi => by simp at hi, fun v hv => by simp at hv⟩)
      rw [this] at h1
      simp only [Result.ok.injEq, Value.slice.injEq] at h1
      rw [hn] at h1
      cases h1.1.1
    · rw [hb]; rfl

theorem IntsAt.src {k : IntKind} {w : World} {s : Sl} (h : IntsAt k w s) : ∃ ns : List Int, ns.length = s.len ∧ (∀ n ∈ ns, k.min ≤ n ∧ n ≤ k.max) ∧ Src 1 w s (ns.map (.int k)) := by
  obtain ⟨hle, hcap, hnil, hcell⟩ := h
  cases ha : s.a with
  | none =>
    have hn := hnil ha
    exact ⟨[], by simp; omega, by simp, by simp; omega, fun _ => rfl, (fun a h => by rw [ha] at h; cases h)⟩
  | some A =>
    have key : ∀ n i, i + n ≤ s.cap → ∃ ns : List Int, ns.length = n ∧ (∀ n ∈ ns, k.min ≤ n ∧ n ≤ k.max) ∧ rdCells w A i n = some (ns.map (.int k)) := by
      intro n
      induction n with
      | zero => intro i _; exact ⟨[], rfl, by simp, rfl⟩
      | succ n ih =>
        intro i hi
        obtain ⟨ns, h1, h2, h3⟩ := ih (i + 1) (by omega)
        obtain ⟨v, h4, h5, h6⟩ := hcell A ha i (by omega)
        refine ⟨v :: ns, by simp [h1], ?_, by simp [rdCells, h4, h3]⟩
        intro x hx
        rcases List.mem_cons.1 hx with rfl | hx
        · exact ⟨h5, h6⟩
        · exact h2 x hx
    obtain ⟨ns, h1, h2, h3⟩ := key s.len 0 (by omega)
    exact ⟨ns, h1, h2, by simp [h1], (fun h => by rw [ha] at h; cases h), (fun a h => by rw [ha] at h; cases h; simpa using h3)⟩

theorem plain_ints (k : IntKind) (ns : List Int) : ∀ v ∈ ns.map (Value.int k), Plain v := by
  intro v hv
  obtain ⟨n, _, rfl⟩ := List.mem_map.1 hv
  trivial

/-- The cell at an index, as the program reaches it. -/
theorem OwnS.at {T : TypeId} {w : World} {s : Sl} {vs : List Value} (h : OwnS 1 T w s vs) {i : Nat} {v : Value} (hv : vs[i]? = some v) :
    ∃ A : Addr, s.a = some A ∧ ((0 : Int) ≤ (i : Int) ∧ (i : Int) < ((s.len : Nat) : Int)) ∧ w.cell? (A.add (Int.toNat (i : Int) * 1)) = some v ∧ w.frozen? (A.add (Int.toNat (i : Int) * 1)) = false ∧
      ownB s (A.add (Int.toNat (i : Int) * 1)).block ∧ ∀ v', OwnS 1 T (w.setCell (A.add (Int.toNat (i : Int) * 1)) v') s (vs.set i v') := by
  obtain ⟨b, c, hb, hblk, hcs, hi, hic, hc, _⟩ := h.cell hv
  have ha : (Addr.mk b 0 Option.none).add (Int.toNat (i : Int) * 1) = ⟨b, i, Option.none⟩ := by rw [Nat.mul_one, Int.toNat_natCast, add_mk, Nat.zero_add]
  exact ⟨_, hb, ⟨by omega, by omega⟩, by rw [ha]; exact hc, by rw [ha]; exact hblk.frozen _ rfl, by rw [ha]; exact ⟨_, hb, rfl⟩, fun v' => by rw [ha]; exact h.set hb v'⟩

end Gx
