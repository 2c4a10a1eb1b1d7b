/- Rows that are owned: copies into them, zeros appended, what is laid over a part. -/
import Derived.Test.YtgljoledlhmhnaaGreatDoorGm
import Derived.Lib.Overlaps
namespace Gx
open Go Go.RowKit

theorem spl_at (c : Array Value) : ∀ (vs : List Value) (i : Nat) (c : Array Value), (spl c i vs).toList.drop (i + vs.length) = c.toList.drop (i + vs.length)
  | [], _, _ => rfl
  | v :: vs, i, c => by
    simp only [spl, List.length_cons]
    rw [show i + (vs.length + 1) = i + 1 + vs.length by omega, spl_at c vs (i + 1) (c.setIfInBounds i v)]
    rw [Array.toList_setIfInBounds, List.drop_set]
    rw [if_pos (by omega)]
theorem toList_spl (vs : List Value) (c : Array Value) (i : Nat) (h : i + vs.length ≤ c.size) : (spl c i vs).toList = c.toList.take i ++ vs ++ c.toList.drop (i + vs.length) := by
  rw [← List.take_append_drop (i + vs.length) (spl c i vs).toList, take_spl vs c i h, spl_at c]

section
variable {P : Program} {w : World}

theorem run_copy_rows {dT sT ty e : TypeId} {d : TypeDesc} {sz : Nat} (hd : P.underlying dT = some (.slice e)) (he : P.underlying e = some d) (hsz : P.cellsOf e = sz) {A : Addr} {dl dc n : Nat} {x : Sl} (hn : Nat.min x.len dl = n) {xs : List Value} (hx : Src sz w ⟨x.a, n, x.cap⟩ xs) (hst : StoreOk w A xs) :
    Sem.run P (Builtin.copy_ #[dT, sT] ty #[.slice (some A) dl dc, .slice x.a x.len x.cap]) w = .ok (.int .i64 ((n : Nat) : Int)) (setCells w A 0 xs) := by
  have hz := run_sizeOf' (w := w) he
  rw [hsz] at hz
  have hf : Sem.run P (Builtin.firstCells sz n (.slice x.a x.len x.cap)) w = .ok xs.toArray w := by
    obtain ⟨a, l, c⟩ := x
    cases a <;> exact run_firstCells (P := P) hx
  have hst' := run_storeCells (P := P) (A := A) xs 0 w (by simpa using hst.1) hst.2
  simp only [Builtin.copy_, List.getElem?_toArray, List.getElem?_cons_zero, List.getElem?_cons_succ, Sem.run_bind, run_underlying' hd, Result.andThen, Builtin.lenOf, Sem.run_pure, hn, hz, hf, hst']
  rfl
/-- Nothing is copied into a row that is none. -/
theorem run_copy_none {dT sT ty e : TypeId} {d : TypeDesc} {sz : Nat} (hd : P.underlying dT = some (.slice e)) (he : P.underlying e = some d) (hsz : P.cellsOf e = sz) {dl dc n : Nat} {x : Sl} (hn : Nat.min x.len dl = n) {xs : List Value} (hx : Src sz w ⟨x.a, n, x.cap⟩ xs) :
    Sem.run P (Builtin.copy_ #[dT, sT] ty #[.slice none dl dc, .slice x.a x.len x.cap]) w = .ok (.int .i64 ((n : Nat) : Int)) w := by
  have hz := run_sizeOf' (w := w) he
  rw [hsz] at hz
  have hf : Sem.run P (Builtin.firstCells sz n (.slice x.a x.len x.cap)) w = .ok xs.toArray w := by
    obtain ⟨a, l, c⟩ := x
    cases a <;> exact run_firstCells (P := P) hx
  simp only [Builtin.copy_, List.getElem?_toArray, List.getElem?_cons_zero, List.getElem?_cons_succ, Sem.run_bind, run_underlying' hd, Result.andThen, Builtin.lenOf, Sem.run_pure, hn, hz, hf]
  rfl

set_option maxRecDepth 4000 in
/-- append(s, make(S, n)...), where that needs a new row. -/
theorem run_append_zeros {ats : Array TypeId} {oT sT xT e : TypeId} {i : TypeInfo} {k : IntKind} {z : Value} {sz n : Nat} {s : Sl} {old : List Value} (h0 : ats[0]? = some sT) (h1 : ats[1]? = some xT)
    (hs : P.underlying sT = some (.slice e)) (hx : P.underlying xT = some (.int k)) (hi : P.info? e = some i) (hd : (P.underlying e).isSome = true) (hz : i.zero = some z) (hzs : z.cells.size = sz) (hsz : P.cellsOf e = sz)
    (hb : i.bytes ≠ 0) (hold : Src sz w s old) (hfit : s.cap < s.len + n) (hsmall : (2 * (s.len + n) + 1000) * i.bytes ≤ 281474976710656) :
    ∃ (nc : Nat) (zs rest : List Value), s.len + n ≤ nc ∧ nc ≤ maxLen ∧ zs.length = n * sz ∧ rest.length = (nc - (s.len + n)) * sz ∧
      Sem.run P (Builtin.append_ ats oT #[.slice s.a s.len s.cap, .int .i64 ((n : Nat) : Int)]) w =
        .ok (.slice (some ⟨w.heap.size, 0, none⟩) (s.len + n) nc) (w.drew.alloc (.cells (old ++ zs ++ rest).toArray e)) := by
  obtain ⟨d, hd⟩ := cells_of _ hd
  have hsz' := run_sizeOf' (w := w) hd
  rw [hsz] at hsz'
  have hcap := nextcap_le hfit
  have hn : Builtin.nextslicecap (s.len + n) s.cap * i.bytes ≤ 281474976710656 := Nat.le_trans (Nat.mul_le_mul_right _ hcap) hsmall
  have hneed : s.len + n ≤ 281474976710656 := by
    have : s.len + n ≤ (2 * (s.len + n) + 1000) * i.bytes := by
      have := Nat.mul_le_mul_left (2 * (s.len + n) + 1000) (Nat.one_le_iff_ne_zero.2 hb)
      omega
    omega
  have hnb : n * i.bytes ≤ 281474976710656 := Nat.le_trans (Nat.mul_le_mul_right _ (by omega : n ≤ 2 * (s.len + n) + 1000)) hsmall
  let q : Question := .appendCap (s.len + n) s.cap e
  let nc : Nat := q.cut (w.tape w.drawn q)
  have hq : q.forced = false := rfl
  have hnc : s.len + n ≤ nc := by show s.len + n ≤ s.len + n + _; omega
  have hnc2 : nc ≤ maxLen := by
    show s.len + n + _ % (2 ^ 63 - (s.len + n)) ≤ 2 ^ 63 - 1
    have := Nat.mod_lt (w.tape w.drawn q) (y := 2 ^ 63 - (s.len + n)) (by omega)
    omega
  have holdd : Src sz w.drew s old := hold.ext (Chg.drew (.refl _ _))
  have hf2 := run_firstCells (P := P) holdd
  have hask : ∀ n (w' : World), (askRoom n).run P w' = .ok () w' := fun n w' => by unfold askRoom; split <;> rfl
  have hchoose : (choose q).run P w = .ok nc w.drew := by
    show Sem.run P (.choose q .pure) w = _
    simp only [Sem.run, hq, Bool.false_eq_true, if_false]
    rfl
  have hti := fun w : World => run_typeInfo' (w := w) hi
  refine ⟨nc, if n * sz = 0 then [] else (Builtin.zeroCells z.cells n).toList, (Builtin.zeroCells z.cells (nc - (s.len + n))).toList, hnc, hnc2, ?_, by simp [Builtin.zeroCells, hzs], ?_⟩
  · split
    · rename_i h0; simp [h0]
    · simp [Builtin.zeroCells, hzs]
  have hw : IntKind.i64.wrap ((n : Nat) : Int) = (n : Int) := wrapi (by omega) (by omega)
  have e0 : ¬ ((n : Int) < 0) := by omega
  have e5 : ¬ ((n : Int) * (i.bytes : Int) > 2 ^ 48) := by
    have : ((n * i.bytes : Nat) : Int) ≤ ((281474976710656 : Nat) : Int) := Int.ofNat_le.2 hnb
    rw [Int.natCast_mul] at this
    have e48 : (2 : Int) ^ 48 = ((281474976710656 : Nat) : Int) := by decide +kernel
    rw [e48]
    omega
  have e1 : ¬ (s.len + n ≤ s.cap) := by omega
  have e2 : ¬ ((s.len + n : Nat) : Int) > IntKind.i64.max := by
    simp [IntKind.max, IntKind.signed, IntKind.bits]; omega
  have e4 : ¬ Builtin.nextslicecap (s.len + n) s.cap * i.bytes > 2 ^ 48 := by
    have : (2 : Nat) ^ 48 = 281474976710656 := by decide +kernel
    omega
  have hchoose' : Sem.run P (choose (.appendCap (s.len + n) s.cap e)) w = .ok nc w.drew := hchoose
  unfold Builtin.append_
  simp only [List.getElem?_toArray, List.getElem?_cons_zero, List.getElem?_cons_succ, h0, h1, Sem.run_bind, run_underlying' hs, run_underlying' hx, Result.andThen, hsz', Sem.run_pure, asInt, asIntOf, hw, e0, if_false, hti, e5, Int.toNat_natCast, e1, e2, false_and, e4, if_true, Bool.not_true, Bool.false_eq_true, hchoose', hask, hf2]
  by_cases hz0 : n * sz = 0
  · simp only [hz0, if_true, Sem.run_pure, zeroValue, hti, hz, Sem.run_bind, Result.andThen, newRow, newObj, Sem.run]
    have hds : w.drew.heap.size = w.heap.size := rfl
    rw [hds]
    congr 1
    show w.drew.alloc _ = w.drew.alloc _
    congr 2
    simp
  · simp only [hz0, if_false, Sem.run_pure, zeroValue, hti, hz, Sem.run_bind, Result.andThen, newRow, newObj, Sem.run]
    have hds : w.drew.heap.size = w.heap.size := rfl
    rw [hds]
    congr 1
    show w.drew.alloc _ = w.drew.alloc _
    congr 2
    simp

theorem run_clear_rows {T o e : TypeId} {i : TypeInfo} {z : Value} {sz n c : Nat} {A : Addr} (hT : P.underlying T = some (.slice e)) (hi : P.info? e = some i) (hz : i.zero = some z) (hzs : z.cells.size = sz) (hn : n ≠ 0)
    (hst : ∀ zs : List Value, zs = (Builtin.zeroCells z.cells n).toList → StoreOk w A zs) :
    ∃ zs : List Value, zs.length = n * sz ∧ Sem.run P (Builtin.clear_ #[T] o #[.slice (some A) n c]) w = .ok (.tuple #[]) (setCells w A 0 zs) := by
  refine ⟨(Builtin.zeroCells z.cells n).toList, by simp [Builtin.zeroCells, hzs], ?_⟩
  have hs := hst _ rfl
  have hst' := run_storeCells (P := P) (A := A) _ 0 w (by simpa using hs.1) hs.2
  cases n with
  | zero => exact absurd rfl hn
  | succ n =>
    simp only [Builtin.clear_, List.getElem?_toArray, List.getElem?_cons_zero, Sem.run_bind, run_underlying' hT, Result.andThen, zeroValue, run_typeInfo' hi, hz, Sem.run_pure, hst']

end

theorem cut0' (a : Option Addr) (z c : Nat) : cutA a z 0 c = a := by
  unfold cutA
  split
  · rfl
  · cases a with
    | none => rfl
    | some A => simp [add_zero']

/-- A part of a row that is owned. -/
theorem Blk.srcAt {sz : Nat} {w : World} {b : Nat} {c : Array Value} {T : TypeId} (h : Blk w b c T) {o n cap : Nat} (hn : o + n * sz ≤ c.size) : Src sz w ⟨some ⟨b, o, none⟩, n, cap⟩ ((c.toList.drop o).take (n * sz)) := by
  refine ⟨by simp; omega, (fun h => by cases h), fun a ha => ?_⟩
  cases ha
  have := rdCells_blk h (n * sz) o 0 (by simpa using hn)
  simpa using this
theorem Blk.set0 {w : World} {b o : Nat} {c : Array Value} {T : TypeId} (h : Blk w b c T) (vs : List Value) : Blk (setCells w ⟨b, o, none⟩ 0 vs) b (spl c o vs) T := by
  simpa using Blk.sets vs o 0 h
theorem OwnS.mk' {sz : Nat} {T : TypeId} {w : World} {b n cap : Nat} {c : Array Value} {vs : List Value} (hb : Blk w b c T) (hl : vs.length = n * sz) (hn : n ≤ cap) (hc : cap ≤ maxLen) (hs : c.size = cap * sz) (hv : c.toList.take (n * sz) = vs) : OwnS sz T w ⟨some ⟨b, 0, Option.none⟩, n, cap⟩ vs :=
  ⟨hl, hn, hc, .inr ⟨b, c, rfl, hb, hs, hv⟩⟩

theorem addAdd (A : Addr) (a b : Nat) : (A.add a).add b = A.add (a + b) := by
  unfold Addr.add
  by_cases ha : a = 0
  · subst ha; simp
  · by_cases hb : b = 0
    · subst hb; simp
    · simp [ha, hb, Nat.add_assoc]
theorem rdGet {w : World} {A : Addr} : ∀ {n i : Nat} {vs : List Value} {j : Nat} {v : Value}, rdCells w A i n = some vs → vs[j]? = some v → w.cell? (A.add (i + j)) = some v
  | 0, _, vs, j, v, h, hv => by simp [rdCells] at h; subst h; simp at hv
  | n + 1, i, vs, j, v, h, hv => by
    simp only [rdCells] at h
    cases h1 : w.cell? (A.add i) with
    | none => simp [h1] at h
    | some u =>
      cases h2 : rdCells w A (i + 1) n with
      | none => simp [h1, h2] at h
      | some us =>
        simp only [h1, h2, Option.some.injEq] at h
        subst h
        cases j with
        | zero => simp at hv; subst hv; exact h1
        | succ j =>
          have := rdGet h2 (j := j) (v := v) (by simpa using hv)
          rwa [show i + (j + 1) = i + 1 + j by omega]
theorem rdOf {w : World} {A : Addr} : ∀ (n i : Nat) (vs : List Value), vs.length = n → (∀ j v, vs[j]? = some v → w.cell? (A.add (i + j)) = some v) → rdCells w A i n = some vs
  | 0, i, vs, hl, _ => by
    cases vs with
    | nil => simp [rdCells]
    | cons _ _ => simp at hl
  | n + 1, i, vs, hl, h => by
    cases vs with
    | nil => simp at hl
    | cons v vs =>
      simp only [rdCells]
      rw [show w.cell? (A.add i) = some v from h 0 v rfl, rdOf n (i + 1) vs (by simpa using hl) (fun j x hx => by have := h (j + 1) x (by simpa using hx); rwa [show i + (j + 1) = i + 1 + j by omega] at this)]
theorem rdPart {w : World} {A : Addr} {n k m : Nat} {vs : List Value} (h : rdCells w A 0 n = some vs) (hk : k + m ≤ n) : rdCells w (A.add k) 0 m = some ((vs.drop k).take m) := by
  have hl := rdCells_length h
  refine rdOf m 0 _ (by simp; omega) fun j v hv => ?_
  rw [addAdd, show k + (0 + j) = 0 + (k + j) by omega]
  refine rdGet h ?_
  rw [List.getElem?_take] at hv
  split at hv
  · rwa [List.getElem?_drop] at hv
  · cases hv

/-- The middle of two places. -/
theorem mid_wrap {a b : Nat} (h : a + b ≤ 4000000) : IntKind.wrap .i64 (Int.fdiv (IntKind.wrap .u64 (IntKind.wrap .i64 ((a : Int) + (b : Int)))) (2 ^ (min (Int.toNat 1) 64))) = (((a + b) / 2 : Nat) : Int) := by
  rw [wrapi (n := (a : Int) + b) (by omega) (by omega), wr64 (by omega) (by omega)]
  have e : (2 : Int) ^ (min (Int.toNat 1) 64) = 2 := rfl
  rw [e, Int.fdiv_eq_ediv_of_nonneg _ (by omega), wrapi (by omega) (by omega)]
  omega

section
variable {w : World}
/-! ### Blocks of other kinds are others -/
theorem MapK.notVar {α : Type} {enc : α → Value} {M : List (α × Value)} {q : Nat} {c : Array Value} {T : TypeId} (h : MapK w q enc M) (h' : Blk w q c T) : False := by
  obtain ⟨L, clk, h, _⟩ := h
  unfold Blk at h'
  rw [h'] at h; cases h
theorem OwnS.notVar {sz : Nat} {T T' : TypeId} {s : Sl} {vs : List Value} {q : Nat} {c : Array Value} (h : OwnS sz T w s vs) (hq : ownB s q) (h' : Blk w q c T') : T = T' := by
  obtain ⟨A, hA, rfl⟩ := hq
  obtain ⟨_, _, _, h4⟩ := h
  rcases h4 with ⟨hn, _⟩ | ⟨b, c', hb, hblk, _⟩
  · rw [hn] at hA; cases hA
  · rw [hb] at hA; cases hA
    exact (Blk.inj hblk h').2
theorem OwnS.notMap {α : Type} {enc : α → Value} {M : List (α × Value)} {sz : Nat} {T : TypeId} {s : Sl} {vs : List Value} {q : Nat} (h : OwnS sz T w s vs) (hq : ownB s q) (h' : MapK w q enc M) : False := by
  obtain ⟨A, hA, rfl⟩ := hq
  obtain ⟨_, _, _, h4⟩ := h
  rcases h4 with ⟨hn, _⟩ | ⟨b, c', hb, hblk, _⟩
  · rw [hn] at hA; cases hA
  · rw [hb] at hA; cases hA
    exact MapK.notVar h' hblk
end

theorem rdCat {w : World} {A : Addr} {n m i : Nat} {xs ys : List Value} (h1 : rdCells w A i n = some xs) (h2 : rdCells w (A.add (i + n)) 0 m = some ys) : rdCells w A i (n + m) = some (xs ++ ys) := by
  have l1 := rdCells_length h1
  have l2 := rdCells_length h2
  refine rdOf (n + m) i _ (by rw [List.length_append, l1, l2]) fun j v hv => ?_
  rw [List.getElem?_append] at hv
  split at hv
  · exact rdGet h1 hv
  · rename_i hj
    have := rdGet h2 hv
    rw [addAdd] at this
    rwa [show i + n + (0 + (j - xs.length)) = i + j by omega] at this
/-- A slice of good elements, as a list. -/
theorem SliceAt.src {P : Program} {w : World} {e : TypeId} {s : Sl} {α : Type} {c : α → List Value} {sz : Nat} (h : SliceAt P w e s) (hsz : P.cellsOf e = sz) (R : α → Prop) (hel : ∀ fuel vs, okT P w fuel e vs → ∃ x : α, vs = c x ∧ R x) :
    ∃ l : List α, Src sz w s (l.map c).flatten ∧ l.length = s.len ∧ ∀ x ∈ l, R x := by
  have hcell := h.cell
  rw [hsz] at hcell
  have key : ∀ a, s.a = some a → ∀ n, n ≤ s.len → ∃ l : List α, rdCells w a 0 (n * sz) = some (l.map c).flatten ∧ l.length = n ∧ ∀ x ∈ l, R x := by
    intro a ha n
    induction n with
    | zero => intro _; exact ⟨[], by simp [rdCells], rfl, fun r hr => by cases hr⟩
    | succ n ih =>
      intro hn
      obtain ⟨l, h1, hl, h2⟩ := ih (by omega)
      obtain ⟨vs, h3, fuel, h4⟩ := hcell a ha n (by have := h.le; omega)
      obtain ⟨r, rfl, h5⟩ := hel fuel vs h4
      refine ⟨l ++ [r], ?_, by simp [hl], fun x hx => ?_⟩
      · rw [Nat.succ_mul, rdCat h1 (by rw [Nat.zero_add]; exact h3)]
        simp
      · rcases List.mem_append.1 hx with hx | hx
        · exact h2 x hx
        · rw [List.mem_singleton.1 hx]; exact h5
  cases hsa : s.a with
  | none =>
    have h0 : s.len = 0 := by have := h.nil hsa; have := h.le; omega
    exact ⟨[], ⟨by simp [h0], fun _ => rfl, fun a ha => (by rw [hsa] at ha; cases ha)⟩, h0.symm, fun r hr => by cases hr⟩
  | some a =>
    obtain ⟨l, h1, hl, h2⟩ := key a hsa s.len (Nat.le_refl _)
    exact ⟨l, ⟨rdCells_length h1, fun e => (by rw [hsa] at e; cases e), fun a' ha' => by rw [hsa] at ha'; cases ha'; exact h1⟩, hl, h2⟩
/-- A field of a struct that is good. -/
theorem okT_field {P : Program} {w : World} {T : TypeId} {fuel : Nat} {cs : List Value} {fs : Array Field} (h : okT P w fuel T cs) (hT : P.underlying T = some (.struct fs)) (i : Nat) {t o n : Nat} (hf : (fs[i]?).map (fun f => (f.type, f.offset)) = some (t, o)) (hn : P.cellsOf t = n) : ∃ fuel, okT P w fuel t ((cs.drop o).take n) := by
  obtain ⟨_, hfs⟩ := okT_struct h hT
  cases hg : fs[i]? with
  | none => rw [hg] at hf; cases hf
  | some f =>
    rw [hg] at hf
    simp only [Option.map_some, Option.some.injEq, Prod.mk.injEq] at hf
    obtain ⟨rfl, rfl⟩ := hf
    have := hfs f (Array.mem_of_getElem? hg)
    rwa [hn] at this
/-- The fields of a struct type. -/
def fieldsOf (P : Program) (T : TypeId) : Array Field := match P.underlying T with
  | some (.struct fs) => fs
  | _ => #[]

end Gx
