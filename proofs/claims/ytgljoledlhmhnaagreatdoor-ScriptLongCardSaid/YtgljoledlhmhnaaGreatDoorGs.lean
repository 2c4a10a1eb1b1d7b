/- Bytes and strings. -/
import Derived.Test.YtgljoledlhmhnaaGreatDoorGa
import Derived.Laws.BytesString
namespace Gx
open Go Go.RowKit

/-- Bytes as a string. -/
def bstr (ns : List Int) : ByteArray := ns.foldl (fun r n => r.push (UInt8.ofNat n.toNat)) ByteArray.empty

theorem run_conv_bytes {P : Program} {w : World} {src dst e : TypeId} {s : Sl} {ns : List Int} (hs : P.underlying src = some (.slice e)) (he : P.underlying e = some (.int .u8)) (hd : P.underlying dst = some .string)
    (h : Src 1 w s (ns.map (.int .u8))) : Sem.run P (convert src dst (.slice s.a s.len s.cap)) w = .ok (.string (bstr ns)) w := by
  rw [run_convert_bytes_string w src dst e s.a s.len s.cap hs he hd]
  cases ha : s.a with
  | none =>
    have := h.nil ha
    have hn : ns = [] := by simpa using this
    subst hn
    rfl
  | some A =>
    have hr := h.rd A ha
    rw [Nat.mul_one] at hr
    exact run_bytesToString w A s.len s.cap ns (by
      unfold loadCells
      rw [run_loadCellsFrom _ _ _ _ hr]
      simp)

theorem zrow_of {P : Program} {e : TypeId} {v : Value} (hz : ((P.info? e).bind (·.zero)).map (·.cells) = some #[v]) (hc : P.cellsOf e = 1) (n : Nat) : zrow P e n = (List.replicate n v).toArray := by
  unfold zrow
  rw [hc]
  cases hi : (P.info? e).bind (·.zero) with
  | none => rw [hi] at hz; cases hz
  | some z =>
    rw [hi] at hz
    simp only [Option.map_some, Option.some.injEq] at hz
    simp only [Option.getD_some, hz, Nat.mul_one]
    apply Array.ext
    · simp
    · intro i h1 h2
      have hn : n ≠ 0 := by
        intro h; subst h; simp at h2
      simp [hn, Nat.mod_one]

/-! ### Arguments of any type, level by level -/
/-- A slice that can be read, of elements that are good. -/
structure SliceAt (P : Program) (w : World) (e : TypeId) (s : Sl) : Prop where
  le : s.len ≤ s.cap
  cap : s.cap ≤ maxLen
  nil : s.a = none → s.cap = 0
  cell : ∀ a, s.a = some a → ∀ i, i < s.cap → ∃ vs, rdCells w (a.add (i * P.cellsOf e)) 0 (P.cellsOf e) = some vs ∧ ∃ fuel, okT P w fuel e vs

section
variable {P : Program} {w : World} {T : TypeId} {fuel : Nat} {cs : List Value}

theorem okT_int {k : IntKind} (h : okT P w fuel T cs) (hT : P.underlying T = some (.int k)) : ∃ n : Int, cs = [.int k n] ∧ k.min ≤ n ∧ n ≤ k.max := by
  cases fuel with
  | zero => cases h
  | succ f => simpa only [okT, hT] using h
theorem okT_bool (h : okT P w fuel T cs) (hT : P.underlying T = some .bool) : ∃ b : Bool, cs = [.bool b] := by
  cases fuel with
  | zero => cases h
  | succ f => simpa only [okT, hT] using h
theorem okT_string (h : okT P w fuel T cs) (hT : P.underlying T = some .string) : ∃ s : ByteArray, cs = [.string s] ∧ s.size ≤ maxLen := by
  cases fuel with
  | zero => cases h
  | succ f => simpa only [okT, hT] using h
theorem okT_slice {e : TypeId} (h : okT P w fuel T cs) (hT : P.underlying T = some (.slice e)) : ∃ s : Sl, cs = [.slice s.a s.len s.cap] ∧ SliceAt P w e s := by
  cases fuel with
  | zero => cases h
  | succ f =>
    simp only [okT, hT] at h
    obtain ⟨s, h0, h1, h2, h3, h4⟩ := h
    exact ⟨s, h0, h1, h2, h3, fun a ha i hi => by
      obtain ⟨vs, h5, h6⟩ := h4 a ha i hi
      exact ⟨vs, h5, f, h6⟩⟩
theorem okT_struct {fs : Array Field} (h : okT P w fuel T cs) (hT : P.underlying T = some (.struct fs)) : cs.length = P.cellsOf T ∧ ∀ f ∈ fs, ∃ fuel, okT P w fuel f.type ((cs.drop f.offset).take (P.cellsOf f.type)) := by
  cases fuel with
  | zero => cases h
  | succ f =>
    simp only [okT, hT] at h
    exact ⟨h.1, fun g hg => ⟨f, h.2 g hg⟩⟩
theorem okT_array {n : Nat} {e : TypeId} (h : okT P w fuel T cs) (hT : P.underlying T = some (.array n e)) : cs.length = P.cellsOf T ∧ ∀ i, i < n → ∃ fuel, okT P w fuel e ((cs.drop (i * P.cellsOf e)).take (P.cellsOf e)) := by
  cases fuel with
  | zero => cases h
  | succ f =>
    simp only [okT, hT] at h
    exact ⟨h.1, fun i hi => ⟨f, h.2 i hi⟩⟩

theorem SliceAt.of {e : TypeId} {v : Value} (h : OkV P w T v) (hT : P.underlying T = some (.slice e)) : ∃ s : Sl, v = .slice s.a s.len s.cap ∧ SliceAt P w e s := by
  simp only [OkV, hT] at h
  obtain ⟨fuel, h⟩ := h
  obtain ⟨s, h1, h2⟩ := okT_slice h hT
  exact ⟨s, by simpa using h1, h2⟩
theorem StringAt.of {v : Value} (h : OkV P w T v) (hT : P.underlying T = some .string) : ∃ s : ByteArray, v = .string s ∧ s.size ≤ maxLen := by
  simp only [OkV, hT] at h
  obtain ⟨fuel, h⟩ := h
  obtain ⟨s, h1, h2⟩ := okT_string h hT
  exact ⟨s, by simpa using h1, h2⟩
end

theorem rdCells_get {w : World} {A : Addr} : ∀ {n i : Nat} {vs : List Value} {j : Nat} {v : Value}, rdCells w A i n = some vs → vs[j]? = some v → w.cell? (A.add (i + j)) = some v
  | 0, i, vs, j, v, h, hv => by simp [rdCells] at h; subst h; simp at hv
  | n + 1, i, vs, j, v, h, hv => by
    simp only [rdCells] at h
    cases h1 : w.cell? (A.add i) with
    | none => simp [h1] at h
    | some u =>
      cases h2 : rdCells w A (i + 1) n with
      | none => simp [h1, h2] at h
      | some us =>
        simp only [h1, h2, Option.some.injEq] at h
        subst h
        cases j with
        | zero => simp at hv; subst hv; exact h1
        | succ j =>
          have := rdCells_get h2 (j := j) (by simpa using hv)
          rw [show i + (j + 1) = i + 1 + j by omega]
          exact this

/-- One cell of a slice that can be read. -/
theorem Src.at {w : World} {s : Sl} {vs : List Value} (h : Src 1 w s vs) {i : Nat} {v : Value} (hv : vs[i]? = some v) :
    ∃ A : Addr, s.a = some A ∧ ((0 : Int) ≤ (i : Int) ∧ (i : Int) < ((s.len : Nat) : Int)) ∧ w.cell? (A.add (Int.toNat (i : Int) * 1)) = some v := by
  have hi : i < vs.length := (List.getElem?_eq_some_iff.1 hv).1
  have hl := h.len
  cases ha : s.a with
  | none => have := h.nil ha; subst this; simp at hi
  | some A =>
    have := rdCells_get (h.rd A ha) hv
    exact ⟨A, rfl, ⟨by omega, by omega⟩, by rw [Nat.mul_one, Int.toNat_natCast]; simpa using this⟩

/-- A slice, cut to a shorter one with its room. -/
theorem IntsAt.cut {k : IntKind} {w : World} {s : Sl} (h : IntsAt k w s) {m : Nat} (hm : m ≤ s.cap) : IntsAt k w ⟨cutA s.a 1 0 s.cap, m - 0, s.cap - 0⟩ := by
  obtain ⟨h1, h2, h3, h4⟩ := h
  have ha : cutA s.a 1 0 s.cap = s.a := by
    unfold cutA
    split
    · rfl
    · cases s.a <;> simp [add_zero']
  exact ⟨by simpa using hm, by simpa using h2, fun h => by rw [ha] at h; simpa using h3 h, fun a hh i hi => by rw [ha] at hh; exact h4 a hh i (by simpa using hi)⟩

end Gx
