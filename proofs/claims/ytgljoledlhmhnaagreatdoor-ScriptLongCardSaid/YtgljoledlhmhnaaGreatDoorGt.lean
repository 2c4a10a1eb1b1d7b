/- Numbers that are wrapped, texts as lists of bytes, numerals, buffers. -/
import Derived.Test.YtgljoledlhmhnaaGreatDoorGe
namespace Gx
open Go Go.RowKit

/-! ### Wraps that change nothing -/
theorem wr8 {n : Int} (h0 : 0 ≤ n) (h1 : n ≤ 255) : IntKind.u8.wrap n = n := by
  simp only [IntKind.wrap, IntKind.signed, IntKind.bits]; simp; omega
theorem wr16 {n : Int} (h0 : 0 ≤ n) (h1 : n ≤ 65535) : IntKind.u16.wrap n = n := by
  simp only [IntKind.wrap, IntKind.signed, IntKind.bits]; simp; omega
theorem wr32 {n : Int} (h0 : 0 ≤ n) (h1 : n ≤ 4294967295) : IntKind.u32.wrap n = n := by
  simp only [IntKind.wrap, IntKind.signed, IntKind.bits]; simp; omega
theorem wr64 {n : Int} (h0 : 0 ≤ n) (h1 : n ≤ 18446744073709551615) : IntKind.u64.wrap n = n := by
  simp only [IntKind.wrap, IntKind.signed, IntKind.bits]; simp; omega
theorem wr8m (n : Int) : IntKind.u8.wrap n = n % 256 := by
  simp only [IntKind.wrap, IntKind.signed, IntKind.bits]; simp
theorem wr16m (n : Int) : IntKind.u16.wrap n = n % 65536 := by
  simp only [IntKind.wrap, IntKind.signed, IntKind.bits]; simp
theorem wr32m (n : Int) : IntKind.u32.wrap n = n % 4294967296 := by
  simp only [IntKind.wrap, IntKind.signed, IntKind.bits]; simp
theorem wr64m (n : Int) : IntKind.u64.wrap n = n % 18446744073709551616 := by
  simp only [IntKind.wrap, IntKind.signed, IntKind.bits]; simp
theorem tdiv_nn {a b : Int} (h : 0 ≤ a) : Int.tdiv a b = a / b := Int.tdiv_eq_ediv_of_nonneg h
theorem tmod_nn {a b : Int} (h : 0 ≤ a) : Int.tmod a b = a % b := Int.tmod_eq_emod_of_nonneg h

/-! ### Texts -/
/-- The text of bytes. -/
def S (l : List UInt8) : ByteArray := ⟨l.toArray⟩
theorem S_data (l : List UInt8) : (S l).data.toList = l := rfl
theorem S_toList (l : List UInt8) : (S l).toList = l := ByteArray.toList_mk l
theorem S_size (l : List UInt8) : (S l).size = l.length := rfl
theorem S_of (s : ByteArray) : ∃ l, s = S l := ⟨s.data.toList, rfl⟩
theorem S_append (a b : List UInt8) : S a ++ S b = S (a ++ b) := by
  apply ByteArray.ext
  show (S a ++ S b).data = _
  rw [ByteArray.data_append]
  simp [S]
theorem S_extract (l : List UInt8) (a b : Nat) : (S l).extract a b = S ((l.drop a).take (b - a)) := by
  apply ByteArray.ext
  rw [ByteArray.data_extract]
  apply Array.toList_inj.1
  simp [S]
theorem S_inj {a b : List UInt8} : S a = S b ↔ a = b := by
  constructor
  · intro h
    have := congrArg (·.data.toList) h
    simpa [S] using this
  · rintro rfl; rfl
theorem S_byteAt (l : List UInt8) (i : Nat) : byteAt (S l) i = l[i]? := rfl
theorem S_beq (a b : List UInt8) : (ByteArray.toList (S a) == ByteArray.toList (S b)) = (a == b) := by rw [S_toList, S_toList]

theorem bstr_eq (ns : List Int) : bstr ns = S (ns.map fun n => UInt8.ofNat n.toNat) := by
  have h : ∀ (ns : List Int) (r : List UInt8), ns.foldl (fun r n => r.push (UInt8.ofNat n.toNat)) (S r) = S (r ++ ns.map fun n => UInt8.ofNat n.toNat) := by
    intro ns
    induction ns with
    | nil => intro r; simp
    | cons n ns ih =>
      intro r
      have e : (S r).push (UInt8.ofNat n.toNat) = S (r ++ [UInt8.ofNat n.toNat]) := by
        apply ByteArray.ext
        simp [S, ByteArray.push]
      simp only [List.foldl_cons, e, ih, List.map_cons, List.append_assoc, List.cons_append, List.nil_append]
  exact h ns []

/-! ### Numerals -/
/-- A digit's sign. -/
def dig (d : Nat) : UInt8 := UInt8.ofNat (if d < 10 then 48 + d else 87 + d)

/-- A number's digits to a base. -/
def numB (b : Nat) (n : Nat) : List UInt8 := if _h : 2 ≤ b ∧ b ≤ n then numB b (n / b) ++ [dig (n % b)] else [dig n]
termination_by n
decreasing_by exact Nat.div_lt_self (by omega) (by omega)

theorem numB_lt {b n : Nat} (h : n < b) : numB b n = [dig n] := by rw [numB, dif_neg (by omega)]
theorem numB_ge {b n : Nat} (hb : 2 ≤ b) (h : b ≤ n) : numB b n = numB b (n / b) ++ [dig (n % b)] := by rw [numB, dif_pos ⟨hb, h⟩]

/-- So many digits of a number, to base ten. -/
def decN (n : Nat) (k : Nat) : List UInt8 := (List.range k).map fun j => UInt8.ofNat (48 + n / 10 ^ (k - 1 - j) % 10)

theorem decN_succ (n k : Nat) : decN n (k + 1) = decN (n / 10) k ++ [UInt8.ofNat (48 + n % 10)] := by
  unfold decN
  rw [List.range_succ, List.map_append]
  congr 1
  · apply List.map_congr_left
    intro j hj
    have hj := List.mem_range.1 hj
    rw [Nat.div_div_eq_div_mul, show k + 1 - 1 - j = (k - 1 - j) + 1 by omega, Nat.pow_succ, Nat.mul_comm (10 ^ (k - 1 - j)) 10]
  · simp

theorem numB_dec : ∀ (k n : Nat), n < 10 ^ (k + 1) → 10 ^ k ≤ n ∨ k = 0 → numB 10 n = decN n (k + 1)
  | 0, n, h, _ => by
    have h : n < 10 := by simpa using h
    rw [numB_lt h]
    simp [decN, dig, h, Nat.mod_eq_of_lt h]
  | k + 1, n, h, h2 => by
    have h2 : 10 ^ (k + 1) ≤ n := by rcases h2 with h2 | h2; exact h2; omega
    have h3 : 10 ≤ n := Nat.le_trans (by rw [Nat.pow_succ]; have := Nat.one_le_pow k 10 (by omega); omega) h2
    rw [numB_ge (by omega) h3, decN_succ, numB_dec k (n / 10) (by rw [Nat.pow_succ] at h; omega) (.inl (by rw [Nat.pow_succ] at h2; omega))]
    have : n % 10 < 10 := Nat.mod_lt _ (by omega)
    simp [dig, this]

theorem numB_length_pos (b n : Nat) : 1 ≤ (numB b n).length := by
  rw [numB]; split <;> simp
theorem numB_ne (b n : Nat) : numB b n ≠ [] := by
  intro h; have := numB_length_pos b n; rw [h] at this; simp at this

theorem add_add (A : Addr) (n m : Nat) : (A.add n).add m = A.add (n + m) := by
  unfold Addr.add
  by_cases h1 : n = 0
  · subst h1; simp
  · by_cases h2 : m = 0
    · subst h2; simp
    · rw [if_neg h1, if_neg h2, if_neg (by omega)]
      simp [Nat.add_assoc]

/-! ### Buffers of bytes -/
def bufV (m : Nat) (f : Nat → Int) : Array Value := ((List.range m).map fun i => Value.int .u8 (f i)).toArray
def put (f : Nat → Int) (i : Nat) (v : Int) : Nat → Int := fun j => if j = i then v else f j
theorem bufV_size (m : Nat) (f : Nat → Int) : (bufV m f).size = m := by simp [bufV]
theorem bufV_get {m : Nat} {f : Nat → Int} {i : Nat} (h : i < m) : (bufV m f)[i]? = some (.int .u8 (f i)) := by
  simp [bufV, h]
theorem bufV_set {m : Nat} {f : Nat → Int} {i : Nat} {v : Int} : (bufV m f).setIfInBounds i (.int .u8 v) = bufV m (put f i v) := by
  apply Array.toList_inj.1
  simp only [Array.toList_setIfInBounds, bufV]
  apply List.ext_getElem
  · simp
  · intro j h1 h2
    simp only [List.getElem_set, List.getElem_map, List.getElem_range, put]
    by_cases h : i = j
    · subst h; simp
    · rw [if_neg h, if_neg (fun e => h e.symm)]

theorem Blk.shape {w : World} {b : Nat} {c : Array Value} {T : TypeId} (h : Blk w b c T) : w.shape? b = some (T, c.size) := by
  unfold Blk at h
  simp [World.shape?, h]

structure Buf (w : World) (b : Nat) (T : TypeId) (m : Nat) (f : Nat → Int) : Prop where
  blk : Blk w b (bufV m f) T

section
variable {w w' : World} {b m i : Nat} {T : TypeId} {f : Nat → Int}
theorem Buf.cell (h : Buf w b T m f) {A : Addr} (hA : A = ⟨b, i, none⟩) (hi : i < m) : w.cell? A = some (.int .u8 (f i)) := by
  subst hA; rw [h.blk.cell, bufV_get hi]
theorem Buf.frozen (h : Buf w b T m f) {A : Addr} (hA : A = ⟨b, i, none⟩) : w.frozen? A = false := by
  subst hA; exact h.blk.frozen _ rfl
theorem Buf.set (h : Buf w b T m f) {A : Addr} (hA : A = ⟨b, i, none⟩) (v : Int) : Buf (w.setCell A (.int .u8 v)) b T m (put f i v) := by
  subst hA; constructor; rw [← bufV_set]; exact h.blk.set i _
theorem Buf.drew (h : Buf w b T m f) : Buf w.drew b T m f := ⟨h.blk⟩
theorem Buf.ext (h : Buf w b T m f) (hc : Ext w w') : Buf w' b T m f := ⟨h.blk.ext hc⟩
theorem Buf.chg {W : Nat → Prop} (h : Buf w b T m f) (hc : Chg W w w') (hb : ¬ W b) : Buf w' b T m f := ⟨h.blk.chg hc hb⟩
theorem Chg.cellB {w0 w : World} {b i : Nat} (h : Chg (fun q => q = b) w0 w) (v : Value) : Chg (fun q => q = b) w0 (w.setCell ⟨b, i, none⟩ v) := Chg.set h (fun _ => rfl) v
theorem Chg.setsB {w0 w : World} {b i : Nat} (h : Chg (fun q => q = b) w0 w) (vs : List Value) (j : Nat) : Chg (fun q => q = b) w0 (Gx.setCells w ⟨b, i, none⟩ j vs) := Chg.setCells (W := fun q => q = b) (A := ⟨b, i, none⟩) (fun _ => rfl) vs j h
/-- A part of a buffer, read. -/
theorem Buf.src (h : Buf w b T m f) {o n c : Nat} (hn : o + n ≤ m) : Src 1 w ⟨some ⟨b, o, none⟩, n, c⟩ ((List.range n).map fun i => Value.int .u8 (f (o + i))) := by
  refine ⟨by simp, (fun h => by cases h), fun a ha => ?_⟩
  cases ha
  rw [rdCells_blk h.blk _ _ _ (by rw [bufV_size]; simp; exact hn)]
  congr 1
  apply List.ext_getElem
  · simp [bufV]; omega
  · intro j h1 h2
    simp [bufV]
end

theorem cut_some {b o : Nat} {z l m : Nat} (h : m ≠ l) : cutA (some (Addr.mk b o none)) z l m = some ⟨b, o + l * z, none⟩ := by
  simp [cutA, h, add_mk]

/-! ### Chains of changes past what the call laid -/
theorem Ext.trans {a b c : World} (h1 : Ext a b) (h2 : Ext b c) : Ext a c := Chg.trans h1 h2
/-- What turned lay beyond the heap of the beginning. -/
theorem Ext.of_new {w0 w1 w2 : World} {W : Nat → Prop} (h1 : Ext w0 w1) (h2 : Chg W w1 w2) (h : ∀ k, W k → w0.heap.size ≤ k) : Ext w0 w2 :=
  ⟨h2.os.trans h1.os, h2.tape.trans h1.tape, h2.output.trans h1.output, Nat.le_trans h1.size h2.size, fun k hk _ => by
    rw [h2.block k (Nat.lt_of_lt_of_le hk h1.size) (fun hW => by have := h k hW; omega), h1.block k hk id]⟩
theorem Ext.set {w0 w1 : World} (h1 : Ext w0 w1) {A : Addr} (hA : w0.heap.size ≤ A.block) (v : Value) : Ext w0 (w1.setCell A v) :=
  Ext.of_new h1 (W := fun k => k = A.block) (Chg.set (W := fun k => k = A.block) (A := A) (.refl _ _) (fun _ => rfl) v) (fun k hk => by subst hk; exact hA)

end Gx
