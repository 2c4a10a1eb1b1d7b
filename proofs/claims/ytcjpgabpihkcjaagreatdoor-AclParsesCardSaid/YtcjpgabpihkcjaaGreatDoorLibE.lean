/- Texts searched and parted at one byte: Index, Contains, Cut, Count, Split. -/
import Derived.Test.YtcjpgabpihkcjaaGreatDoorLibD
import Derived.Lib.Bytealg
import Derived.Laws.Externs
import Derived.Laws.Small
namespace Go.Proofs.YtcjpgabpihkcjaaGreatDoor
open Go Gx

/-- The place of a byte; none: it is not there. -/
def idxB (c : UInt8) : List UInt8 → Option Nat
  | [] => none
  | b :: l => if b = c then some 0 else (idxB c l).map (· + 1)

theorem indexByte_idxB (c : UInt8) : ∀ l : List UInt8, Lib.indexByte l c = (match idxB c l with | some i => ((i : Nat) : Int) | none => -1)
  | [] => rfl
  | b :: l => by
    simp only [Lib.indexByte, idxB]
    by_cases h : b = c
    · subst h; simp
    · rw [if_neg h, if_neg (by simpa using h), indexByte_idxB c l]
      cases idxB c l with
      | none => rfl
      | some i =>
        simp only [Option.map_some]
        rw [if_neg (by simp)]
        simp

theorem idxB_lt {c : UInt8} : ∀ {l : List UInt8} {i : Nat}, idxB c l = some i → i < l.length
  | [], _, h => by cases h
  | b :: l, i, h => by
    simp only [idxB] at h
    split at h
    · cases h; simp
    · cases hl : idxB c l with
      | none => rw [hl] at h; cases h
      | some j =>
        rw [hl] at h; cases h
        have := idxB_lt hl
        simp; omega
theorem idxB_none {c : UInt8} : ∀ {l : List UInt8}, idxB c l = none ↔ c ∉ l
  | [] => by simp [idxB]
  | b :: l => by
    simp only [idxB, List.mem_cons, not_or]
    by_cases h : b = c
    · subst h; simp
    · rw [if_neg h]
      simp [idxB_none (l := l), show ¬ c = b from fun e => h e.symm]

/-- A text in the parts between a byte. -/
def splitB (c : UInt8) : List UInt8 → List (List UInt8)
  | [] => [[]]
  | b :: l => if b = c then [] :: splitB c l else match splitB c l with
    | p :: ps => (b :: p) :: ps
    | [] => [[b]]

theorem splitB_some {c : UInt8} : ∀ {l : List UInt8} {i : Nat}, idxB c l = some i → splitB c l = l.take i :: splitB c (l.drop (i + 1))
  | [], _, h => by cases h
  | b :: l, i, h => by
    simp only [idxB] at h
    split at h
    · rename_i hb; cases h; simp [splitB, hb]
    · rename_i hb
      cases hl : idxB c l with
      | none => rw [hl] at h; cases h
      | some j =>
        rw [hl] at h; cases h
        simp [splitB, hb, splitB_some hl]
theorem splitB_none {c : UInt8} : ∀ {l : List UInt8}, idxB c l = none → splitB c l = [l]
  | [], _ => rfl
  | b :: l, h => by
    simp only [idxB] at h
    split at h
    · cases h
    · rename_i hb
      have hl : idxB c l = none := by cases hl : idxB c l with
        | none => rfl
        | some j => rw [hl] at h; cases h
      simp [splitB, hb, splitB_none hl]
theorem splitB_length (c : UInt8) : ∀ l : List UInt8, (splitB c l).length = l.count c + 1
  | [] => rfl
  | b :: l => by
    have ih := splitB_length c l
    simp only [splitB, List.count_cons]
    by_cases h : b = c
    · subst h; simp [ih]
    · rw [if_neg h]
      cases hs : splitB c l with
      | nil => rw [hs] at ih; simp at ih
      | cons p ps => rw [hs] at ih; simp [h] at ih ⊢; exact ih

theorem byteNat (c : UInt8) : (((c.toNat : Nat) : Int).toNat.toUInt8) = c := by simp

theorem IndexByteString (l : List UInt8) (c : UInt8) (w : World) :
    Sem.run Tryz.prog (callFunc F.internal_bytealg_IndexByteString #[.string (S l), .int .u8 ((c.toNat : Nat) : Int)]) w = .ok (.value (.int .i64 (Lib.indexByte l c))) w := by
  rw [run_callFunc_extern Tryz.func95 rfl rfl rfl rfl, Lib.run_indexByteString, byteNat]
  rfl
theorem CountString (l : List UInt8) (c : UInt8) (w : World) :
    Sem.run Tryz.prog (callFunc F.internal_bytealg_CountString #[.string (S l), .int .u8 ((c.toNat : Nat) : Int)]) w = .ok (.value (.int .i64 ((l.count c : Nat) : Int))) w := by
  rw [run_callFunc_extern Tryz.func62 rfl rfl rfl rfl, Lib.run_countString, byteNat]
  rfl

theorem IndexLite (l : List UInt8) (c : UInt8) (w : World) : Ret Tryz.prog F.internal_stringslite_Index #[.string (S l), .string (S [c])] w (fun v w' => v = .int .i64 (Lib.indexByte l c) ∧ w = w') := by
  refine W.internal_stringslite_Index_ok (S l) (S [c]) w _ ?_
  unfold W.internal_stringslite_Index
  refine ⟨fun h => ?_, fun _ => ⟨fun _ => ?_, fun h => by have h : true = false := h; cases h⟩⟩
  · rw [S_toList, S_toList] at h
    have h : [c] = l := by
      have : (((ByteArray.size (S [c]) : Nat) : Int) == 0) = false := rfl
      rw [this, Bool.false_or] at h
      exact eq_of_beq h
    subst h
    exact ⟨by simp [Lib.indexByte], rfl⟩
  · refine ⟨by decide, c, rfl, ?_⟩
    refine Calls.mono (W.internal_stringslite_IndexByte_ok (S l) _ w (fun v w' => v = .int .i64 (Lib.indexByte l c) ∧ w = w') ?_) ?_
    · unfold W.internal_stringslite_IndexByte
      exact ⟨_, w, IndexByteString l c w, rfl, rfl⟩
    · rintro _ _ ⟨_, rfl, rfl, rfl⟩
      exact ⟨_, rfl, rfl, rfl⟩

theorem Index1 (l : List UInt8) (c : UInt8) (w : World) : Ret Tryz.prog F.strings_Index #[.string (S l), .string (S [c])] w (fun v w' => v = .int .i64 (Lib.indexByte l c) ∧ w = w') := by
  refine W.strings_Index_ok (S l) (S [c]) w _ ?_
  unfold W.strings_Index
  refine (IndexLite l c w).use ?_
  rintro _ _ ⟨rfl, rfl⟩
  exact ⟨_, rfl, rfl, rfl⟩

theorem Contains1 (l : List UInt8) (c : UInt8) (w : World) : Ret Tryz.prog F.strings_Contains #[.string (S l), .string (S [c])] w (fun v w' => v = .bool (decide (c ∈ l)) ∧ w = w') := by
  refine W.strings_Contains_ok (S l) (S [c]) w _ ?_
  unfold W.strings_Contains
  refine (Index1 l c w).use ?_
  rintro _ _ ⟨rfl, rfl⟩
  refine ⟨_, rfl, ?_, rfl⟩
  rw [indexByte_idxB]
  cases h : idxB c l with
  | none => have := idxB_none.1 h; simp [this]
  | some i =>
    have : c ∈ l := by
      rcases Classical.em (c ∈ l) with h2 | h2
      · exact h2
      · have := idxB_none.2 h2; rw [h] at this; cases this
    simp [this]

/-- A text cut at the first of a byte. -/
def cutB (c : UInt8) (l : List UInt8) : List UInt8 × List UInt8 × Bool := match idxB c l with
  | some i => (l.take i, l.drop (i + 1), true)
  | none => (l, [], false)

theorem Cut1 (l : List UInt8) (c : UInt8) (hl : l.length ≤ 1000000000000) (w : World) : Ret Tryz.prog F.strings_Cut #[.string (S l), .string (S [c])] w
    (fun v w' => v = .tuple #[.string (S (cutB c l).1), .string (S (cutB c l).2.1), .bool (cutB c l).2.2] ∧ Ext w w') := by
  refine W.strings_Cut_ok (S l) (S [c]) w _ ?_
  unfold W.strings_Cut
  refine Calls.mono (W.internal_stringslite_Cut_ok (S l) (S [c]) w (fun v w' => v = .tuple #[.string (S (cutB c l).1), .string (S (cutB c l).2.1), .bool (cutB c l).2.2] ∧ Ext w w') ?_) ?_
  · unfold W.internal_stringslite_Cut Nx
    refine (IndexLite l c w).use ?_
    rintro _ _ ⟨rfl, rfl⟩
    refine ⟨_, rfl, ?_⟩
    rw [indexByte_idxB]
    unfold cutB
    cases h : idxB c l with
    | none => exact ⟨fun h => by simp at h, fun _ => ⟨rfl, .refl _ _⟩⟩
    | some i =>
      have hi := idxB_lt h
      have e1 : ((ByteArray.size (S [c]) : Nat) : Int) = 1 := rfl
      simp only [e1]
      rw [wrapi (n := (i : Int) + 1) (by omega) (by omega), S_size]
      refine ⟨fun _ => ⟨⟨by omega, by omega⟩, ⟨by omega, by omega⟩, ?_, Chg.drew (.refl _ _)⟩, fun h => by simp at h⟩
      have e2 : List.take (l.length - (i + 1)) (List.drop (i + 1) l) = List.drop (i + 1) l := List.take_of_length_le (by simp)
      rw [S_extract, S_extract, show Int.toNat ((i : Int) + 1) = i + 1 by omega, show Int.toNat (i : Int) = i from rfl, e2]
      rfl
  · rintro _ w1 ⟨_, rfl, rfl, hx⟩
    exact ⟨_, _, _, rfl, rfl, hx⟩

def strs (ls : List (List UInt8)) : List Value := ls.map fun p => Value.string (S p)
theorem strs_length (ls : List (List UInt8)) : (strs ls).length = ls.length := by simp [strs]
theorem strs_append (a b : List (List UInt8)) : strs (a ++ b) = strs a ++ strs b := by simp [strs]

theorem zrow_string (n : Nat) : zrow Tryz.prog Ty.string n = (List.replicate n (.string (S []))).toArray := zrow_of (by kernel_rfl) (by kernel_rfl) n

theorem Split1 (l : List UInt8) (c : UInt8) (hl : l.length ≤ 1000000000000) (w : World) : Ret Tryz.prog F.strings_Split #[.string (S l), .string (S [c])] w
    (fun v w' => ∃ s : Sl, v = .slice s.a s.len s.cap ∧ s.len = (splitB c l).length ∧ Src 1 w' s (strs (splitB c l)) ∧ Ext w w') := by
  refine W.strings_Split_ok (S l) (S [c]) w _ ?_
  unfold W.strings_Split
  refine Calls.mono (W.strings_genSplit_ok (S l) (S [c]) 0 (-1) w (fun v w' => ∃ s : Sl, v = .slice s.a s.len s.cap ∧ s.len = (splitB c l).length ∧ Src 1 w' s (strs (splitB c l)) ∧ Ext w w') ?_) ?_
  · unfold W.strings_genSplit Nx
    have hcnt : l.count c ≤ l.length := List.count_le_length
    have hlen := splitB_length c l
    refine ⟨fun h => by simp at h, fun _ => ⟨fun h => ?_, fun _ => ?_⟩⟩
    · exact absurd h (by rw [S_toList, show ByteArray.toList (ByteArray.mk #[]) = [] from ByteArray.toList_mk []]; simp)
    refine Jn1 (fun n w1 => n = ((l.count c + 1 : Nat) : Int) ∧ w = w1) (fun q hq => ⟨fun _ => ?_, fun h => by simp at h⟩) ?_
    · refine Calls.mono (W.strings_Count_ok (S l) (S [c]) w (fun v w' => v = .int .i64 ((l.count c : Nat) : Int) ∧ w = w') ?_) ?_
      · unfold W.strings_Count
        exact ⟨fun h => (by have h : false = true := h; cases h), fun _ => ⟨fun _ => ⟨by decide, c, rfl, _, w, CountString l c w, rfl, rfl⟩, fun h => (by have h : true = false := h; cases h)⟩⟩
      · rintro _ _ ⟨_, rfl, rfl, rfl⟩
        exact ⟨_, rfl, hq _ _ ⟨by rw [wrapi (by omega) (by omega)]; omega, rfl⟩⟩
    rintro _ _ ⟨rfl, rfl⟩
    rw [S_size, wrapi (n := (l.length : Int) + 1) (by omega) (by omega)]
    refine ⟨((l.count c + 1 : Nat) : Int), w, ?_, ?_⟩
    · rw [run_min_int2, if_neg (by omega)]
    obtain ⟨n, hn⟩ : ∃ n, n = l.count c + 1 := ⟨_, rfl⟩
    rw [← hn]
    rw [← hn] at hlen
    have hx1 : Ext w (w.alloc (.cells (zrow Tryz.prog Ty.string n) Ty.string)) := Chg.alloc (.refl _ _) _
    have ho1 : OwnS 1 Ty.string (w.alloc (.cells (zrow Tryz.prog Ty.string n) Ty.string)) ⟨some ⟨w.heap.size, 0, none⟩, n, n⟩ (List.replicate n (.string (S []))) := by
      rw [zrow_string]
      exact OwnS.new w _ n (by simp) (by show n ≤ 2 ^ 63 - 1; omega)
    rw [wrapi (n := (n : Int) - 1) (by omega) (by omega)]
    refine ⟨⟨by omega, by omega, by omega, by omega⟩, ?_⟩
    rw [show Int.toNat (n : Int) = n from rfl]
    refine Jn2 (fun s i w' => ∃ (r : List UInt8) (done : List (List UInt8)), s = S r ∧ i = done.length ∧ splitB c l = done ++ [r] ∧ done.length + 1 = n ∧ Ext w w' ∧ OwnS 1 Ty.string w' ⟨some ⟨w.heap.size, 0, none⟩, n, n⟩ (strs done ++ List.replicate 1 (.string (S [])))) (fun q hq => ?_) ?_
    · refine ⟨fun s i w' => ∃ (r : List UInt8) (done : List (List UInt8)), s = S r ∧ i = done.length ∧ r.length ≤ l.length ∧ splitB c l = done ++ splitB c r ∧ done.length + 1 ≤ n ∧ Ext w w' ∧ OwnS 1 Ty.string w' ⟨some ⟨w.heap.size, 0, none⟩, n, n⟩ (strs done ++ List.replicate (n - done.length) (.string (S []))),
        fun _ i _ => (n - i).toNat, ⟨l, [], rfl, rfl, Nat.le_refl _, rfl, by simp; omega, hx1, by simpa [strs] using ho1⟩, ?_⟩
      rintro _ _ w1 ⟨r, done, rfl, rfl, hrl, hsp, hd, hx, hown⟩
      have hlen2 : done.length + (r.count c + 1) = n := by
        have := congrArg List.length hsp
        rw [List.length_append, splitB_length c r, hlen] at this
        exact this.symm
      refine ⟨fun hlt => ?_, fun hge => ?_⟩
      · have hlt := of_decide_eq_true hlt
        refine (Index1 r c w1).use ?_
        rintro _ _ ⟨rfl, rfl⟩
        refine ⟨_, rfl, ?_⟩
        have hne : c ∈ r := by
          rcases Classical.em (c ∈ r) with h | h
          · exact h
          · have := List.count_eq_zero.2 h; omega
        cases hi : idxB c r with
        | none => exact absurd hne (idxB_none.1 hi)
        | some i =>
          rw [indexByte_idxB, hi]
          have hir := idxB_lt hi
          have e1 : ((ByteArray.size (S [c]) : Nat) : Int) = 1 := rfl
          simp only [e1, Int.add_zero]
          rw [wrapi (n := (i : Int)) (by omega) (by omega), wrapi (n := (i : Int) + 1) (by omega) (by omega), S_size, S_extract, S_extract, show Int.toNat ((i : Int) + 1) = i + 1 by omega, show Int.toNat (i : Int) = i from rfl]
          refine ⟨fun h => (by have := of_decide_eq_true h; omega), fun _ => ⟨⟨by omega, by omega⟩, ?_⟩⟩
          obtain ⟨A, hA, hb, hc, hf, _, hset⟩ := hown.at (i := done.length) (v := .string (S [])) (by
            rw [List.getElem?_append_right (by rw [strs_length]; exact Nat.le_refl _), strs_length]
            rw [Nat.sub_self, show n - done.length = (n - done.length - 1) + 1 by omega]
            rfl)
          obtain rfl : A = ⟨w.heap.size, 0, none⟩ := by simpa using hA.symm
          refine ⟨_, rfl, hb, ⟨_, hc⟩, hf, ⟨by omega, by omega⟩, ⟨r.drop (i + 1), done ++ [r.take i], ?_, ?_, ?_, ?_, ?_, ?_, ?_⟩, ?_⟩
          · rw [List.take_of_length_le (by simp)]
          · rw [wrapi (by omega) (by omega)]; simp
          · simp; omega
          · rw [hsp, splitB_some hi]; simp
          · simp; omega
          · exact hx.set (by rw [add_mk]; exact Nat.le_refl _) _
          · have := hset (.string (S (List.take (i - 0) (List.drop 0 r))))
            rw [Nat.sub_zero, List.drop_zero, List.set_append_right (h := by rw [strs_length]; exact Nat.le_refl _), strs_length, Nat.sub_self, show n - done.length = (n - done.length - 1) + 1 by omega, List.replicate_succ, List.set_cons_zero] at this
            rw [Nat.sub_zero, List.drop_zero, strs_append, List.length_append, List.length_singleton, show n - (done.length + 1) = n - done.length - 1 by omega, List.append_assoc]
            exact this
          · rw [wrapi (by omega) (by omega)]
            show ((n : Int) - ((done.length : Int) + 1)).toNat < ((n : Int) - (done.length : Int)).toNat
            omega
      · have hge := of_decide_eq_false hge
        have h0 : r.count c = 0 := by omega
        have hnone : idxB c r = none := idxB_none.2 (List.count_eq_zero.1 h0)
        rw [splitB_none hnone] at hsp
        refine hq _ _ _ ⟨r, done, rfl, rfl, hsp, by omega, hx, ?_⟩
        rwa [show n - done.length = 1 by omega] at hown
    rintro _ _ w1 ⟨r, done, rfl, rfl, hsp, hd, hx, hown⟩
    obtain ⟨A, hA, hb, hc, hf, _, hset⟩ := hown.at (i := done.length) (v := .string (S [])) (by
      rw [List.getElem?_append_right (by rw [strs_length]; exact Nat.le_refl _), strs_length]
      simp)
    obtain rfl : A = ⟨w.heap.size, 0, none⟩ := by simpa using hA.symm
    rw [wrapi (n := (done.length : Int) + 1) (by omega) (by omega)]
    have hset := hset (.string (S r))
    rw [List.set_append_right (h := by rw [strs_length]; exact Nat.le_refl _), strs_length, Nat.sub_self, List.replicate_one, List.set_cons_zero] at hset
    have hcut : cutA (some ⟨w.heap.size, 0, none⟩) 1 0 n = some ⟨w.heap.size, 0, none⟩ := by
      rw [cut_some (by omega)]
    have e2 : Int.toNat ((done.length : Int) + 1) - 0 = n := by omega
    refine ⟨_, rfl, hb, ⟨_, hc⟩, hf, ⟨by omega, by omega⟩, ⟨some ⟨w.heap.size, 0, none⟩, n, n⟩, by rw [hcut, e2, Nat.sub_zero], hlen.symm, ?_, hx.set (by rw [add_mk]; exact Nat.le_refl _) _⟩
    rw [hsp, strs_append]
    exact hset.src
  · rintro _ w1 ⟨_, rfl, s, rfl, h⟩
    exact ⟨s, rfl, s, rfl, h⟩

end Go.Proofs.YtcjpgabpihkcjaaGreatDoor
