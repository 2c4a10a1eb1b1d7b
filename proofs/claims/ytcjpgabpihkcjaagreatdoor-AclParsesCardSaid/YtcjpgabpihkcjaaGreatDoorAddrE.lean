/- ShowPrefix; the reference's Show and ShowPrefix. -/
import Derived.Test.YtcjpgabpihkcjaaGreatDoorAddrD
namespace Go.Proofs.YtcjpgabpihkcjaaGreatDoor
open Go Gx

theorem joinB_length (c : UInt8) : ∀ ls, (joinB c ls).length ≤ ls.length + sumLen ls
  | [] => by simp [joinB]
  | l :: ls => by rw [joinB_cons, List.length_append, tailB_length]; simp [sumLen]; omega
theorem sumLen_le {k : Nat} : ∀ {ls : List (List UInt8)}, (∀ l ∈ ls, l.length ≤ k) → sumLen ls ≤ k * ls.length
  | [], _ => by simp [sumLen]
  | l :: ls, h => by
    have h1 := h l (by simp)
    have h2 := sumLen_le (ls := ls) (fun m hm => h m (by simp [hm]))
    have : k * (l :: ls).length = k + k * ls.length := by rw [List.length_cons, Nat.mul_add]; omega
    rw [this]
    simp only [sumLen]; omega
theorem words_len (a : Ad) : ∀ l ∈ a.words, l.length ≤ 64 := by
  intro l hl
  obtain ⟨i, hi, rfl⟩ := List.mem_map.1 hl
  have hi := List.mem_range.1 hi
  have hb := beN_lt 2 ((a.b.drop (2 * i)).take 2) (by simp [a.h]; omega)
  exact numB_len64 (by omega) (Nat.lt_trans hb (by decide))
theorem raws_len (a : Ad) : ∀ l ∈ (a.raw.map fun c => numB 10 c.toNat), l.length ≤ 64 := by
  intro l hl
  obtain ⟨c, _, rfl⟩ := List.mem_map.1 hl
  exact numB_len64 (by omega) (Nat.lt_trans (UInt8.toNat_lt c) (by decide))
theorem showA_len (a : Ad) : (showA a).length ≤ 2000 := by
  unfold showA
  have hr := a.raw_length
  have hr16 : a.raw.length ≤ 16 := by rw [hr]; split <;> omega
  split
  · split
    · have := joinB_length 58 a.words
      have := sumLen_le (words_len a)
      have : a.words.length = 8 := by simp [Ad.words]
      omega
    · have := joinB_length 46 (a.raw.map fun c => numB 10 c.toNat)
      have := sumLen_le (raws_len a)
      simp only [List.length_map] at *
      omega
  · simp

/-- A prefix's text. -/
def showP (p : Pf) : List UInt8 := if maskP p.addr p.bits = some p then showA p.addr ++ 47 :: numB 10 p.bits.toNat else []

theorem maskP_bits {a : Ad} {n : Int} {p : Pf} (h : maskP a n = some p) : 0 ≤ n ∧ n ≤ 128 ∧ a.good = true := by
  unfold maskP at h
  split at h
  · rename_i h2
    have hr := a.raw_length
    have hr16 : a.raw.length ≤ 16 := by rw [hr]; split <;> omega
    exact ⟨h2.2.1, by omega, h2.1⟩
  · cases h

theorem maskP_some {a : Ad} {n : Int} {m p : Pf} (h : (maskP a n).isSome = true) : ((maskP a n).getD m = p) ↔ maskP a n = some p := by
  cases hm : maskP a n with
  | none => rw [hm] at h; cases h
  | some q => simp

theorem addr_showPrefix (p : Pf) (w : World) (ht : Tab2 w) : Ret Tryz.prog F.addr_showPrefix #[.agg p.c.toArray] w (fun v w' => v = .string (S (showP p)) ∧ Ext w w') := by
  refine W.addr_showPrefix_ok _ w _ ?_
  unfold W.addr_showPrefix
  refine nxVar (vs := p.c) rfl fun w1 hv hx1 hz1 => ?_
  have hrdA : ∀ w', Var w' w.heap.size p.c Ty.api_Prefix → rdCells w' ⟨w.heap.size, 0, none⟩ 0 17 = some p.addr.c := by
    intro w' h
    rw [h.rdAt (by rw [p.c_length]; decide)]
    simp [Pf.c, List.take_left' p.addr.c_length]
  have hbits : ∀ w', Var w' w.heap.size p.c Ty.api_Prefix → w'.cell? (Addr.add ⟨w.heap.size, 0, none⟩ 17) = some (.int .i64 p.bits) := by
    intro w' h
    rw [add_mk, h.cell, Pf.c, List.getElem?_append_right (by simp [Ad.c_length])]
    simp [Ad.c_length]
  refine ⟨_, hrdA _ hv, _, hbits _ hv, (addr_mask p.addr p.bits w1).use ?_⟩
  rintro _ w4 ⟨rfl, hx4⟩
  have hX4 : Ext w w4 := Ext.trans hx1 hx4
  have hv4 := hv.ext hx4
  refine ⟨_, _, rfl, nxVar (vs := Pf.zero.c) rfl fun w8 hm hx8 hz8 => ⟨hm.storeOk (by simp [Pf.c_length]) (Pf.plain _), by simp [Pf.c_length], nxPut hm (us := ((maskP p.addr p.bits).getD Pf.zero).c) (by simp [Pf.c_length]) rfl fun w9 hm9 hc9 _ => ?_⟩⟩
  have hX9 : Ext w w9 := Ext.of_chg (Ext.trans hX4 hx8) hc9 hX4.size
  have hv9 := (hv4.ext hx8).chg hc9 (by have := hv4.lt; omega)
  refine Jn1 (fun b w' => w9 = w' ∧ b = !decide (maskP p.addr p.bits = some p)) (fun q hq => ⟨fun h => hq _ _ ⟨rfl, ?_⟩, fun h => ?_⟩) ?_
  · cases hmm : maskP p.addr p.bits with
    | none => simp
    | some m => rw [hmm] at h; cases h
  · refine ⟨_, hm9.rd (Pf.c_length _), _, hv9.rd (Pf.c_length _), _, eqPf _ _, hq _ _ ⟨rfl, ?_⟩⟩
    congr 1
    rw [decide_eq_decide]
    exact maskP_some (by simpa using h)
  rintro _ _ ⟨rfl, rfl⟩
  unfold showP
  refine ⟨fun h => ?_, fun h => ?_⟩
  · have h : ¬ maskP p.addr p.bits = some p := by simpa using h
    rw [if_neg h]
    exact ⟨rfl, hX9⟩
  · have h : maskP p.addr p.bits = some p := by simpa using h
    rw [if_pos h]
    obtain ⟨hb0, hb1, _⟩ := maskP_bits h
    refine nx ⟨fun _ => False, id, _, hrdA _ hv9.drew, id, _, hbits _ hv9.drew, (addr_show p.addr _ ((ht.ext hX9).ext (Chg.drew (.refl _ _)))).use ?_⟩
    rintro _ w20 ⟨rfl, hx20⟩
    have hl1 := showA_len p.addr
    have hl2 := numB_len64 (b := 10) (n := p.bits.toNat) (by omega) (by show _ < 18446744073709551616; omega)
    have hX20 : Ext w w20 := Ext.trans (Ext.trans hX9 (Chg.drew (.refl _ _))) hx20
    refine ⟨_, rfl, hx20, ?_, ?_⟩
    · show (((S (showA p.addr)).size + 1 : Nat) : Int) ≤ _
      rw [S_size]; omega
    have hbn : p.bits = ((p.bits.toNat : Nat) : Int) := by omega
    rw [hbn]
    refine (Itoa p.bits.toNat (by show _ < 9223372036854775808; omega) w20 (ht.ext hX20).pow).use ?_
    rintro _ w23 ⟨rfl, hx23⟩
    have e : S (showA p.addr) ++ ByteArray.mk #[47] = S (showA p.addr ++ [47]) := S_append _ [47]
    refine ⟨_, rfl, hx23, ?_, ?_, Ext.trans hX20 hx23⟩
    · rw [e, S_size, S_size]; simp; omega
    · rw [e, S_append, ← hbn]; simp

/-! ### The reference -/
/-- The first texts, with the byte behind each but the last of n. -/
def preJ (c : UInt8) (n : Nat) (ls : List (List UInt8)) : Nat → List UInt8
  | 0 => []
  | k + 1 => preJ c n ls k ++ (ls.getD k [] ++ if k + 1 < n then [c] else [])
theorem preJ_rest (c : UInt8) (ls : List (List UInt8)) : ∀ k, k < ls.length → preJ c ls.length ls k ++ joinB c (ls.drop k) = joinB c ls
  | 0, _ => rfl
  | k + 1, h => by
    have ih := preJ_rest c ls k (by omega)
    rw [← ih]
    have e1 : ls.drop k = ls[k] :: ls.drop (k + 1) := List.drop_eq_getElem_cons (by omega)
    have e2 : ls.drop (k + 1) = ls[k + 1] :: ls.drop (k + 2) := List.drop_eq_getElem_cons h
    have e3 : ls.getD k [] = ls[k] := by simp [List.getD, show k < ls.length by omega]
    rw [e1, preJ, e3, if_pos h, e2]
    simp [joinB]
theorem preJ_all (c : UInt8) (ls : List (List UInt8)) (h : ls ≠ []) : preJ c ls.length ls ls.length = joinB c ls := by
  have hp := List.length_pos_iff.2 h
  obtain ⟨k, hk⟩ : ∃ k, ls.length = k + 1 := ⟨ls.length - 1, by omega⟩
  have h1 := preJ_rest c ls k (by omega)
  have e1 : ls.drop k = [ls[k]] := by
    rw [List.drop_eq_getElem_cons (by omega), List.drop_of_length_le (by omega)]
  have e3 : ls.getD k [] = ls[k] := by simp [List.getD, show k < ls.length by omega]
  rw [e1] at h1
  have e4 : preJ c ls.length ls ls.length = preJ c ls.length ls (k + 1) := congrArg (preJ c ls.length ls) hk
  rw [← h1, e4, preJ, e3, if_neg (by omega)]
  simp [joinB]
theorem preJ_len {c : UInt8} {n : Nat} {ls : List (List UInt8)} (h : ∀ l ∈ ls, l.length ≤ 64) : ∀ k, (preJ c n ls k).length ≤ 65 * k
  | 0 => by simp [preJ]
  | k + 1 => by
    have ih := preJ_len (c := c) (n := n) h k
    have h2 : (ls.getD k []).length ≤ 64 := by
      by_cases hk : k < ls.length
      · have e3 : ls.getD k [] = ls[k] := by simp [List.getD, hk]
        rw [e3]; exact h _ (List.getElem_mem _)
      · have e3 : ls.getD k [] = [] := by simp [List.getD, show ls[k]? = none from List.getElem?_eq_none (by omega)]
        rw [e3]; simp
    simp only [preJ, List.length_append]
    split
    · rw [List.length_singleton]; omega
    · rw [List.length_nil]; omega

theorem beN2 (a : Ad) {k : Nat} (h : k < 8) : beN ((a.b.drop (2 * k)).take 2) = 256 * (a.b[2 * k]'(by rw [a.h]; omega)).toNat + (a.b[2 * k + 1]'(by rw [a.h]; omega)).toNat := by
  have e : (a.b.drop (2 * k)).take 2 = [a.b[2 * k]'(by rw [a.h]; omega), a.b[2 * k + 1]'(by rw [a.h]; omega)] := by
    rw [List.drop_eq_getElem_cons (i := 2 * k) (by rw [a.h]; omega), List.take_succ_cons, List.drop_eq_getElem_cons (i := 2 * k + 1) (by rw [a.h]; omega), List.take_succ_cons, List.take_zero]
  rw [e]
  simp only [beN, List.foldl]
  omega

theorem ref12_Show (a : Ad) (w : World) : Ret Tryz.prog F.ref12_Show #[.agg a.c.toArray] w (fun v w' => v = .string (S (showA a)) ∧ Ext w w') := by
  refine W.ref12_Show_ok _ w _ ?_
  unfold W.ref12_Show
  refine nxVar (vs := a.c) rfl fun w1 hv hx1 hz1 => ⟨a.c, hv.rd a.c_length, (ref12_Good a w1).use ?_⟩
  rintro _ w3 ⟨rfl, hx3⟩
  have hX3 : Ext w w3 := Ext.trans hx1 hx3
  have hv3 := hv.ext hx3
  unfold showA
  refine ⟨_, rfl, fun h => ?_, fun h => ?_⟩
  · have h : a.good = false := by simpa using h
    rw [if_neg (by simp [h])]
    exact ⟨rfl, hX3⟩
  have hg : a.good = true := by simpa using h
  rw [if_pos hg]
  have eA : ∀ k : Nat, Addr.add (Addr.add ⟨w.heap.size, 0, none⟩ 1) (Int.toNat (k : Int) * 1) = ⟨w.heap.size, 1 + k, none⟩ := by intro k; rw [add_mk, add_mk]; simp
  have hwl : a.words.length = 8 := by simp [Ad.words]
  have hw2 := words_len a
  have hr2 := raws_len a
  obtain ⟨rs, hrs⟩ : ∃ rs, rs = a.raw.map fun c => numB 10 c.toNat := ⟨_, rfl⟩
  rw [← hrs] at hr2 ⊢
  refine ⟨fun s i w' => ∃ k : Nat, i = ((12 + k : Nat) : Int) ∧ k ≤ 4 ∧ (a.six = true → k = 0) ∧ Ext w w' ∧ Var w' w.heap.size a.c Ty.api_Addr ∧ s = S (preJ 46 4 rs k), fun _ i _ => ((16 : Int) - i).toNat, ⟨0, rfl, by omega, fun _ => rfl, hX3, hv3, rfl⟩, ?_⟩
  rintro _ _ w10 ⟨k, rfl, hk, hk6, hX, hv10, rfl⟩
  refine Jn1 (fun b w' => w10 = w' ∧ b = (decide (k < 4) && !a.six)) (fun q hq => ⟨fun h => ⟨a.six, hv10.cell, hq _ _ ⟨rfl, ?_⟩⟩, fun h => hq _ _ ⟨rfl, ?_⟩⟩) ?_
  · have h : k < 4 := by have := of_decide_eq_true h; omega
    simp [h]
  · have h : ¬ k < 4 := by have := of_decide_eq_false h; omega
    simp [h]
  rintro _ _ ⟨rfl, rfl⟩
  refine ⟨fun h => ?_, fun h => ?_⟩
  · have h : k < 4 ∧ a.six = false := by simpa using h
    obtain ⟨hlt, h6⟩ := h
    have hrl : a.raw.length = 4 := by rw [a.raw_length, h6]; rfl
    have hraw : a.raw = a.b.drop 12 := by simp [Ad.raw, h6]
    have hcell := a.cB (i := 12 + k) (by omega)
    have hc256 : (a.b[12 + k]'(by rw [a.h]; omega)).toNat < 256 := UInt8.toNat_lt _
    have hgd : rs.getD k [] = numB 10 (a.b[12 + k]'(by rw [a.h]; omega)).toNat := by
      rw [hrs]
      simp [List.getD, hraw, show k < 4 from hlt, a.h]
    have hl1 := preJ_len (c := 46) (n := 4) hr2 k
    have hl2 := numB_len64 (b := 10) (n := (a.b[12 + k]'(by rw [a.h]; omega)).toNat) (by omega) (Nat.lt_trans hc256 (by decide))
    refine Jn1 (fun s w' => Ext w w' ∧ Var w' w.heap.size a.c Ty.api_Addr ∧ s = S (preJ 46 4 rs (k + 1))) (fun q hq => ⟨⟨by omega, by omega⟩, _, by rw [eA, hv10.cell]; exact hcell, ?_⟩) ?_
    · rw [wrapi (n := (((a.b[12 + k]'(by rw [a.h]; omega)).toNat : Nat) : Int)) (by omega) (by omega)]
      refine (ref12_Num 10 (by decide) _ (Nat.lt_trans hc256 (by decide)) w10).use ?_
      rintro _ w17 ⟨rfl, hx17⟩
      have e2 : ∀ l m : List UInt8, (S l ++ S m) ++ ByteArray.mk #[46] = S (l ++ (m ++ [46])) := by
        intro l m; rw [S_append, show ByteArray.mk #[46] = S [46] from rfl, S_append, List.append_assoc]
      refine ⟨_, rfl, by rw [S_size, S_size]; omega, fun h => ⟨?_, hq _ _ ⟨Ext.trans hX hx17, hv10.ext hx17, ?_⟩⟩, fun h => hq _ _ ⟨Ext.trans hX hx17, hv10.ext hx17, ?_⟩⟩
      · rw [S_append, S_size, show (ByteArray.mk #[46]).size = 1 from rfl, List.length_append]; omega
      · have h : k + 1 < 4 := by have := of_decide_eq_true h; omega
        rw [e2, preJ, hgd, if_pos h]
      · have h : ¬ k + 1 < 4 := by have := of_decide_eq_false h; omega
        rw [S_append, preJ, hgd, if_neg h, List.append_nil]
    · rintro _ w21 ⟨hX21, hv21, rfl⟩
      rw [wrapi (n := ((12 + k : Nat) : Int) + 1) (by omega) (by omega)]
      refine ⟨⟨k + 1, by omega, by omega, fun h => (by rw [h6] at h; cases h), hX21, hv21, rfl⟩, ?_⟩
      show ((16 : Int) - (((12 + k : Nat) : Int) + 1)).toNat < ((16 : Int) - ((12 + k : Nat) : Int)).toNat
      omega
  · have hnk : ¬ (k < 4 ∧ a.six = false) := by
      intro h2
      simp [h2] at h
    refine ⟨fun s i w' => ∃ j : Nat, i = j ∧ j ≤ 8 ∧ (a.six = false → j = 0) ∧ Ext w w' ∧ Var w' w.heap.size a.c Ty.api_Addr ∧ s = S (preJ 46 4 rs k ++ preJ 58 8 a.words j), fun _ i _ => ((8 : Int) - i).toNat, ⟨0, rfl, by omega, fun _ => rfl, hX, hv10, by simp [preJ]⟩, ?_⟩
    rintro _ _ w26 ⟨j, rfl, hj, hj6, hX26, hv26, rfl⟩
    refine Jn1 (fun b w' => w26 = w' ∧ b = (decide (j < 8) && a.six)) (fun q hq => ⟨fun h => ⟨a.six, hv26.cell, hq _ _ ⟨rfl, ?_⟩⟩, fun h => hq _ _ ⟨rfl, ?_⟩⟩) ?_
    · have h : j < 8 := by have := of_decide_eq_true h; omega
      simp [h]
    · have h : ¬ j < 8 := by have := of_decide_eq_false h; omega
      simp [h]
    rintro _ _ ⟨rfl, rfl⟩
    refine ⟨fun h => ?_, fun h => ?_⟩
    · have h : j < 8 ∧ a.six = true := by simpa using h
      obtain ⟨hlt, h6⟩ := h
      have hk0 := hk6 h6
      subst hk0
      simp only [preJ, List.nil_append]
      have hc1 := a.cB (i := 2 * j) (by omega)
      have hc2 := a.cB (i := 2 * j + 1) (by omega)
      have hb1 : (a.b[2 * j]'(by rw [a.h]; omega)).toNat < 256 := UInt8.toNat_lt _
      have hb2 : (a.b[2 * j + 1]'(by rw [a.h]; omega)).toNat < 256 := UInt8.toNat_lt _
      have hgd : a.words.getD j [] = numB 16 (256 * (a.b[2 * j]'(by rw [a.h]; omega)).toNat + (a.b[2 * j + 1]'(by rw [a.h]; omega)).toNat) := by
        rw [← beN2 a hlt]
        simp [List.getD, Ad.words, hlt]
      have hl1 := preJ_len (c := 58) (n := 8) hw2 j
      have hl2 := numB_len64 (b := 16) (n := 256 * (a.b[2 * j]'(by rw [a.h]; omega)).toNat + (a.b[2 * j + 1]'(by rw [a.h]; omega)).toNat) (by omega) (by show _ < 18446744073709551616; omega)
      rw [wrapi (n := 2 * (j : Int)) (by omega) (by omega), wrapi (n := 2 * (j : Int) + 1) (by omega) (by omega), show 2 * (j : Int) + 1 = ((2 * j + 1 : Nat) : Int) by omega, show 2 * (j : Int) = ((2 * j : Nat) : Int) by omega, eA, eA]
      refine Jn1 (fun s w' => Ext w w' ∧ Var w' w.heap.size a.c Ty.api_Addr ∧ s = S (preJ 58 8 a.words (j + 1))) (fun q hq => nx ⟨fun _ => False, ⟨by omega, by omega⟩, id, _, by rw [hv26.drew.cell]; exact hc1, ⟨by omega, by omega⟩, id, _, by rw [hv26.drew.cell]; exact hc2, ?_⟩) ?_
      · rw [wrapi (n := (((a.b[2 * j]'(by rw [a.h]; omega)).toNat : Nat) : Int)) (by omega) (by omega), wrapi (n := (((a.b[2 * j + 1]'(by rw [a.h]; omega)).toNat : Nat) : Int)) (by omega) (by omega), wrapi (n := 256 * (((a.b[2 * j]'(by rw [a.h]; omega)).toNat : Nat) : Int)) (by omega) (by omega), wrapi (by omega) (by omega),
          show 256 * (((a.b[2 * j]'(by rw [a.h]; omega)).toNat : Nat) : Int) + (((a.b[2 * j + 1]'(by rw [a.h]; omega)).toNat : Nat) : Int) = ((256 * (a.b[2 * j]'(by rw [a.h]; omega)).toNat + (a.b[2 * j + 1]'(by rw [a.h]; omega)).toNat : Nat) : Int) by omega]
        refine (ref12_Num 16 (by decide) _ (by show _ < 9223372036854775808; omega) _).use ?_
        rintro _ w36 ⟨rfl, hx36⟩
        have hxx : Ext w26 w36 := Ext.trans (Chg.drew (.refl _ _)) hx36
        have e2 : ∀ l m : List UInt8, (S l ++ S m) ++ ByteArray.mk #[58] = S (l ++ (m ++ [58])) := by
          intro l m; rw [S_append, show ByteArray.mk #[58] = S [58] from rfl, S_append, List.append_assoc]
        refine ⟨_, rfl, hx36, by rw [S_size, S_size]; omega, fun h => ⟨?_, hq _ _ ⟨Ext.trans hX26 hxx, hv26.ext hxx, ?_⟩⟩, fun h => hq _ _ ⟨Ext.trans hX26 hxx, hv26.ext hxx, ?_⟩⟩
        · rw [S_append, S_size, show (ByteArray.mk #[58]).size = 1 from rfl, List.length_append]; omega
        · have h : j + 1 < 8 := by have := of_decide_eq_true h; omega
          rw [e2, preJ, hgd, if_pos h]
        · have h : ¬ j + 1 < 8 := by have := of_decide_eq_false h; omega
          rw [S_append, preJ, hgd, if_neg h, List.append_nil]
      · rintro _ w40 ⟨hX40, hv40, rfl⟩
        rw [wrapi (n := (j : Int) + 1) (by omega) (by omega)]
        refine ⟨⟨j + 1, by omega, by omega, fun h => (by rw [h6] at h; cases h), hX40, hv40, by simp [preJ]⟩, ?_⟩
        show ((8 : Int) - ((j : Int) + 1)).toNat < ((8 : Int) - (j : Int)).toNat
        omega
    · have h2 : ¬ (j < 8 ∧ a.six = true) := by
        intro h3
        simp [h3] at h
      refine ⟨?_, hX26⟩
      cases h6 : a.six
      · have hk4 : k = 4 := by
          rcases Classical.em (k < 4) with h3 | h3
          · exact absurd ⟨h3, h6⟩ hnk
          · omega
        have hj0 := hj6 h6
        subst hk4 hj0
        have hrl : rs.length = 4 := by rw [hrs, List.length_map, a.raw_length, h6]; rfl
        have := preJ_all 46 rs (by intro e; rw [e] at hrl; simp at hrl)
        rw [hrl] at this
        simp [preJ] at this ⊢
        rw [← this]
      · have hj8 : j = 8 := by
          rcases Classical.em (j < 8) with h3 | h3
          · exact absurd ⟨h3, h6⟩ h2
          · omega
        have hk0 := hk6 h6
        subst hj8 hk0
        have := preJ_all 58 a.words (by intro e; rw [e] at hwl; simp at hwl)
        rw [hwl] at this
        rw [this]
        simp [preJ]

theorem ref12_ShowPrefix (p : Pf) (w : World) : Ret Tryz.prog F.ref12_ShowPrefix #[.agg p.c.toArray] w (fun v w' => v = .string (S (showP p)) ∧ Ext w w') := by
  refine W.ref12_ShowPrefix_ok _ w _ ?_
  unfold W.ref12_ShowPrefix
  refine nxVar (vs := p.c) rfl fun w1 hv hx1 hz1 => ?_
  have hrdA : ∀ w', Var w' w.heap.size p.c Ty.api_Prefix → rdCells w' ⟨w.heap.size, 0, none⟩ 0 17 = some p.addr.c := by
    intro w' h
    rw [h.rdAt (by rw [p.c_length]; decide)]
    simp [Pf.c, List.take_left' p.addr.c_length]
  have hbits : ∀ w', Var w' w.heap.size p.c Ty.api_Prefix → w'.cell? (Addr.add ⟨w.heap.size, 0, none⟩ 17) = some (.int .i64 p.bits) := by
    intro w' h
    rw [add_mk, h.cell, Pf.c, List.getElem?_append_right (by simp [Ad.c_length])]
    simp [Ad.c_length]
  refine ⟨_, hrdA _ hv, _, hbits _ hv, (ref12_Mask p.addr p.bits w1).use ?_⟩
  rintro _ w4 ⟨rfl, hx4⟩
  have hX4 : Ext w w4 := Ext.trans hx1 hx4
  have hv4 := hv.ext hx4
  refine ⟨_, _, rfl, nxVar (vs := Pf.zero.c) rfl fun w8 hm hx8 hz8 => ⟨hm.storeOk (by simp [Pf.c_length]) (Pf.plain _), by simp [Pf.c_length], nxPut hm (us := ((maskP p.addr p.bits).getD Pf.zero).c) (by simp [Pf.c_length]) rfl fun w9 hm9 hc9 _ => ?_⟩⟩
  have hX9 : Ext w w9 := Ext.of_chg (Ext.trans hX4 hx8) hc9 hX4.size
  have hv9 := (hv4.ext hx8).chg hc9 (by have := hv4.lt; omega)
  refine Jn1 (fun b w' => w9 = w' ∧ b = !decide (maskP p.addr p.bits = some p)) (fun q hq => ⟨fun h => hq _ _ ⟨rfl, ?_⟩, fun h => ?_⟩) ?_
  · cases hmm : maskP p.addr p.bits with
    | none => simp
    | some m => rw [hmm] at h; cases h
  · refine ⟨_, hm9.rd (Pf.c_length _), _, hv9.rd (Pf.c_length _), _, eqPf _ _, hq _ _ ⟨rfl, ?_⟩⟩
    congr 1
    rw [decide_eq_decide]
    exact maskP_some (by simpa using h)
  rintro _ _ ⟨rfl, rfl⟩
  unfold showP
  refine ⟨fun h => ?_, fun h => ?_⟩
  · have h : ¬ maskP p.addr p.bits = some p := by simpa using h
    rw [if_neg h]
    exact ⟨rfl, hX9⟩
  · have h : maskP p.addr p.bits = some p := by simpa using h
    rw [if_pos h]
    obtain ⟨hb0, hb1, _⟩ := maskP_bits h
    refine nx ⟨fun _ => False, id, _, hrdA _ hv9.drew, id, _, hbits _ hv9.drew, (ref12_Show p.addr _).use ?_⟩
    rintro _ w20 ⟨rfl, hx20⟩
    have hl1 := showA_len p.addr
    have hl2 := numB_len64 (b := 10) (n := p.bits.toNat) (by omega) (by show _ < 18446744073709551616; omega)
    have hX20 : Ext w w20 := Ext.trans (Ext.trans hX9 (Chg.drew (.refl _ _))) hx20
    refine ⟨_, rfl, hx20, ?_, ?_⟩
    · show (((S (showA p.addr)).size + 1 : Nat) : Int) ≤ _
      rw [S_size]; omega
    have hbn : p.bits = ((p.bits.toNat : Nat) : Int) := by omega
    rw [hbn]
    refine (ref12_Num 10 (by decide) p.bits.toNat (by show _ < 9223372036854775808; omega) w20).use ?_
    rintro _ w23 ⟨rfl, hx23⟩
    have e : S (showA p.addr) ++ ByteArray.mk #[47] = S (showA p.addr ++ [47]) := S_append _ [47]
    refine ⟨_, rfl, hx23, ?_, ?_, Ext.trans hX20 hx23⟩
    · rw [e, S_size, S_size]; simp; omega
    · rw [e, S_append, ← hbn]; simp

end Go.Proofs.YtcjpgabpihkcjaaGreatDoor
