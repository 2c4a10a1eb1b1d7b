/- The texts of addresses and prefixes: Show, ShowPrefix, in the program and in the reference. -/
import Derived.Test.YtcjpgabpihkcjaaGreatDoorAddrC
namespace Go.Proofs.YtcjpgabpihkcjaaGreatDoor
open Go Gx

/-- The tables and variables of the library. -/
structure Tab2 (w : World) : Prop where
  pow : TabPow w
  bru : TabBru w
theorem Tab2.ext {w w' : World} (h : Tab2 w) (hx : Ext w w') : Tab2 w' := ⟨h.pow.ext hx, h.bru.ext hx⟩
structure Tabs (w : World) : Prop where
  tab : Tab2 w
  errs : Errs w
theorem Tabs.ext {w w' : World} (h : Tabs w) (hx : Ext w w') : Tabs w' := ⟨h.tab.ext hx, h.errs.ext hx⟩

theorem numB_len64 {b n : Nat} (hb : 2 ≤ b) (hn : n < 2 ^ 64) : (numB b n).length ≤ 64 :=
  numB_len b 63 hb n (Nat.lt_of_lt_of_le hn (Nat.pow_le_pow_left hb 64))

def tabHex : ByteArray := ByteArray.mk #[48, 49, 50, 51, 52, 53, 54, 55, 56, 57, 97, 98, 99, 100, 101, 102]
theorem ref12_Num (b : Nat) (hb : 2 ≤ b ∧ b ≤ 16) (n : Nat) : n < 2 ^ 63 → ∀ w : World, Ret Tryz.prog F.ref12_Num #[.int .i64 n, .int .i64 b] w (fun v w' => v = .string (S (numB b n)) ∧ Ext w w') := by
  induction n using Nat.strongRecOn with
  | ind n ih =>
    intro hn w
    have hn : n < 9223372036854775808 := hn
    refine W.ref12_Num_ok n b w _ ?_
    unfold W.ref12_Num
    refine ⟨fun h => ?_, fun h => ?_⟩
    · have h : n < b := by have := of_decide_eq_true h; omega
      rw [wrapi (n := (n : Int) + 1) (by omega) (by omega), numB_lt h]
      refine ⟨⟨by omega, ?_⟩, ⟨by omega, by omega⟩, ?_, .refl _ _⟩
      · show (n : Int) + 1 ≤ ((16 : Nat) : Int); omega
      · have e : ∀ i : Nat, i < 16 → (tabHex.extract i (i + 1)).data = (S [dig i]).data := by decide +kernel
        have := ByteArray.ext (e n (by omega))
        rw [← this]
        rfl
    · have h : b ≤ n := by have := of_decide_eq_false h; omega
      have hd : n / b < n := Nat.div_lt_self (by omega) (by omega)
      have hm : n % b < b := Nat.mod_lt _ (by omega)
      have e1 : Int.tdiv (n : Int) (b : Int) = ((n / b : Nat) : Int) := by rw [tdiv_nn (by omega)]; rfl
      have e2 : Int.tmod (n : Int) (b : Int) = ((n % b : Nat) : Int) := by rw [tmod_nn (by omega)]; rfl
      have hge := numB_ge hb.1 h
      rw [e1, e2]
      clear e1 e2
      generalize hq : n / b = q at *
      generalize hr : n % b = r at *
      rw [wrapi (n := (q : Int)) (by omega) (by omega)]
      refine nx ⟨fun _ => False, by omega, by omega, (ih _ hd (by show q < 9223372036854775808; omega) _).use ?_⟩
      rintro _ w3 ⟨rfl, hx3⟩
      refine ⟨_, rfl, (ih _ (by omega) (by show r < 9223372036854775808; omega) _).use ?_⟩
      rintro _ w6 ⟨rfl, hx6⟩
      have l1 := numB_len64 hb.1 (n := q) (by show q < 18446744073709551616; omega)
      have l2 := numB_len64 hb.1 (n := r) (by show r < 18446744073709551616; omega)
      refine ⟨_, rfl, by rw [S_size, S_size]; omega, ?_, Ext.trans (Ext.trans (Chg.drew (.refl _ _)) hx3) hx6⟩
      rw [S_append, numB_lt hm, ← hge]

/-! ### Numbers of bytes -/
theorem Src.sub {w : World} {s : Sl} {vs : List Value} {lo hi : Nat} (h : Src 1 w s vs) (hc : s.len ≤ s.cap) (h1 : lo ≤ hi) (h2 : hi ≤ s.len) : Src 1 w ⟨cutA s.a 1 lo s.cap, hi - lo, s.cap - lo⟩ ((vs.drop lo).take (hi - lo)) := by
  have hl : vs.length = s.len := by have := h.len; omega
  refine ⟨by simp; omega, fun hn => ?_, fun a ha => ?_⟩
  · have hsa : s.a = none := by
      unfold cutA at hn
      split at hn
      · exact hn
      · simpa using hn
    simp [h.nil hsa]
  · show rdCells w a 0 ((hi - lo) * 1) = _
    by_cases e : hi = lo
    · rw [show hi - lo = 0 by omega]; simp [rdCells]
    · have hA : ∃ A, s.a = some A ∧ a = A.add lo := by
        unfold cutA at ha
        rw [if_neg (by omega)] at ha
        cases hs : s.a with
        | none => rw [hs] at ha; cases ha
        | some A => rw [hs] at ha; exact ⟨A, rfl, by simpa using ha.symm⟩
      obtain ⟨A, hA, rfl⟩ := hA
      have hr := h.rd A hA
      have := rdCells_of (w := w) (A := A.add lo) ((vs.drop lo).take (hi - lo)) 0 (fun j v hj => by
        rw [add_add]
        have hj2 : j < hi - lo := by have := (List.getElem?_eq_some_iff.1 hj).1; simp at this; omega
        rw [List.getElem?_take_of_lt hj2, List.getElem?_drop] at hj
        have := rdCells_get hr hj
        simpa using this)
      have e2 : ((vs.drop lo).take (hi - lo)).length = hi - lo := by simp; omega
      rw [e2] at this
      rw [Nat.mul_one]
      exact this

/-- The number that bytes are, the first the highest. -/
def beN (l : List UInt8) : Nat := l.foldl (fun n c => n * 256 + c.toNat) 0
theorem beN_append (l m : List UInt8) : beN (l ++ m) = m.foldl (fun n c => n * 256 + c.toNat) (beN l) := by simp [beN, List.foldl_append]
theorem beN_snoc (l : List UInt8) (c : UInt8) : beN (l ++ [c]) = beN l * 256 + c.toNat := by rw [beN_append]; rfl
theorem beN_lt : ∀ (k : Nat) (l : List UInt8), l.length = k → beN l < 256 ^ k := by
  intro k
  induction k with
  | zero => intro l h; rw [List.length_eq_zero_iff.1 h]; simp [beN]
  | succ k ih =>
    intro l h
    obtain ⟨m, c, rfl⟩ : ∃ m c, l = m ++ [c] := by
      rcases List.eq_nil_or_concat l with rfl | ⟨m, c, hm⟩
      · simp at h
      · exact ⟨m, c, by rw [hm, List.concat_eq_append]⟩
    rw [beN_snoc, Nat.pow_succ]
    have := ih m (by simpa using h)
    have := UInt8.toNat_lt c
    omega

theorem bOr64 {a b : Nat} (ha : a < 2 ^ 64) (hb : b < 2 ^ 64) : bOr .u64 (a : Int) (b : Int) = ((a ||| b : Nat) : Int) := by
  have e1 : BitVec.ofInt 64 (a : Int) = BitVec.ofNat 64 a := by simp
  have e2 : BitVec.ofInt 64 (b : Int) = BitVec.ofNat 64 b := by simp
  unfold bOr
  show IntKind.u64.wrap (((BitVec.ofInt 64 (a : Int) ||| BitVec.ofInt 64 (b : Int)).toNat : Nat) : Int) = _
  rw [e1, e2, BitVec.toNat_or, BitVec.toNat_ofNat, BitVec.toNat_ofNat, Nat.mod_eq_of_lt ha, Nat.mod_eq_of_lt hb]
  have : a ||| b < 2 ^ 64 := Nat.or_lt_two_pow ha hb
  have : a ||| b < 18446744073709551616 := this
  rw [wr64 (by omega) (by omega)]
theorem or_byte (n c : Nat) (hc : c < 256) : n * 256 ||| c = n * 256 + c := by
  have := Nat.shiftLeft_add_eq_or_of_lt (i := 8) (b := c) (by simpa using hc) n
  rw [Nat.shiftLeft_eq] at this
  exact this.symm

theorem num_Get {s : Sl} {l : List UInt8} {w : World} (hs : Src 1 w s (u8s l)) (hc : s.len ≤ s.cap) {a k : Nat} (hk : 1 ≤ k ∧ k ≤ 8) (ha : a + k ≤ l.length) (hl : l.length ≤ 1000000000000) :
    Ret Tryz.prog F.num_Get #[.slice s.a s.len s.cap, .int .i64 a, .int .i64 k] w (fun v w' => v = .tuple #[.int .u64 ((beN ((l.drop a).take k) : Nat) : Int), .bool true] ∧ w = w') := by
  refine W.num_Get_ok s a k w _ ?_
  unfold W.num_Get
  have hsl : s.len = l.length := by have := hs.len; rw [u8s_length] at this; omega
  refine Calls.mono (W.num_cut_ok s a k w (fun v w' => v = .tuple #[.slice (cutA s.a 1 a s.cap) k (s.cap - a), .bool true] ∧ w = w') ?_) ?_
  · unfold W.num_cut
    rw [wrapi (n := ((s.len : Nat) : Int) - (a : Int)) (by omega) (by omega), wrapi (n := (a : Int) + (k : Int)) (by omega) (by omega)]
    refine ⟨fun h => ?_, fun _ => ⟨⟨by omega, by omega⟩, ⟨by omega, by omega⟩, ?_, rfl⟩⟩
    · simp only [Bool.or_eq_true, decide_eq_true_eq] at h; omega
    · rw [show Int.toNat ((a : Int) + (k : Int)) - Int.toNat (a : Int) = k by omega]; rfl
  rintro _ _ ⟨_, rfl, rfl, rfl⟩
  refine ⟨⟨cutA s.a 1 a s.cap, k, s.cap - a⟩, true, rfl, Jn1 (fun b w' => b = false ∧ w = w') (fun q hq => ⟨fun h => by simp at h, fun _ => ?_⟩) ?_⟩
  · refine Calls.mono (W.num_good_ok k w (fun v w' => v = .bool true ∧ w = w') ⟨?_, rfl⟩) ?_
    · have h1 : decide ((k : Int) ≥ 1) = true := decide_eq_true (by omega)
      have h2 : decide ((k : Int) ≤ 8) = true := decide_eq_true (by omega)
      rw [h1, h2]; rfl
    · rintro _ _ ⟨_, rfl, rfl, rfl⟩
      exact ⟨_, rfl, hq _ _ ⟨rfl, rfl⟩⟩
  rintro _ _ ⟨rfl, rfl⟩
  have hsub := Src.sub hs hc (lo := a) (hi := a + k) (by omega) (by omega)
  rw [show a + k - a = k by omega] at hsub
  have hsub : Src 1 w ⟨cutA s.a 1 a s.cap, k, s.cap - a⟩ (u8s ((l.drop a).take k)) := by
    simpa [u8s, List.map_drop, List.map_take] using hsub
  obtain ⟨m, hm⟩ : ∃ m, m = (l.drop a).take k := ⟨_, rfl⟩
  have hml : m.length = k := by rw [hm]; simp; omega
  rw [← hm] at hsub ⊢
  refine ⟨fun h => by simp at h, fun _ => ⟨fun n i w' => w = w' ∧ ∃ j : Nat, i = j ∧ j ≤ k ∧ n = ((beN (m.take j) : Nat) : Int), fun _ i _ => ((k : Int) - i).toNat, ⟨rfl, 0, rfl, Nat.zero_le _, rfl⟩, ?_⟩⟩
  rintro _ _ _ ⟨rfl, j, rfl, hj, rfl⟩
  refine ⟨fun hlt => ?_, fun hge => ?_⟩
  · have hlt : ((j : Int) < ((k : Nat) : Int)) := of_decide_eq_true hlt
    have hlt : j < k := by omega
    obtain ⟨A, hA, hb, hcell⟩ := hsub.at (u8s_get (l := m) (i := j) (by omega))
    have h1 := beN_lt j (m.take j) (by simp; omega)
    have h2 : 256 ^ j ≤ 256 ^ 7 := Nat.pow_le_pow_right (by omega) (by omega)
    have h2 : 256 ^ j ≤ 72057594037927936 := h2
    have hc256 : (m[j]).toNat < 256 := UInt8.toNat_lt _
    have e1 : ((beN (m.take j) : Nat) : Int) * 2 ^ (min (Int.toNat 8) 64) = ((beN (m.take j) * 256 : Nat) : Int) := by
      show ((beN (m.take j) : Nat) : Int) * 256 = _; omega
    refine ⟨A, hA, hb, _, hcell, by decide, ?_⟩
    rw [e1, wr64 (n := ((beN (m.take j) * 256 : Nat) : Int)) (by omega) (by omega), wr64 (n := ((m[j].toNat : Nat) : Int)) (by omega) (by omega), bOr64 (by show _ < 18446744073709551616; omega) (by show _ < 18446744073709551616; omega), or_byte _ _ hc256, wrapi (n := (j : Int) + 1) (by omega) (by omega)]
    refine ⟨⟨rfl, j + 1, by omega, by omega, ?_⟩, ?_⟩
    · rw [take_succ m (by omega), beN_snoc]
    · show ((k : Int) - ((j : Int) + 1)).toNat < ((k : Int) - (j : Int)).toNat
      omega
  · have hge : ¬ ((j : Int) < ((k : Nat) : Int)) := of_decide_eq_false hge
    have hge : j = k := by omega
    subst hge
    exact ⟨by rw [List.take_of_length_le (by omega)], rfl⟩

/-! ### Show -/
def Ad.words (a : Ad) : List (List UInt8) := (List.range 8).map fun i => numB 16 (beN ((a.b.drop (2 * i)).take 2))
def showA (a : Ad) : List UInt8 := if a.good then (if a.six then joinB 58 a.words else joinB 46 (a.raw.map fun c => numB 10 c.toNat)) else []

theorem appStr : AppT Tryz.prog Ty.Sl_string Ty.string 1 16 := ⟨by kernel_rfl⟩
theorem strs_plain (ls : List (List UInt8)) : ∀ v ∈ strs ls, Plain v := by
  intro v hv
  obtain ⟨n, _, rfl⟩ := List.mem_map.1 hv
  trivial

/-- One text more in a list of the call's own. -/
theorem pushStr {w : World} {s : Sl} {ls : List (List UInt8)} (l : List UInt8) (ho : OwnS 1 Ty.string w s (strs ls)) (hn : ls.length ≤ 1000000) :
    ∃ (s' : Sl) (w' : World), Sem.run Tryz.prog (Builtin.append_ #[Ty.Sl_string, Ty.Sl_string] Ty.Sl_string #[.slice s.a s.len s.cap, .slice (some ⟨w.heap.size, 0, none⟩) 1 1]) (w.alloc (.cells #[.string (S l)] Ty.string)) = .ok (.slice s'.a s'.len s'.cap) w' ∧
      OwnS 1 Ty.string w' s' (strs (ls ++ [l])) ∧ Chg (ownB s) w w' ∧ (∀ k, ownB s' k → ownB s k ∨ w.heap.size ≤ k) := by
  have hsl : s.len = ls.length := by have := ho.1; rw [strs_length] at this; omega
  obtain ⟨s', w', h1, h2, h3, h4, h5⟩ := appStr.push (oT := Ty.Sl_string) (w := w) (s := s) (xs := [.string (S l)]) rfl ho (fun v hv => by rw [List.mem_singleton.1 hv]; trivial) (by omega)
  exact ⟨s', w', h1, by rw [strs_append]; exact h2, h4, h5⟩

theorem addr_show (a : Ad) (w : World) (ht : Tab2 w) : Ret Tryz.prog F.addr_show #[.agg a.c.toArray] w (fun v w' => v = .string (S (showA a)) ∧ Ext w w') := by
  refine W.addr_show_ok _ w _ ?_
  unfold W.addr_show
  refine nxVar (vs := a.c) rfl fun w1 hv hx1 hz1 => ⟨a.c, hv.rd a.c_length, (addr_good a w1).use ?_⟩
  rintro _ w3 ⟨rfl, hx3⟩
  have hX3 : Ext w w3 := Ext.trans hx1 hx3
  have hv3 := hv.ext hx3
  unfold showA
  refine ⟨_, rfl, fun h => ?_, fun h => ?_⟩
  · have h : a.good = false := by simpa using h
    rw [if_neg (by simp [h])]
    exact ⟨rfl, hX3⟩
  have hg : a.good = true := by simpa using h
  rw [if_pos hg]
  refine ⟨a.six, hv3.cell, fun h6 => ?_, fun h6 => ?_⟩
  · have h6 : a.six = false := by simpa using h6
    rw [if_neg (by simp [h6])]
    refine ⟨a.c, hv3.rd a.c_length, (addr_raw a w3).use ?_⟩
    rintro _ w8 ⟨s, rfl, hsl, hsc, hs, hx8⟩
    have hX8 : Ext w w8 := Ext.trans hX3 hx8
    have hrl : a.raw.length = 4 := by rw [a.raw_length, h6]; rfl
    have hml : ∀ k, k ≤ 4 → ((a.raw.map fun c => numB 10 c.toNat).take k).length = k := by intro k hk; simp [hrl]; omega
    refine ⟨s, rfl, fun t i w' => ∃ k : Nat, i = k ∧ k ≤ 4 ∧ Ext w w' ∧ Ext w8 w' ∧ (∀ q, ownB t q → w8.heap.size ≤ q) ∧ OwnS 1 Ty.string w' t (strs ((a.raw.map fun c => numB 10 c.toNat).take k)), fun _ i _ => ((4 : Int) - i).toNat, ⟨0, rfl, by omega, hX8, .refl _ _, fun q hq => (ownB_none q hq).elim, OwnS.none _ _ _⟩, ?_⟩
    rintro t _ w15 ⟨k, rfl, hk, hX, hY, hf, ho⟩
    refine ⟨fun hlt => ?_, fun hge => ?_⟩
    · have hlt : k < 4 := by have := of_decide_eq_true hlt; omega
      obtain ⟨A, hA, hb, hcell⟩ := (hs.ext hY).at (u8s_get (l := a.raw) (i := k) (by omega))
      have hc256 : (a.raw[k]'(by omega)).toNat < 256 := UInt8.toNat_lt _
      rw [wrapi (n := (k : Int) + 1) (by omega) (by omega)]
      refine ⟨A, hA, hb, _, hcell, ?_⟩
      rw [wrapi (n := (((a.raw[k]'(by omega)).toNat : Nat) : Int)) (by omega) (by omega)]
      refine (Itoa _ (by show _ < 9223372036854775808; omega) w15 (ht.ext hX).pow).use ?_
      rintro _ w18 ⟨rfl, hx18⟩
      obtain ⟨t', w23, h1, h2, h3, h4⟩ := pushStr (numB 10 (a.raw[k]'(by omega)).toNat) (ho.ext hx18) (by rw [hml k hk]; omega)
      refine ⟨_, rfl, nx ⟨t', w23, h1, ⟨k + 1, by omega, by omega, ?_, ?_, fun q hq => ?_, ?_⟩, ?_⟩⟩
      · exact Ext.of_new (Ext.trans hX hx18) h3 (fun q hq => Nat.le_trans hX8.size (hf q hq))
      · exact Ext.of_new (Ext.trans hY hx18) h3 hf
      · rcases h4 q hq with h | h
        · exact hf q h
        · exact Nat.le_trans (Ext.trans hY hx18).size h
      · rw [take_succ _ (by simp [hrl]; omega)]
        simpa using h2
      · show ((4 : Int) - ((k : Int) + 1)).toNat < ((4 : Int) - (k : Int)).toNat
        omega
    · have hge : k = 4 := by have := of_decide_eq_false hge; omega
      subst hge
      rw [List.take_of_length_le (by simp [hrl])] at ho
      have hsum : sumLen (a.raw.map fun c => numB 10 c.toNat) ≤ 64 * 4 := by
        have : ∀ l : List UInt8, sumLen (l.map fun c => numB 10 c.toNat) ≤ 64 * l.length := by
          intro l
          induction l with
          | nil => exact Nat.le_refl _
          | cons c l ih =>
            have := numB_len64 (b := 10) (n := c.toNat) (by omega) (by have := UInt8.toNat_lt c; show _ < 18446744073709551616; omega)
            simp only [List.map_cons, sumLen, List.length_cons]; omega
        have := this a.raw
        rwa [hrl] at this
      refine (Join1 (a.raw.map fun c => numB 10 c.toNat) 46 ho.src ho.2.1 (by simp [hrl]) (by omega)).use ?_
      rintro _ w24 ⟨rfl, hx24⟩
      exact ⟨_, rfl, rfl, Ext.trans hX hx24⟩
  · have h6 : a.six = true := by simpa using h6
    rw [if_pos h6]
    have hwl : a.words.length = 8 := by simp [Ad.words]
    have e : cutA (some (Addr.add ⟨w.heap.size, 0, none⟩ 1)) 1 0 16 = some ⟨w.heap.size, 1, none⟩ := by rw [add_mk, cut_some (by decide)]
    have hsrc : Src 1 w3 ⟨some ⟨w.heap.size, 1, none⟩, 16, 16⟩ (u8s a.b) := hv3.src8 (by rw [a.c_length]; decide) (by simp [Ad.c, List.take_of_length_le, u8s_length, a.h])
    have hml : ∀ k, k ≤ 8 → (a.words.take k).length = k := by intro k hk; simp [hwl]; omega
    refine ⟨fun t i w' => ∃ k : Nat, i = k ∧ k ≤ 8 ∧ Ext w w' ∧ Ext w3 w' ∧ (∀ q, ownB t q → w3.heap.size ≤ q) ∧ OwnS 1 Ty.string w' t (strs (a.words.take k)), fun _ i _ => ((8 : Int) - i).toNat, ⟨0, rfl, by omega, hX3, .refl _ _, fun q hq => (ownB_none q hq).elim, OwnS.none _ _ _⟩, ?_⟩
    rintro t _ w31 ⟨k, rfl, hk, hX, hY, hf, ho⟩
    refine ⟨fun hlt => ?_, fun hge => ?_⟩
    · have hlt : k < 8 := by have := of_decide_eq_true hlt; omega
      rw [wrapi (n := (k : Int) + 1) (by omega) (by omega), wrapi (n := 2 * (k : Int)) (by omega) (by omega), e]
      have hb2 := beN_lt 2 ((a.b.drop (2 * k)).take 2) (by simp [a.h]; omega)
      have hb2 : beN ((a.b.drop (2 * k)).take 2) < 65536 := hb2
      refine (num_Get (s := ⟨some ⟨w.heap.size, 1, none⟩, 16, 16⟩) (a := 2 * k) (k := 2) (hsrc.ext hY) (Nat.le_refl _) (by decide) (by rw [a.h]; omega) (by rw [a.h]; omega)).use ?_
      rintro _ _ ⟨rfl, rfl⟩
      refine ⟨_, _, rfl, (FormatUint16 _ (by show _ < 18446744073709551616; omega) w31 (ht.ext hX).bru).use ?_⟩
      rintro _ w36 ⟨rfl, hx36⟩
      obtain ⟨t', w41, h1, h2, h3, h4⟩ := pushStr (numB 16 (beN ((a.b.drop (2 * k)).take 2))) (ho.ext hx36) (by rw [hml k hk]; omega)
      refine ⟨_, rfl, nx ⟨t', w41, h1, ⟨k + 1, by omega, by omega, ?_, ?_, fun q hq => ?_, ?_⟩, ?_⟩⟩
      · exact Ext.of_new (Ext.trans hX hx36) h3 (fun q hq => Nat.le_trans hX3.size (hf q hq))
      · exact Ext.of_new (Ext.trans hY hx36) h3 hf
      · rcases h4 q hq with h | h
        · exact hf q h
        · exact Nat.le_trans (Ext.trans hY hx36).size h
      · rw [take_succ _ (by omega)]
        have : a.words[k]'(by omega) = numB 16 (beN ((a.b.drop (2 * k)).take 2)) := by simp [Ad.words]
        rw [this]
        exact h2
      · show ((8 : Int) - ((k : Int) + 1)).toNat < ((8 : Int) - (k : Int)).toNat
        omega
    · have hge : k = 8 := by have := of_decide_eq_false hge; omega
      subst hge
      rw [List.take_of_length_le (by omega)] at ho
      have hsum : sumLen a.words ≤ 64 * 8 := by
        have : ∀ l : List Nat, (∀ i ∈ l, i < 8) → sumLen (l.map fun i => numB 16 (beN ((a.b.drop (2 * i)).take 2))) ≤ 64 * l.length := by
          intro l
          induction l with
          | nil => intro _; exact Nat.le_refl _
          | cons c l ih =>
            intro hl
            have hb := beN_lt 2 ((a.b.drop (2 * c)).take 2) (by have := hl c (by simp); simp [a.h]; omega)
            have := numB_len64 (b := 16) (n := beN ((a.b.drop (2 * c)).take 2)) (by omega) (Nat.lt_trans hb (by decide))
            have := ih (fun i hi => hl i (by simp [hi]))
            simp only [List.map_cons, sumLen, List.length_cons]; omega
        have := this (List.range 8) (fun i hi => List.mem_range.1 hi)
        rw [List.length_range] at this
        exact this
      refine (Join1 a.words 58 ho.src ho.2.1 (by omega) (by omega)).use ?_
      rintro _ w42 ⟨rfl, hx42⟩
      exact ⟨_, rfl, rfl, Ext.trans hX hx42⟩

end Go.Proofs.YtcjpgabpihkcjaaGreatDoor
