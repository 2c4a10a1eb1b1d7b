/- Addresses and prefixes read from texts, in the program. -/
import Derived.Test.YtcjpgabpihkcjaaGreatDoorAddrE
namespace Go.Proofs.YtcjpgabpihkcjaaGreatDoor
open Go Gx

theorem clone8 {w : World} {s : Sl} {l : List UInt8} (h : Src 1 w s (u8s l)) (hl : l.length ≤ 1000000) :
    Ret Tryz.prog F.slices_Clone_Sl_byte_byte #[.slice s.a s.len s.cap] w (fun v w' => ∃ s' : Sl, v = .slice s'.a s'.len s'.cap ∧ OwnS 1 Ty.uint8 w' s' (u8s l) ∧ Ext w w' ∧ ∀ k, ownB s' k → w.heap.size ≤ k) := by
  have hsl : s.len = l.length := by have := h.len; rw [u8s_length] at this; omega
  refine W.slices_Clone_Sl_byte_byte_ok s w _ ?_
  unfold W.slices_Clone_Sl_byte_byte
  refine ⟨fun ha => ?_, fun _ => ?_⟩
  · have ha : s.a = none := by simpa using ha
    rw [h.nil ha]
    exact ⟨⟨none, 0, 0⟩, rfl, OwnS.none _ _ _, .refl _ _, fun k hk => (ownB_none k hk).elim⟩
  · obtain ⟨s', w', h1, h2, h3, h4, h5, _⟩ := appByte.clone (oT := Ty.Sl_uint8) h (u8s_plain l) (by omega)
    exact nx ⟨s', w', h1, s', rfl, h2, h4, h5⟩

/-- One byte more. -/
theorem pushByte {w : World} {s : Sl} {l : List UInt8} (c : UInt8) (ho : OwnS 1 Ty.uint8 w s (u8s l)) (hn : l.length ≤ 1000000) :
    ∃ (s' : Sl) (w' : World), Sem.run Tryz.prog (Builtin.append_ #[Ty.Sl_uint8, Ty.Sl_uint8] Ty.Sl_uint8 #[.slice s.a s.len s.cap, .slice (some ⟨w.heap.size, 0, none⟩) 1 1]) (w.alloc (.cells #[.int .u8 ((c.toNat : Nat) : Int)] Ty.uint8)) = .ok (.slice s'.a s'.len s'.cap) w' ∧
      OwnS 1 Ty.uint8 w' s' (u8s (l ++ [c])) ∧ Chg (ownB s) w w' ∧ (∀ k, ownB s' k → ownB s k ∨ w.heap.size ≤ k) := by
  have hsl : s.len = l.length := by have := ho.1; rw [u8s_length] at this; omega
  obtain ⟨s', w', h1, h2, h3, h4, h5⟩ := appByte.push (oT := Ty.Sl_uint8) (w := w) (s := s) (xs := [.int .u8 ((c.toNat : Nat) : Int)]) rfl ho (fun v hv => by rw [List.mem_singleton.1 hv]; trivial) (by omega)
  exact ⟨s', w', h1, by rw [u8s_append]; exact h2, h4, h5⟩

/-- A number's bytes, the highest first. -/
def beB (n k : Nat) : List UInt8 := (List.range k).map fun j => UInt8.ofNat (n / 256 ^ (k - 1 - j) % 256)
theorem beB_length (n k : Nat) : (beB n k).length = k := by simp [beB]

theorem num_Put {s : Sl} {l : List UInt8} {w : World} (hs : Src 1 w s (u8s l)) (hl : l.length ≤ 100000) {n k : Nat} (hn : n < 2 ^ 64) (hk : 1 ≤ k ∧ k ≤ 8) :
    Ret Tryz.prog F.num_Put #[.slice s.a s.len s.cap, .int .u64 n, .int .i64 k] w (fun v w' => ∃ s' : Sl, v = .slice s'.a s'.len s'.cap ∧ OwnS 1 Ty.uint8 w' s' (u8s (l ++ beB n k)) ∧ Ext w w' ∧ ∀ q, ownB s' q → w.heap.size ≤ q) := by
  have hn : n < 18446744073709551616 := hn
  refine W.num_Put_ok s n k w _ ?_
  unfold W.num_Put
  refine (clone8 hs (by omega)).use ?_
  rintro _ w1 ⟨s1, rfl, ho1, hx1, hf1⟩
  refine ⟨s1, rfl, Calls.mono (W.num_good_ok k w1 (fun v w' => v = .bool true ∧ w1 = w') ⟨?_, rfl⟩) ?_⟩
  · have h1 : decide ((k : Int) ≥ 1) = true := decide_eq_true (by omega)
    have h2 : decide ((k : Int) ≤ 8) = true := decide_eq_true (by omega)
    rw [h1, h2]; rfl
  rintro _ _ ⟨_, rfl, rfl, rfl⟩
  rw [wrapi (n := (k : Int) - 1) (by omega) (by omega)]
  refine ⟨_, rfl, fun h => by simp at h, fun _ => ⟨fun t i w' => ∃ j : Nat, i = (k : Int) - 1 - j ∧ j ≤ k ∧ Ext w w' ∧ (∀ q, ownB t q → w.heap.size ≤ q) ∧ OwnS 1 Ty.uint8 w' t (u8s (l ++ (beB n k).take j)), fun _ i _ => (i + 1).toNat, ⟨0, by omega, by omega, hx1, hf1, by simpa using ho1⟩, ?_⟩⟩
  rintro t _ w2 ⟨j, rfl, hj, hx2, hf2, ho2⟩
  refine ⟨fun hlt => ?_, fun hge => ?_⟩
  · have hlt : j < k := by have := of_decide_eq_true hlt; omega
    rw [wrapi (n := 8 * ((k : Int) - 1 - j)) (by omega) (by omega), wrapi (n := (k : Int) - 1 - j - 1) (by omega) (by omega)]
    have hv : IntKind.wrap .u8 (Int.fdiv (n : Int) (2 ^ (min (Int.toNat (8 * ((k : Int) - 1 - j))) 64))) = ((((UInt8.ofNat (n / 256 ^ (k - 1 - j) % 256)).toNat : Nat)) : Int) := by
      rw [ofNat_val (Nat.mod_lt _ (by omega)), show min (Int.toNat (8 * ((k : Int) - 1 - j))) 64 = 8 * (k - 1 - j) by omega, wr8m]
      have e1 : ((2 : Int) ^ (8 * (k - 1 - j))) = ((256 ^ (k - 1 - j) : Nat) : Int) := by
        rw [Int.pow_mul]
        simp
      rw [e1, Int.fdiv_eq_ediv_of_nonneg _ (Int.natCast_nonneg _)]
      generalize 256 ^ (k - 1 - j) = z
      rfl
    rw [hv]
    obtain ⟨s3, w3, h1, h2, h3, h4⟩ := pushByte (UInt8.ofNat (n / 256 ^ (k - 1 - j) % 256)) ho2 (by simp [beB]; omega)
    refine ⟨by omega, nx ⟨s3, w3, h1, ⟨j + 1, by omega, by omega, Ext.of_new hx2 h3 hf2, fun q hq => ?_, ?_⟩, ?_⟩⟩
    · rcases h4 q hq with h | h
      · exact hf2 q h
      · exact Nat.le_trans hx2.size h
    · rw [take_succ _ (by rw [beB_length]; exact hlt), ← List.append_assoc]
      have : (beB n k)[j]'(by rw [beB_length]; exact hlt) = UInt8.ofNat (n / 256 ^ (k - 1 - j) % 256) := by simp [beB]
      rw [this]; exact h2
    · show ((k : Int) - 1 - j - 1 + 1).toNat < ((k : Int) - 1 - j + 1).toNat
      omega
  · have hge : j = k := by have := of_decide_eq_false hge; omega
    subst hge
    rw [List.take_of_length_le (by rw [beB_length]; exact Nat.le_refl _)] at ho2
    exact ⟨t, rfl, ho2, hx2, hf2⟩

/-- The bytes of numbers; none, where one is no number. -/
def numsGo (b k : Nat) : List UInt8 → List (List UInt8) → List UInt8
  | acc, [] => acc
  | acc, p :: ps => match parseB b (2 ^ (8 * k) - 1) p with
    | some n => numsGo b k (acc ++ beB n k) ps
    | none => []
def numsB (c : UInt8) (b k : Nat) (l : List UInt8) : List UInt8 := numsGo b k [] (splitB c l)

theorem split_len {c : UInt8} : ∀ {l : List UInt8}, ∀ p ∈ splitB c l, p.length ≤ l.length
  | [], p, h => by simp [splitB] at h; subst h; simp
  | b :: l, p, h => by
    simp only [splitB] at h
    split at h
    · rcases List.mem_cons.1 h with rfl | h
      · simp
      · have := split_len p h; simp; omega
    · have hne : splitB c l ≠ [] := by
        intro e
        have := splitB_length c l
        rw [e] at this; simp at this
      cases hs : splitB c l with
      | nil => exact absurd hs hne
      | cons q qs =>
        rw [hs] at h
        rcases List.mem_cons.1 h with rfl | h
        · have := split_len q (l := l) (by rw [hs]; simp)
          simp; omega
        · have := split_len p (l := l) (by rw [hs]; simp [h])
          simp; omega
theorem split_count (c : UInt8) (l : List UInt8) : (splitB c l).length ≤ l.length + 1 := by
  rw [splitB_length]; have := List.count_le_length (a := c) (l := l); omega

theorem addr_numbers (l : List UInt8) (c : UInt8) (b k : Nat) (hl : l.length ≤ 10000) (hb : b = 10 ∨ b = 16) (hk : 1 ≤ k ∧ k ≤ 2) (w : World) (he : Errs w) :
    Ret Tryz.prog F.addr_numbers #[.string (S l), .string (S [c]), .int .i64 b, .int .i64 k] w (fun v w' => ∃ s : Sl, v = .slice s.a s.len s.cap ∧ Src 1 w' s (u8s (numsB c b k l)) ∧ Ext w w') := by
  refine W.addr_numbers_ok (S l) (S [c]) b k w _ ?_
  unfold W.addr_numbers
  refine (Split1 l c (by omega) w).use ?_
  rintro _ w1 ⟨s, rfl, hsl, hs, hx1⟩
  have hcnt := split_count c l
  have hk8 : (2 : Nat) ^ (8 * k) ≤ 65536 := Nat.le_trans (Nat.pow_le_pow_right (by omega) (show 8 * k ≤ 16 by omega)) (by decide)
  refine ⟨s, rfl, fun t i w' => ∃ (j : Nat) (acc : List UInt8), i = j ∧ j ≤ (splitB c l).length ∧ acc.length = k * j ∧ Ext w w' ∧ Ext w1 w' ∧ Src 1 w' t (u8s acc) ∧ numsB c b k l = numsGo b k acc ((splitB c l).drop j), fun _ i _ => (((splitB c l).length : Int) - i).toNat, ⟨0, [], rfl, Nat.zero_le _, by simp, hx1, .refl _ _, (OwnS.none 1 Ty.uint8 _).src, rfl⟩, ?_⟩
  rintro t _ w2 ⟨j, acc, rfl, hj, hacc, hx2, hy2, ht, hN⟩
  refine ⟨fun hlt => ?_, fun hge => ?_⟩
  · have hlt : j < (splitB c l).length := by have := of_decide_eq_true hlt; omega
    obtain ⟨A, hA, hb1, hcell⟩ := (hs.ext hy2).at (i := j) (v := .string (S (splitB c l)[j])) (by simp [strs, hlt])
    rw [List.drop_eq_getElem_cons hlt] at hN
    have hpl := split_len (c := c) (l := l) _ (List.getElem_mem hlt)
    have hkj : k * j ≤ 2 * j := Nat.mul_le_mul_right _ hk.2
    refine ⟨A, hA, hb1, _, hcell, ?_⟩
    rw [wrapi (n := 8 * (k : Int)) (by omega) (by omega), show 8 * (k : Int) = ((8 * k : Nat) : Int) by omega, wrapi (n := (j : Int) + 1) (by omega) (by omega)]
    refine (ParseUint (splitB c l)[j] b (8 * k) (by omega) hb (by omega) w2 (he.ext hx2)).use ?_
    rintro v w3 ⟨hv, hx3⟩
    simp only [numsGo] at hN
    cases hp : parseB b (2 ^ (8 * k) - 1) (splitB c l)[j] with
    | none =>
      rw [hp] at hv hN
      obtain ⟨m, ty, x, rfl⟩ := hv
      refine ⟨m, _, rfl, false, rfl, fun _ => ⟨⟨none, 0, 0⟩, rfl, ?_, Ext.trans hx2 hx3⟩, fun h => by simp at h⟩
      rw [hN]
      exact (OwnS.none 1 Ty.uint8 _).src
    | some n =>
      rw [hp] at hv hN
      have hv : v = .tuple #[.int .u64 (n : Int), .nilIface] := hv
      subst hv
      have hnle := parseB_le hp
      refine ⟨_, _, rfl, true, rfl, fun h => by simp at h, fun _ => (num_Put (ht.ext hx3) (by omega) (n := n) (k := k) (by show n < 18446744073709551616; omega) (by omega)).use ?_⟩
      rintro _ w4 ⟨s4, rfl, ho4, hx4, _⟩
      have hxx := Ext.trans hx3 hx4
      refine ⟨s4, rfl, ⟨j + 1, acc ++ beB n k, by omega, by omega, ?_, Ext.trans hx2 hxx, Ext.trans hy2 hxx, ho4.src, hN⟩, ?_⟩
      · rw [List.length_append, beB_length, hacc, Nat.mul_add, Nat.mul_one]
      · show (((splitB c l).length : Int) - ((j : Int) + 1)).toNat < (((splitB c l).length : Int) - (j : Int)).toNat
        omega
  · have hge : j = (splitB c l).length := by have := of_decide_eq_false hge; omega
    subst hge
    rw [List.drop_length] at hN
    refine ⟨t, rfl, ?_, hx2⟩
    rw [hN]
    exact ht

/-- What the program reads a text as. -/
def candA (l : List UInt8) : Option Ad := if 58 ∈ l then ofB (numsB 58 16 2 l) else ofB (numsB 46 10 1 l)
def parseA (l : List UInt8) : Option Ad := match candA l with
  | some a => if showA a = l then some a else none
  | none => none

theorem addr_parse (l : List UInt8) (hl : l.length ≤ 10000) (w : World) (ht : Tabs w) : Ret Tryz.prog F.addr_parse #[.string (S l)] w (fun v w' => v = .tuple #[.agg ((parseA l).getD Ad.zero).c.toArray, .bool (parseA l).isSome] ∧ Ext w w') := by
  refine W.addr_parse_ok (S l) w _ ?_
  unfold W.addr_parse
  refine nxVar (vs := Ad.zero.c) rfl fun w1 hv hx1 hz1 => ?_
  refine Jn3 (fun s b k w' => w1 = w' ∧ ((58 ∈ l ∧ s = S [58] ∧ b = 16 ∧ k = 2) ∨ (58 ∉ l ∧ s = S [46] ∧ b = 10 ∧ k = 1))) (fun q hq => ?_) ?_
  · refine (Contains1 l 58 w1).use ?_
    rintro _ _ ⟨rfl, rfl⟩
    exact ⟨_, rfl, fun h => hq _ _ _ _ ⟨rfl, .inl ⟨of_decide_eq_true h, rfl, rfl, rfl⟩⟩, fun h => hq _ _ _ _ ⟨rfl, .inr ⟨of_decide_eq_false h, rfl, rfl, rfl⟩⟩⟩
  rintro s b k _ ⟨rfl, hsel⟩
  obtain ⟨c, B, K, rfl, rfl, rfl, hB, hK, hcand⟩ : ∃ (c : UInt8) (B K : Nat), s = S [c] ∧ b = (B : Int) ∧ k = (K : Int) ∧ (B = 10 ∨ B = 16) ∧ (1 ≤ K ∧ K ≤ 2) ∧ candA l = ofB (numsB c B K l) := by
    rcases hsel with ⟨h, rfl, rfl, rfl⟩ | ⟨h, rfl, rfl, rfl⟩
    · exact ⟨58, 16, 2, rfl, rfl, rfl, .inr rfl, by decide, by rw [candA, if_pos h]⟩
    · exact ⟨46, 10, 1, rfl, rfl, rfl, .inl rfl, by decide, by rw [candA, if_neg h]⟩
  refine (addr_numbers l c B K hl hB hK w1 (ht.ext hx1).errs).use ?_
  rintro _ w10 ⟨s, rfl, hs, hx10⟩
  refine ⟨s, rfl, (addr_of hs).use ?_⟩
  rintro _ w13 ⟨rfl, hx13⟩
  have hX13 : Ext w w13 := Ext.trans (Ext.trans hx1 hx10) hx13
  have hv13 := (hv.ext hx10).ext hx13
  rw [← hcand]
  have hz13 : w.heap.size < w13.heap.size := hv13.lt
  refine ⟨_, _, rfl, nxVar (vs := Ad.zero.c) rfl fun w17 hm hx17 hz17 => ⟨hm.storeOk (by simp [Ad.c_length]) (Ad.plain _), by simp [Ad.c_length], nxPut hm (us := ((candA l).getD Ad.zero).c) (by simp [Ad.c_length]) rfl fun w18 hm18 hc18 _ => ?_⟩⟩
  have hX18 : Ext w w18 := Ext.of_chg (Ext.trans hX13 hx17) hc18 hX13.size
  have hv18 := (hv13.ext hx17).chg hc18 (by omega)
  refine Jn1 (fun b w' => Ext w w' ∧ Var w' w.heap.size Ad.zero.c Ty.api_Addr ∧ Var w' w13.heap.size ((candA l).getD Ad.zero).c Ty.api_Addr ∧ (b = true ↔ parseA l = none)) (fun q hq => ⟨fun h => hq _ _ ⟨hX18, hv18, hm18, ?_⟩, fun h => ?_⟩) ?_
  · have h : candA l = none := by
      cases hh : candA l with
      | none => rfl
      | some a => rw [hh] at h; cases h
    simp [parseA, h]
  · obtain ⟨a, ha⟩ : ∃ a, candA l = some a := by
      cases hh : candA l with
      | none => rw [hh] at h; cases h
      | some a => exact ⟨a, rfl⟩
    refine ⟨_, hm18.rd (Ad.c_length _), (addr_show _ w18 (ht.ext hX18).tab).use ?_⟩
    rintro _ w21 ⟨rfl, hx21⟩
    refine ⟨_, rfl, hq _ _ ⟨Ext.trans hX18 hx21, hv18.ext hx21, hm18.ext hx21, ?_⟩⟩
    rw [S_beq, ha]
    simp [parseA, ha]
  rintro b24 w25 ⟨hX25, hv25, hm25, hb⟩
  refine ⟨fun h => ?_, fun h => ?_⟩
  · rw [hb.1 h]
    refine ⟨_, mkAd0 _, hv25.storeOk rfl (Ad.plain _), rfl, nxPut hv25 rfl rfl fun w27 hv27 hc27 _ => ?_⟩
    exact ⟨_, hv27.rd (Ad.c_length _), rfl, Ext.of_chg hX25 hc27 (Nat.le_refl _)⟩
  · obtain ⟨a, ha⟩ : ∃ a, candA l = some a ∧ parseA l = some a := by
      have hn : parseA l ≠ none := fun e => by rw [hb.2 e] at h; cases h
      unfold parseA at hn ⊢
      cases hh : candA l with
      | none => rw [hh] at hn; exact absurd rfl hn
      | some a =>
        rw [hh] at hn
        simp only at hn ⊢
        split at hn
        · rename_i h2; rw [if_pos h2]; exact ⟨a, rfl, rfl⟩
        · exact absurd rfl hn
    rw [ha.1] at hm25
    rw [ha.2]
    refine ⟨_, hm25.rd (Ad.c_length _), hv25.storeOk (by simp [Ad.c_length]) (Ad.plain _), by simp [Ad.c_length], nxPut hv25 (us := a.c) (by simp [Ad.c_length]) rfl fun w30 hv30 hc30 _ => ?_⟩
    exact ⟨_, hv30.rd (Ad.c_length _), rfl, Ext.of_chg hX25 hc30 (Nat.le_refl _)⟩

end Go.Proofs.YtcjpgabpihkcjaaGreatDoor
