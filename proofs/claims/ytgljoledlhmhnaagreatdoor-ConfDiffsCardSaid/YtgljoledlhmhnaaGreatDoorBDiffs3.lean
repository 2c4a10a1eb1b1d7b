/- Contracts of the functions that the statement reaches, and the plain laws over them; each theorem stands with its conditions. -/
import Derived.Laws.RangeAny
import Derived.Laws.Runes
import Derived.Lib.IndexEntry
import Derived.Lib.OthersKept
import Derived.Shelf.Vars
import Derived.SizedLaws
import Derived.Test.YtgljoledlhmhnaaGreatDoorRows
import Derived.Test.YtgljoledlhmhnaaGreatDoorBDiffs2
namespace Go.Proofs.YtgljoledlhmhnaaGreatDoor
open Go Gx
theorem clone8 {w : World} {s : Sl} {l : List UInt8} (h : Src 1 w s (u8s l)) (hl : l.length ≤ 1000000) :
   Ret Tryz.prog F.slices_Clone_Sl_byte_byte #[.slice s.a s.len s.cap] w (fun v w' => ∃ s' : Sl, v = .slice s'.a s'.len s'.cap ∧ OwnS 1 Ty.uint8 w' s' (u8s l) ∧ Ext w w' ∧ ∀ k, ownB s' k → w.heap.size ≤ k) := by
 have hsl : s.len = l.length := by have := h.len; rw [u8s_length] at this; omega
 refine W.slices_Clone_Sl_byte_byte_ok s w _ ?_
 delta W.slices_Clone_Sl_byte_byte Br nA
 refine ⟨fun ha => ?_, fun _ => ?_⟩
 · have ha : s.a = none := by simpa using ha
   rw [h.nil ha]
   exact ⟨⟨none, 0, 0⟩, rfl, OwnS.none _ _ _, .refl _ _, fun k hk => (ownB_none k hk).elim⟩
 · obtain ⟨s', w', h1, h2, h3, h4, h5, _⟩ := appByte.clone (oT := Ty.Sl_uint8) h (u8s_plain l) (by omega)
   exact nx ⟨s', w', h1, s', rfl, h2, h4, h5⟩
theorem pushByte {w : World} {s : Sl} {l : List UInt8} (c : UInt8) (ho : OwnS 1 Ty.uint8 w s (u8s l)) (hn : l.length ≤ 1000000) :
   ∃ (s' : Sl) (w' : World), Sem.run Tryz.prog (Builtin.append_ #[Ty.Sl_uint8, Ty.Sl_uint8] Ty.Sl_uint8 #[.slice s.a s.len s.cap, .slice (some ⟨w.heap.size, 0, none⟩) 1 1]) (w.alloc (.cells #[.int .u8 ((c.toNat : Nat) : Int)] Ty.uint8)) = .ok (.slice s'.a s'.len s'.cap) w' ∧
     OwnS 1 Ty.uint8 w' s' (u8s (l ++ [c])) ∧ Chg (ownB s) w w' ∧ (∀ k, ownB s' k → ownB s k ∨ w.heap.size ≤ k) := by
 have hsl : s.len = l.length := by have := ho.1; rw [u8s_length] at this; omega
 obtain ⟨s', w', h1, h2, h3, h4, h5⟩ := appByte.push (oT := Ty.Sl_uint8) (w := w) (s := s) (xs := [.int .u8 ((c.toNat : Nat) : Int)]) rfl ho (fun v hv => by rw [List.mem_singleton.1 hv]; trivial) (by omega)
 exact ⟨s', w', h1, by rw [u8s_append]; exact h2, h4, h5⟩
def beB (n k : Nat) : List UInt8 := (List.range k).map fun j => UInt8.ofNat (n / 256 ^ (k - 1 - j) % 256)
theorem beB_length (n k : Nat) : (beB n k).length = k := by simp [beB]
theorem num_Put {s : Sl} {l : List UInt8} {w : World} (hs : Src 1 w s (u8s l)) (hl : l.length ≤ 100000) {n k : Nat} (hn : n < 2 ^ 64) (hk : 1 ≤ k ∧ k ≤ 8) :
   Ret Tryz.prog F.num_Put #[.slice s.a s.len s.cap, .int .u64 n, .int .i64 k] w (fun v w' => ∃ s' : Sl, v = .slice s'.a s'.len s'.cap ∧ OwnS 1 Ty.uint8 w' s' (u8s (l ++ beB n k)) ∧ Ext w w' ∧ ∀ q, ownB s' q → w.heap.size ≤ q) := by
 have hn : n < 18446744073709551616 := hn
 refine W.num_Put_ok s n k w _ ?_
 (delta W.num_Put c5 c9 Br wI nA; dsimp only)
 refine (clone8 hs (by omega)).use ?_
 rintro _ w1 ⟨s1, rfl, ho1, hx1, hf1⟩
 refine ⟨s1, rfl, Calls.mono (W.num_good_ok k w1 (fun v w' => v = .bool true ∧ w1 = w') ⟨?_, rfl⟩) ?_⟩
 · have h1 : decide ((k : Int) ≥ 1) = true := decide_eq_true (by omega)
   have h2 : decide ((k : Int) ≤ 8) = true := decide_eq_true (by omega)
   rw [h1, h2]; rfl
 rintro _ _ ⟨_, rfl, rfl, rfl⟩
 rw [wrapi (n := (k : Int) - 1) (by omega) (by omega)]
 refine ⟨_, rfl, fun h => by simp at h, fun _ => ⟨fun t i w' => ∃ j : Nat, i = (k : Int) - 1 - j ∧ j ≤ k ∧ Ext w w' ∧ (∀ q, ownB t q → w.heap.size ≤ q) ∧ OwnS 1 Ty.uint8 w' t (u8s (l ++ (beB n k).take j)), fun _ i _ => (i + 1).toNat, ⟨0, by omega, by omega, hx1, hf1, by simpa using ho1⟩, ?_⟩⟩
 rintro t _ w2 ⟨j, rfl, hj, hx2, hf2, ho2⟩
 refine ⟨fun hlt => ?_, fun hge => ?_⟩
 · have hlt : j < k := by have := of_decide_eq_true hlt; omega
   rw [wrapi (n := 8 * ((k : Int) - 1 - j)) (by omega) (by omega), wrapi (n := (k : Int) - 1 - j - 1) (by omega) (by omega)]
   have hv : IntKind.wrap .u8 (Int.fdiv (n : Int) (2 ^ (min (Int.toNat (8 * ((k : Int) - 1 - j))) 64))) = ((((UInt8.ofNat (n / 256 ^ (k - 1 - j) % 256)).toNat : Nat)) : Int) := by
     rw [ofNat_val (Nat.mod_lt _ (by omega)), show min (Int.toNat (8 * ((k : Int) - 1 - j))) 64 = 8 * (k - 1 - j) by omega, wr8m]
     have e1 : ((2 : Int) ^ (8 * (k - 1 - j))) = ((256 ^ (k - 1 - j) : Nat) : Int) := by
       rw [Int.pow_mul]
       simp
     rw [e1, Int.fdiv_eq_ediv_of_nonneg _ (Int.natCast_nonneg _)]
     generalize 256 ^ (k - 1 - j) = z
     rfl
   rw [hv]
   obtain ⟨s3, w3, h1, h2, h3, h4⟩ := pushByte (UInt8.ofNat (n / 256 ^ (k - 1 - j) % 256)) ho2 (by simp [beB]; omega)
   refine ⟨by omega, nx ⟨s3, w3, h1, ⟨j + 1, by omega, by omega, Ext.of_new hx2 h3 hf2, fun q hq => ?_, ?_⟩, ?_⟩⟩
   · rcases h4 q hq with h | h
     · exact hf2 q h
     · exact Nat.le_trans hx2.size h
   · rw [take_succ _ (by rw [beB_length]; exact hlt), ← List.append_assoc]
     have : (beB n k)[j]'(by rw [beB_length]; exact hlt) = UInt8.ofNat (n / 256 ^ (k - 1 - j) % 256) := by simp [beB]
     rw [this]; exact h2
   · show ((k : Int) - 1 - j - 1 + 1).toNat < ((k : Int) - 1 - j + 1).toNat
     omega
 · have hge : j = k := by have := of_decide_eq_false hge; omega
   subst hge
   rw [List.take_of_length_le (by rw [beB_length]; exact Nat.le_refl _)] at ho2
   exact ⟨t, rfl, ho2, hx2, hf2⟩
def numsGo (b k : Nat) : List UInt8 → List (List UInt8) → List UInt8
 | acc, [] => acc
 | acc, p :: ps => match parseB b (2 ^ (8 * k) - 1) p with
   | some n => numsGo b k (acc ++ beB n k) ps
   | none => []
def numsB (c : UInt8) (b k : Nat) (l : List UInt8) : List UInt8 := numsGo b k [] (splitB c l)
theorem split_len {c : UInt8} : ∀ {l : List UInt8}, ∀ p ∈ splitB c l, p.length ≤ l.length
 | [], p, h => by simp [splitB] at h; subst h; simp
 | b :: l, p, h => by
   simp only [splitB] at h
   split at h
   · rcases List.mem_cons.1 h with rfl | h
     · simp
     · have := split_len p h; simp; omega
   · have hne : splitB c l ≠ [] := by
       intro e
       have := splitB_length c l
       rw [e] at this; simp at this
     cases hs : splitB c l with
     | nil => exact absurd hs hne
     | cons q qs =>
       rw [hs] at h
       rcases List.mem_cons.1 h with rfl | h
       · have := split_len q (l := l) (by rw [hs]; simp)
         simp; omega
       · have := split_len p (l := l) (by rw [hs]; simp [h])
         simp; omega
theorem split_count (c : UInt8) (l : List UInt8) : (splitB c l).length ≤ l.length + 1 := by
 rw [splitB_length]; have := List.count_le_length (a := c) (l := l); omega
theorem addr_numbers (l : List UInt8) (c : UInt8) (b k : Nat) (hl : l.length ≤ 10000) (hb : b = 10 ∨ b = 16) (hk : 1 ≤ k ∧ k ≤ 2) (w : World) (he : Errs w) :
   Ret Tryz.prog F.addr_numbers #[.string (S l), .string (S [c]), .int .i64 b, .int .i64 k] w (fun v w' => ∃ s : Sl, v = .slice s.a s.len s.cap ∧ Src 1 w' s (u8s (numsB c b k l)) ∧ Ext w w') := by
 refine W.addr_numbers_ok (S l) (S [c]) b k w _ ?_
 (delta W.addr_numbers c5 Br bd r2 c7 wI; dsimp only)
 refine (Split1 l c (by omega) w).use ?_
 rintro _ w1 ⟨s, rfl, hsl, hs, hx1⟩
 have hcnt := split_count c l
 have hk8 : (2 : Nat) ^ (8 * k) ≤ 65536 := Nat.le_trans (Nat.pow_le_pow_right (by omega) (show 8 * k ≤ 16 by omega)) (by decide)
 refine ⟨s, rfl, fun t i w' => ∃ (j : Nat) (acc : List UInt8), i = j ∧ j ≤ (splitB c l).length ∧ acc.length = k * j ∧ Ext w w' ∧ Ext w1 w' ∧ Src 1 w' t (u8s acc) ∧ numsB c b k l = numsGo b k acc ((splitB c l).drop j), fun _ i _ => (((splitB c l).length : Int) - i).toNat, ⟨0, [], rfl, Nat.zero_le _, by simp, hx1, .refl _ _, (OwnS.none 1 Ty.uint8 _).src, rfl⟩, ?_⟩
 rintro t _ w2 ⟨j, acc, rfl, hj, hacc, hx2, hy2, ht, hN⟩
 refine ⟨fun hlt => ?_, fun hge => ?_⟩
 · have hlt : j < (splitB c l).length := by have := of_decide_eq_true hlt; omega
   obtain ⟨A, hA, hb1, hcell⟩ := (hs.ext hy2).at (i := j) (v := .string (S (splitB c l)[j])) (by simp [strs, hlt])
   rw [List.drop_eq_getElem_cons hlt] at hN
   have hpl := split_len (c := c) (l := l) _ (List.getElem_mem hlt)
   have hkj : k * j ≤ 2 * j := Nat.mul_le_mul_right _ hk.2
   refine ⟨A, hA, hb1, _, hcell, ?_⟩
   rw [wrapi (n := 8 * (k : Int)) (by omega) (by omega), show 8 * (k : Int) = ((8 * k : Nat) : Int) by omega, wrapi (n := (j : Int) + 1) (by omega) (by omega)]
   refine (ParseUint (splitB c l)[j] b (8 * k) (by omega) hb (by omega) w2 (he.ext hx2)).use ?_
   rintro v w3 ⟨hv, hx3⟩
   simp only [numsGo] at hN
   cases hp : parseB b (2 ^ (8 * k) - 1) (splitB c l)[j] with
   | none =>
     rw [hp] at hv hN
     obtain ⟨m, ty, x, rfl⟩ := hv
     refine ⟨m, _, rfl, false, rfl, fun _ => ⟨⟨none, 0, 0⟩, rfl, ?_, Ext.trans hx2 hx3⟩, fun h => by simp at h⟩
     rw [hN]
     exact (OwnS.none 1 Ty.uint8 _).src
   | some n =>
     rw [hp] at hv hN
     have hv : v = .tuple #[.int .u64 (n : Int), .nilIface] := hv
     subst hv
     have hnle := parseB_le hp
     refine ⟨_, _, rfl, true, rfl, fun h => by simp at h, fun _ => (num_Put (ht.ext hx3) (by omega) (n := n) (k := k) (by show n < 18446744073709551616; omega) (by omega)).use ?_⟩
     rintro _ w4 ⟨s4, rfl, ho4, hx4, _⟩
     have hxx := Ext.trans hx3 hx4
     refine ⟨s4, rfl, ⟨j + 1, acc ++ beB n k, by omega, by omega, ?_, Ext.trans hx2 hxx, Ext.trans hy2 hxx, ho4.src, hN⟩, ?_⟩
     · rw [List.length_append, beB_length, hacc, Nat.mul_add, Nat.mul_one]
     · show (((splitB c l).length : Int) - ((j : Int) + 1)).toNat < (((splitB c l).length : Int) - (j : Int)).toNat
       omega
 · have hge : j = (splitB c l).length := by have := of_decide_eq_false hge; omega
   subst hge
   rw [List.drop_length] at hN
   refine ⟨t, rfl, ?_, hx2⟩
   rw [hN]
   exact ht
def candA (l : List UInt8) : Option Ad := if 58 ∈ l then ofB (numsB 58 16 2 l) else ofB (numsB 46 10 1 l)
def parseA (l : List UInt8) : Option Ad := match candA l with
 | some a => if showA a = l then some a else none
 | none => none
theorem addr_parse (l : List UInt8) (hl : l.length ≤ 10000) (w : World) (ht : Tabs w) : Ret Tryz.prog F.addr_parse #[.string (S l)] w (fun v w' => v = .tuple #[.agg ((parseA l).getD Ad.zero).c.toArray, .bool (parseA l).isSome] ∧ Ext w w') := by
 refine W.addr_parse_ok (S l) w _ ?_
 (delta W.addr_parse z6 c9 Br c5 c14 c15 nA c4; dsimp only)
 refine nxVar (vs := Ad.zero.c) rfl fun w1 hv hx1 hz1 => ?_
 refine Jn3 (fun s b k w' => w1 = w' ∧ ((58 ∈ l ∧ s = S [58] ∧ b = 16 ∧ k = 2) ∨ (58 ∉ l ∧ s = S [46] ∧ b = 10 ∧ k = 1))) (fun q hq => ?_) ?_
 · refine (Contains1 l 58 w1).use ?_
   rintro _ _ ⟨rfl, rfl⟩
   exact ⟨_, rfl, fun h => hq _ _ _ _ ⟨rfl, .inl ⟨of_decide_eq_true h, rfl, rfl, rfl⟩⟩, fun h => hq _ _ _ _ ⟨rfl, .inr ⟨of_decide_eq_false h, rfl, rfl, rfl⟩⟩⟩
 rintro s b k _ ⟨rfl, hsel⟩
 obtain ⟨c, B, K, rfl, rfl, rfl, hB, hK, hcand⟩ : ∃ (c : UInt8) (B K : Nat), s = S [c] ∧ b = (B : Int) ∧ k = (K : Int) ∧ (B = 10 ∨ B = 16) ∧ (1 ≤ K ∧ K ≤ 2) ∧ candA l = ofB (numsB c B K l) := by
   rcases hsel with ⟨h, rfl, rfl, rfl⟩ | ⟨h, rfl, rfl, rfl⟩
   · exact ⟨58, 16, 2, rfl, rfl, rfl, .inr rfl, by decide, by rw [candA, if_pos h]⟩
   · exact ⟨46, 10, 1, rfl, rfl, rfl, .inl rfl, by decide, by rw [candA, if_neg h]⟩
 refine (addr_numbers l c B K hl hB hK w1 (ht.ext hx1).errs).use ?_
 rintro _ w10 ⟨s, rfl, hs, hx10⟩
 refine ⟨s, rfl, (addr_of hs).use ?_⟩
 rintro _ w13 ⟨rfl, hx13⟩
 have hX13 : Ext w w13 := Ext.trans (Ext.trans hx1 hx10) hx13
 have hv13 := (hv.ext hx10).ext hx13
 rw [← hcand]
 have hz13 : w.heap.size < w13.heap.size := hv13.lt
 refine ⟨_, _, rfl, nxVar (vs := Ad.zero.c) rfl fun w17 hm hx17 hz17 => ⟨hm.storeOk (by simp [Ad.c_length]) (Ad.plain _), by simp [Ad.c_length], nxPut hm (us := ((candA l).getD Ad.zero).c) (by simp [Ad.c_length]) rfl fun w18 hm18 hc18 _ => ?_⟩⟩
 have hX18 : Ext w w18 := Ext.of_chg (Ext.trans hX13 hx17) hc18 hX13.size
 have hv18 := (hv13.ext hx17).chg hc18 (by omega)
 refine Jn1 (fun b w' => Ext w w' ∧ Var w' w.heap.size Ad.zero.c Ty.api_Addr ∧ Var w' w13.heap.size ((candA l).getD Ad.zero).c Ty.api_Addr ∧ (b = true ↔ parseA l = none)) (fun q hq => ⟨fun h => hq _ _ ⟨hX18, hv18, hm18, ?_⟩, fun h => ?_⟩) ?_
 · have h : candA l = none := by
     cases hh : candA l with
     | none => rfl
     | some a => rw [hh] at h; cases h
   simp [parseA, h]
 · obtain ⟨a, ha⟩ : ∃ a, candA l = some a := by
     cases hh : candA l with
     | none => rw [hh] at h; cases h
     | some a => exact ⟨a, rfl⟩
   refine ⟨_, hm18.rd (Ad.c_length _), (addr_show _ w18 (ht.ext hX18).tab).use ?_⟩
   rintro _ w21 ⟨rfl, hx21⟩
   refine ⟨_, rfl, hq _ _ ⟨Ext.trans hX18 hx21, hv18.ext hx21, hm18.ext hx21, ?_⟩⟩
   rw [S_beq, ha]
   simp [parseA, ha]
 rintro b24 w25 ⟨hX25, hv25, hm25, hb⟩
 refine ⟨fun h => ?_, fun h => ?_⟩
 · rw [hb.1 h]
   refine ⟨_, mkAd0 _, hv25.storeOk rfl (Ad.plain _), rfl, nxPut hv25 rfl rfl fun w27 hv27 hc27 _ => ?_⟩
   exact ⟨_, hv27.rd (Ad.c_length _), rfl, Ext.of_chg hX25 hc27 (Nat.le_refl _)⟩
 · obtain ⟨a, ha⟩ : ∃ a, candA l = some a ∧ parseA l = some a := by
     have hn : parseA l ≠ none := fun e => by rw [hb.2 e] at h; cases h
     unfold parseA at hn ⊢
     cases hh : candA l with
     | none => rw [hh] at hn; exact absurd rfl hn
     | some a =>
       rw [hh] at hn
       simp only at hn ⊢
       split at hn
       · rename_i h2; rw [if_pos h2]; exact ⟨a, rfl, rfl⟩
       · exact absurd rfl hn
   rw [ha.1] at hm25
   rw [ha.2]
   refine ⟨_, hm25.rd (Ad.c_length _), hv25.storeOk (by simp [Ad.c_length]) (Ad.plain _), by simp [Ad.c_length], nxPut hv25 (us := a.c) (by simp [Ad.c_length]) rfl fun w30 hv30 hc30 _ => ?_⟩
   exact ⟨_, hv30.rd (Ad.c_length _), rfl, Ext.of_chg hX25 hc30 (Nat.le_refl _)⟩
end Go.Proofs.YtgljoledlhmhnaaGreatDoor
namespace Go.Proofs.YtgljoledlhmhnaaGreatDoor
open Go Gx
theorem split_app {c : UInt8} : ∀ {l : List UInt8} (m : List UInt8), c ∉ l → splitB c (l ++ c :: m) = l :: splitB c m
 | [], m, _ => by simp [splitB]
 | b :: l, m, h => by
   have h1 : ¬ b = c := fun e => h (by simp [e])
   have ih := split_app (c := c) (l := l) m (fun e => h (by simp [e]))
   simp [splitB, h1, ih]
theorem split_one {c : UInt8} {l : List UInt8} (h : c ∉ l) : splitB c l = [l] := splitB_none (idxB_none.2 h)
theorem split_join {c : UInt8} : ∀ {ls : List (List UInt8)}, ls ≠ [] → (∀ l ∈ ls, c ∉ l) → splitB c (joinB c ls) = ls
 | [], h, _ => absurd rfl h
 | [l], _, h => split_one (h l (by simp))
 | l :: m :: ls, _, h => by
   rw [joinB, split_app _ (h l (by simp)), split_join (by simp) (fun x hx => h x (by simp [hx]))]
theorem dig_sign : ∀ d : Nat, d < 16 → (48 ≤ (dig d).toNat ∧ (dig d).toNat ≤ 57) ∨ (97 ≤ (dig d).toNat ∧ (dig d).toNat ≤ 102) := by decide +kernel
theorem numB_sign {b : Nat} (hb : 2 ≤ b ∧ b ≤ 16) (n : Nat) : ∀ c ∈ numB b n, (48 ≤ c.toNat ∧ c.toNat ≤ 57) ∨ (97 ≤ c.toNat ∧ c.toNat ≤ 102) := by
 induction n using Nat.strongRecOn with
 | ind n ih =>
   by_cases h : n < b
   · rw [numB_lt h]
     intro c hc
     rw [List.mem_singleton.1 hc]
     exact dig_sign n (by omega)
   · rw [numB_ge hb.1 (by omega)]
     intro c hc
     rcases List.mem_append.1 hc with hc | hc
     · exact ih (n / b) (Nat.div_lt_self (by omega) (by omega)) c hc
     · rw [List.mem_singleton.1 hc]
       exact dig_sign _ (by have := Nat.mod_lt n (show 0 < b by omega); omega)
theorem numB_no {b : Nat} (hb : 2 ≤ b ∧ b ≤ 16) (n : Nat) {c : UInt8} (hc : c = 46 ∨ c = 58 ∨ c = 47 ∨ c = 32 ∨ c = 45 ∨ c = 10) : c ∉ numB b n := by
 intro h
 have := numB_sign hb n c h
 rcases hc with rfl | rfl | rfl | rfl | rfl | rfl <;> simp at this
theorem numsGo_all (b k : Nat) (hb : 2 ≤ b ∧ b ≤ 36) : ∀ (ns : List Nat) (acc : List UInt8), (∀ n ∈ ns, n ≤ 2 ^ (8 * k) - 1) → numsGo b k acc (ns.map (numB b)) = acc ++ ns.flatMap fun n => beB n k
 | [], acc, _ => by simp [numsGo]
 | n :: ns, acc, h => by
   simp only [List.map_cons, numsGo, parseB_num b _ hb.1 hb.2 n (h n (by simp)), numsGo_all b k hb ns _ (fun m hm => h m (by simp [hm])), List.flatMap_cons, List.append_assoc]
theorem beB1 (c : UInt8) : beB c.toNat 1 = [c] := by simp [beB]
theorem beB2 (x y : UInt8) : beB (beN [x, y]) 2 = [x, y] := by
 have hx := UInt8.toNat_lt x
 have hy := UInt8.toNat_lt y
 have e : beN [x, y] = x.toNat * 256 + y.toNat := by simp [beN]
 simp only [beB, e, show List.range 2 = [0, 1] from rfl, List.map_cons, List.map_nil]
 have e1 : (x.toNat * 256 + y.toNat) / 256 ^ (2 - 1 - 0) % 256 = x.toNat := by
   show (x.toNat * 256 + y.toNat) / 256 % 256 = _; omega
 have e2 : (x.toNat * 256 + y.toNat) / 256 ^ (2 - 1 - 1) % 256 = y.toNat := by
   show (x.toNat * 256 + y.toNat) / 1 % 256 = _; omega
 rw [e1, e2]; simp
theorem mem_joinB {c : UInt8} {x : UInt8} : ∀ {ls : List (List UInt8)}, x ∈ joinB c ls → x = c ∨ ∃ l ∈ ls, x ∈ l
 | [], h => by simp [joinB] at h
 | [l], h => .inr ⟨l, by simp, h⟩
 | l :: m :: ls, h => by
   simp only [joinB, List.mem_append, List.mem_cons] at h
   rcases h with h | h | h
   · exact .inr ⟨l, by simp, h⟩
   · exact .inl h
   · rcases mem_joinB h with h | ⟨y, hy, h⟩
     · exact .inl h
     · exact .inr ⟨y, by simp [hy], h⟩
theorem good_drop {a : Ad} (hg : a.good = true) (h6 : a.six = false) : zeros 12 ++ a.b.drop 12 = a.b := by
 have : a.b.take 12 = zeros 12 := by simpa [Ad.good, h6] using hg
 rw [← this, List.take_append_drop]
theorem pairs_of (b : List UInt8) (h : b.length = 16) : ((List.range 8).map fun i => beN ((b.drop (2 * i)).take 2)).flatMap (fun n => beB n 2) = b := by
 obtain ⟨x0, x1, x2, x3, x4, x5, x6, x7, x8, x9, x10, x11, x12, x13, x14, x15, rfl⟩ := list16 b h
 show beB (beN [x0, x1]) 2 ++ (beB (beN [x2, x3]) 2 ++ (beB (beN [x4, x5]) 2 ++ (beB (beN [x6, x7]) 2 ++ (beB (beN [x8, x9]) 2 ++ (beB (beN [x10, x11]) 2 ++ (beB (beN [x12, x13]) 2 ++ (beB (beN [x14, x15]) 2 ++ []))))))) = _
 simp only [beB2]
 rfl
theorem cand_show {a : Ad} (hg : a.good = true) : candA (showA a) = some a := by
 unfold candA showA
 rw [if_pos hg]
 cases h6 : a.six
 · simp only [Bool.false_eq_true, if_false]
   have hraw : a.raw = a.b.drop 12 := by simp [Ad.raw, h6]
   have hrl : a.raw.length = 4 := by rw [a.raw_length, h6]; rfl
   have hno : (58 : UInt8) ∉ joinB 46 (a.raw.map fun c => numB 10 c.toNat) := by
     intro h
     rcases mem_joinB h with h | ⟨l, hl, h⟩
     · exact absurd h (by decide)
     · obtain ⟨c, _, rfl⟩ := List.mem_map.1 hl
       exact numB_no (by decide) _ (.inr (.inl rfl)) h
   rw [if_neg hno]
   have hs : numsB 46 10 1 (joinB 46 (a.raw.map fun c => numB 10 c.toNat)) = a.raw := by
     unfold numsB
     rw [split_join (by intro e; have := congrArg List.length e; simp [hrl] at this) (fun l hl => by
       obtain ⟨c, _, rfl⟩ := List.mem_map.1 hl
       exact numB_no (by decide) _ (.inl rfl))]
     have e : (a.raw.map fun c => numB 10 c.toNat) = (a.raw.map fun c => c.toNat).map (numB 10) := by simp
     rw [e, numsGo_all 10 1 (by decide) _ _ (fun n hn => by
       obtain ⟨c, _, rfl⟩ := List.mem_map.1 hn
       have := UInt8.toNat_lt c
       show _ ≤ 255; omega)]
     simp only [List.nil_append]
     have : ∀ l : List UInt8, (l.map fun c => c.toNat).flatMap (fun n => beB n 1) = l := by
       intro l
       induction l with
       | nil => rfl
       | cons c l ih => rw [List.map_cons, List.flatMap_cons, ih, beB1]; rfl
     exact this _
   rw [hs]
   unfold ofB
   rw [dif_pos hrl]
   congr 1
   exact Ad.ext' h6.symm (by show zeros 12 ++ a.raw = a.b; rw [hraw]; exact good_drop hg h6)
 · simp only [if_true]
   have hwl : a.words.length = 8 := by simp [Ad.words]
   have hyes : (58 : UInt8) ∈ joinB 58 a.words := by
     match hw : a.words, hwl with
     | l :: m :: ls, _ => simp [joinB]
   rw [if_pos hyes]
   have hs : numsB 58 16 2 (joinB 58 a.words) = a.b := by
     unfold numsB
     rw [split_join (by intro e; rw [e] at hwl; simp at hwl) (fun l hl => by
       obtain ⟨i, _, rfl⟩ := List.mem_map.1 hl
       exact numB_no (by decide) _ (.inr (.inl rfl)))]
     have e : a.words = ((List.range 8).map fun i => beN ((a.b.drop (2 * i)).take 2)).map (numB 16) := by simp [Ad.words]
     rw [e, numsGo_all 16 2 (by decide) _ _ (fun n hn => by
       obtain ⟨i, hi, rfl⟩ := List.mem_map.1 hn
       have hi := List.mem_range.1 hi
       have := beN_lt 2 ((a.b.drop (2 * i)).take 2) (by simp [a.h]; omega)
       have : beN ((a.b.drop (2 * i)).take 2) < 65536 := this
       show _ ≤ 65535; omega), List.nil_append, pairs_of a.b a.h]
   rw [hs]
   unfold ofB
   rw [dif_neg (by rw [a.h]; decide), dif_pos a.h]
   congr 1
   exact Ad.ext' h6.symm rfl
theorem ofB_good {l : List UInt8} {a : Ad} (h : ofB l = some a) : a.good = true := by
 unfold ofB at h
 split at h
 · cases h; simp [ad4, Ad.good, zeros]
 · split at h
   · cases h; simp [Ad.good]
   · cases h
theorem parseA_iff {l : List UInt8} {a : Ad} : parseA l = some a ↔ a.good = true ∧ showA a = l := by
 constructor
 · intro h
   unfold parseA at h
   split at h
   · rename_i b hb
     split at h
     · rename_i h2
       cases h
       refine ⟨?_, h2⟩
       unfold candA at hb
       split at hb <;> exact ofB_good hb
     · cases h
   · cases h
 · rintro ⟨hg, rfl⟩
   unfold parseA
   rw [cand_show hg]
   simp
theorem addr_Show (a : Ad) (w : World) (ht : Tab2 w) : Ret Tryz.prog F.addr_Show #[.agg a.c.toArray] w (fun v w' => v = .string (S (showA a)) ∧ Ext w w') := by
 refine W.addr_Show_ok _ w _ ?_
 (delta W.addr_Show nA c4; dsimp only)
 refine nxVar (vs := a.c) rfl fun w1 hv hx1 hz1 => ⟨a.c, hv.rd a.c_length, (addr_show a w1 (ht.ext hx1)).use ?_⟩
 rintro _ w2 ⟨rfl, hx2⟩
 exact ⟨_, rfl, rfl, Ext.trans hx1 hx2⟩
theorem addr_Parse (l : List UInt8) (hl : l.length ≤ 10000) (w : World) (ht : Tabs w) : Ret Tryz.prog F.addr_Parse #[.string (S l)] w (fun v w' => v = .tuple #[.agg ((parseA l).getD Ad.zero).c.toArray, .bool (parseA l).isSome] ∧ Ext w w') := by
 refine W.addr_Parse_ok _ w _ ?_
 (delta W.addr_Parse z6 c14 c4 nA; dsimp only)
 refine nxVar (vs := Ad.zero.c) rfl fun w1 hv hx1 hz1 => (addr_parse l hl w1 (ht.ext hx1)).use ?_
 rintro _ w2 ⟨rfl, hx2⟩
 have hv2 := hv.ext hx2
 refine ⟨_, _, rfl, hv2.storeOk (by simp [Ad.c_length]) (Ad.plain _), by simp [Ad.c_length], nxPut hv2 (us := ((parseA l).getD Ad.zero).c) (by simp [Ad.c_length]) rfl fun w6 hv6 hc6 _ => ?_⟩
 exact ⟨_, hv6.rd (Ad.c_length _), rfl, Ext.of_chg (Ext.trans hx1 hx2) hc6 (Nat.le_refl _)⟩
end Go.Proofs.YtgljoledlhmhnaaGreatDoor
namespace Go.Proofs.YtgljoledlhmhnaaGreatDoor
open Go Gx
def powZ : List Int := (List.range 20).map fun i => ((10 ^ i : Nat) : Int)
def bruZ : List Int := [0, 1, 56, 2, 57, 49, 28, 3, 61, 58, 42, 50, 38, 29, 17, 4, 62, 47, 59, 36, 45, 43, 51, 22, 53, 39, 33, 30, 24, 18, 12, 5, 63, 55, 48, 27, 60, 41, 37, 16, 46, 35, 44, 21, 52, 32, 23, 11, 54, 26, 40, 15, 34, 20, 31, 10, 25, 14, 19, 9, 13, 8, 7, 6]
theorem tab2_of {w : World} {l : List (String × DataW Unit)} (h : laidMet Tryz.prog l w) (h1 : l[1]? = some ("math/bits.deBruijn64tab", Rows.laid_math_bits_deBruijn64tab)) (h2 : l[2]? = some ("internal/strconv.uint64pow10", Rows.laid_internal_strconv_uint64pow10)) : Tab2 w := by
 have b := laid_ints h h1 (g := G.math_bits_deBruijn64tab) (k := .u8) (zs := bruZ) (t := ((Tryz.prog.globals[G.math_bits_deBruijn64tab]?).map (·.type)).get (by kernel_rfl)) (e := Ty.uint8) (N := 64) (by kernel_rfl) (Option.some_get _).symm (by kernel_rfl) (by kernel_rfl) (by kernel_rfl) (by kernel_rfl)
 have p := laid_ints h h2 (g := G.internal_strconv_uint64pow10) (k := .u64) (zs := powZ) (t := ((Tryz.prog.globals[G.internal_strconv_uint64pow10]?).map (·.type)).get (by kernel_rfl)) (e := Ty.uint64) (N := 20) (by kernel_rfl) (Option.some_get _).symm (by kernel_rfl) (by kernel_rfl) (by kernel_rfl) (by kernel_rfl)
 refine ⟨fun i hi => ?_, ?_⟩
 · rw [p i hi]
   congr 2
   simp [powZ, List.getD, hi]
 · exact b 15 (by decide)
theorem errs_of {w : World} {l : List (String × DataW Unit)} (h : laidMet Tryz.prog l w) (h1 : l[4]? = some ("strconv.ErrRange", Rows.laid_strconv_ErrRange)) (h2 : l[5]? = some ("strconv.ErrSyntax", Rows.laid_strconv_ErrSyntax)) : Errs w := by
 have hI : ∃ ms, Tryz.prog.underlying Ty.error = some (.interface ms) := by
   have h : isIfaceT (Tryz.prog.underlying Ty.error) = true := by kernel_rfl
   generalize Tryz.prog.underlying Ty.error = o at h
   cases o with
   | none => cases h
   | some d => cases d <;> first | exact ⟨_, rfl⟩ | cases h
 obtain ⟨ms, hu⟩ := hI
 exact ⟨laid_iface h h2 (g := G.strconv_ErrSyntax) (t := Ty.error) (by kernel_rfl) (by kernel_rfl) hu, laid_iface h h1 (g := G.strconv_ErrRange) (t := Ty.error) (by kernel_rfl) (by kernel_rfl) hu⟩
theorem tabs_of {w : World} {l : List (String × DataW Unit)} (h : laidMetH Tryz.prog l w) (hp : (l.all fun x => x.2.handleName?.isNone) = true) (h1 : l[1]? = some ("math/bits.deBruijn64tab", Rows.laid_math_bits_deBruijn64tab)) (h2 : l[2]? = some ("internal/strconv.uint64pow10", Rows.laid_internal_strconv_uint64pow10))
   (h3 : l[4]? = some ("strconv.ErrRange", Rows.laid_strconv_ErrRange)) (h4 : l[5]? = some ("strconv.ErrSyntax", Rows.laid_strconv_ErrSyntax)) : Tabs w := by
 rw [MakeChecks.laidMetH_plain _ _ _ hp] at h
 exact ⟨tab2_of h h1 h2, errs_of h h3 h4⟩
end Go.Proofs.YtgljoledlhmhnaaGreatDoor
namespace Go.Proofs.YtgljoledlhmhnaaGreatDoor
open Go Gx
variable {w w' : World} {d : Nat} {s : Sl}
theorem cut_own {a : Option Addr} {z l m n c n' c' : Nat} {q : Nat} (h : ownB ⟨cutA a z l m, n, c⟩ q) : ownB ⟨a, n', c'⟩ q := by
 obtain ⟨A, hA, e⟩ := h
 unfold cutA at hA
 split at hA
 · exact ⟨A, hA, e⟩
 · cases a with
   | none => cases hA
   | some B =>
     have hB : B.add (l * z) = A := by simpa using hA
     exact ⟨B, rfl, by rw [← e, ← hB, addBlkS]⟩
structure RdAt (w : World) (d : Nat) (s : Sl) (ok : Bool) (ws : List (List UInt8)) : Prop where
 v : Var w d [.slice s.a s.len s.cap, .bool ok] Ty.script_reader
 o : Src 1 w s (strs ws)
 cap : s.len ≤ s.cap
 ne : ¬ ownB s d
 lt : ∀ q, ownB s q → q < w.heap.size
 few : ∀ x ∈ ws, x.length ≤ 10000
variable {ok : Bool} {ws : List (List UInt8)}
theorem RdAt.ext (h : RdAt w d s ok ws) (hx : Ext w w') : RdAt w' d s ok ws := ⟨h.v.ext hx, h.o.ext hx, h.cap, h.ne, fun q hq => Nat.lt_of_lt_of_le (h.lt q hq) hx.size, h.few⟩
theorem RdAt.len (h : RdAt w d s ok ws) : s.len = ws.length := by have := h.o.len; rw [strs_len] at this; omega
def wordR (ok : Bool) (ws : List (List UInt8)) : List UInt8 × Bool × List (List UInt8) := if ok then match ws with
 | [] => ([], false, [])
 | x :: r => (x, true, r) else ([], false, ws)
def RdStep (d : Nat) (s : Sl) (ok : Bool) (ws : List (List UInt8)) (w w' : World) : Prop := ∃ s', RdAt w' d s' ok ws ∧ Chg (fun q => q = d) w w' ∧ ∀ q, ownB s' q → ownB s q
theorem reader_word (h : RdAt w d s ok ws) : Ret Tryz.prog F.script_reader_word #[.pointer (some ⟨d, 0, none⟩)] w (fun v w' => v = .string (S (wordR ok ws).1) ∧ RdStep d s (wordR ok ws).2.1 (wordR ok ws).2.2 w w') := by
 refine W.script_reader_word_ok (some ⟨d, 0, none⟩) w _ ?_
 (delta W.script_reader_word r8 Br r1 st bd r2; dsimp only)
 have hl := h.len
 have hc1 : w.cell? (Addr.add ⟨d, 0, none⟩ 1) = some (.bool ok) := by rw [add_mk, h.v.cell]; rfl
 refine ⟨_, rfl, ok, hc1, Jn1 (fun b w' => b = (!ok || decide (ws = [])) ∧ w = w') (fun q hq => ⟨fun hk => hq _ _ ⟨by rw [hk]; rfl, rfl⟩, fun hk => ⟨_, rfl, s, h.v.cell, hq _ _ ⟨?_, rfl⟩⟩⟩) ?_⟩
 · rw [hk, Bool.false_or, hl]
   cases ws with
   | nil => rfl
   | cons x r => simp; omega
 rintro _ _ ⟨rfl, rfl⟩
 refine ⟨fun hb => ?_, fun hb => ?_⟩
 · have e : wordR ok ws = ([], false, ws) := by
     unfold wordR
     cases ok with
     | false => rfl
     | true =>
       have : ws = [] := by simpa using hb
       subst this; rfl
   rw [e]
   refine ⟨_, rfl, ⟨_, hc1⟩, by rw [add_mk]; exact Blk.frozen h.v _ rfl, ?_⟩
   rw [add_mk]
   refine nxSet h.v fun w9 hv9 hc9 _ => ⟨rfl, s, ⟨hv9, h.o.chg hc9 fun q hq e => h.ne (by subst e; exact hq), h.cap, h.ne, fun q hq => Nat.lt_of_lt_of_le (h.lt q hq) hc9.size, h.few⟩, hc9, fun _ h => h⟩
 · have hok : ok = true ∧ ws ≠ [] := by
     rw [Bool.or_eq_false_iff] at hb
     exact ⟨by simpa using hb.1, of_decide_eq_false hb.2⟩
   obtain ⟨rfl, hne⟩ := hok
   cases ws with
   | nil => exact absurd rfl hne
   | cons x r =>
     obtain ⟨A, hA, hbd, hcell⟩ := h.o.at (i := 0) (v := .string (S x)) rfl
     have hlen : s.len = r.length + 1 := by rw [hl]; rfl
     refine ⟨_, rfl, s, h.v.cell, A, hA, ⟨by omega, by omega⟩, _, hcell, _, rfl, s, h.v.cell, ⟨by omega, by omega⟩, _, rfl, ⟨_, h.v.cell⟩, Blk.frozen h.v _ rfl, nxSet h.v fun w9 hv9 hc9 _ => ⟨rfl, ⟨cutA s.a 1 1 s.cap, s.len - 1, s.cap - 1⟩, ⟨hv9, ?_, by show s.len - 1 ≤ s.cap - 1; have := h.cap; omega, ?_, fun q hq => Nat.lt_of_lt_of_le (h.lt q (cut_own hq)) hc9.size, fun y hy => h.few y (by simp [wordR] at hy; simp [hy])⟩, hc9, fun q hq => cut_own hq⟩⟩
     · have c1 := Src.sub h.o h.cap (lo := 1) (hi := s.len) (by omega) (Nat.le_refl _)
       rw [List.take_of_length_le (by rw [List.length_drop, strs_len]; simp; omega)] at c1
       exact Src.chg (W := fun q => q = d) c1 hc9 fun q hq e => h.ne (by subst e; exact cut_own hq)
     · exact fun hq => h.ne (cut_own hq)
theorem wordR_len (h : ∀ x ∈ ws, x.length ≤ 10000) : (wordR ok ws).1.length ≤ 10000 := by
 unfold wordR
 split
 · split
   · simp
   · exact h _ (by simp)
 · simp
theorem RdAt.mark {ok' : Bool} (h : RdAt w d s ok ws) {K : World → Prop} (hK : ∀ w', RdAt w' d s ok' ws → Chg (fun q => q = d) w w' → K w') :
   (∃ u : Value, w.cell? (Addr.add ⟨d, 0, none⟩ 1) = some u) ∧ w.frozen? (Addr.add ⟨d, 0, none⟩ 1) = false ∧ Nx (w.setCell (Addr.add ⟨d, 0, none⟩ 1) (.bool ok')) K := by
 rw [add_mk]
 exact ⟨⟨_, h.v.cell⟩, Blk.frozen h.v _ rfl, nxSet h.v fun w9 hv9 hc9 _ => hK w9 ⟨hv9, h.o.chg hc9 fun q hq e => h.ne (by subst e; exact hq), h.cap, h.ne, fun q hq => Nat.lt_of_lt_of_le (h.lt q hq) hc9.size, h.few⟩ hc9⟩
theorem RdAt.ok1 (h : RdAt w d s ok ws) : w.cell? (Addr.add ⟨d, 0, none⟩ 1) = some (.bool ok) := by rw [add_mk, h.v.cell]; rfl
theorem reader_int (h : RdAt w d s ok ws) (he : ∀ w', Chg (fun q => q = d) w w' → Errs w') : Ret Tryz.prog F.script_reader_int #[.pointer (some ⟨d, 0, none⟩)] w (fun v w' => ∃ (m : Int) (ok' : Bool), v = .int .i64 m ∧ RdStep d s ok' (wordR ok ws).2.2 w w' ∧ I64 m ∧
   (ok' = true → (wordR ok ws).2.1 = true) ∧ ∀ n : Int, I64 n → (wordR ok ws).1 = numI n → m = n ∧ ok' = (wordR ok ws).2.1) := by
 refine W.script_reader_int_ok (some ⟨d, 0, none⟩) w _ ?_
 (delta W.script_reader_int c4 c3 r8 Br st; dsimp only)
 have hwl := wordR_len (ok := ok) h.few
 refine (reader_word h).use ?_
 rintro _ w1 ⟨rfl, s1, h1, c1, o1⟩
 refine ⟨_, rfl, (AtoiI (wordR ok ws).1 (by omega) w1 (he w1 c1)).use ?_⟩
 rintro _ w4 ⟨⟨m, e, rfl, hee, hm, hnum⟩, hx4⟩
 have h4 := h1.ext hx4
 obtain ⟨bn, hbn, hbe⟩ : ∃ bn : Bool, ifaceNil e = some bn ∧ (e = .nilIface → bn = true) := by
   rcases hee with rfl | ⟨t, x, rfl⟩
   · exact ⟨true, rfl, fun _ => rfl⟩
   · exact ⟨false, rfl, fun h => by cases h⟩
 refine ⟨m, e, rfl, _, rfl, _, h4.ok1, Jn1 (fun b w' => b = ((wordR ok ws).2.1 && bn) ∧ w4 = w') (fun q hq => ⟨fun hb => ⟨bn, hbn, hq _ _ ⟨by rw [hb]; rfl, rfl⟩⟩, fun hb => hq _ _ ⟨by rw [hb]; rfl, rfl⟩⟩) ?_⟩
 rintro _ _ ⟨rfl, rfl⟩
 refine ⟨_, rfl, h4.mark fun w' h' c' => ⟨m, _, rfl, ⟨s1, h', (c1.trans (Chg.of_ext hx4)).trans c', o1⟩, hm, fun hb => by rw [Bool.and_eq_true] at hb; exact hb.1, fun n hn e2 => ?_⟩⟩
 obtain ⟨e3, e4⟩ := hnum n hn e2
 exact ⟨e3, by rw [hbe e4, Bool.and_true]⟩
theorem reader_long (h : RdAt w d s ok ws) (he : ∀ w', Chg (fun q => q = d) w w' → Errs w') : Ret Tryz.prog F.script_reader_long #[.pointer (some ⟨d, 0, none⟩)] w (fun v w' => ∃ (m : Int) (ok' : Bool), v = .int .u64 m ∧ RdStep d s ok' (wordR ok ws).2.2 w w' ∧
   (ok' = true → (wordR ok ws).2.1 = true ∧ 0 ≤ m ∧ m ≤ 18446744073709551615) ∧ ∀ n : Nat, n ≤ 18446744073709551615 → (wordR ok ws).1 = numB 10 n → m = n ∧ ok' = (wordR ok ws).2.1) := by
 refine W.script_reader_long_ok (some ⟨d, 0, none⟩) w _ ?_
 (delta W.script_reader_long c4 c7 r8 Br st; dsimp only)
 have hwl := wordR_len (ok := ok) h.few
 refine (reader_word h).use ?_
 rintro _ w1 ⟨rfl, s1, h1, c1, o1⟩
 refine ⟨_, rfl, (ParseUint (wordR ok ws).1 10 64 (by omega) (.inl rfl) (by omega) w1 (he w1 c1)).use ?_⟩
 rintro v w4 ⟨hv, hx4⟩
 have h4 := h1.ext hx4
 obtain ⟨m, e, bn, rfl, hbn, hr, hnum⟩ : ∃ (m : Int) (e : Value) (bn : Bool), v = Value.tuple #[.int .u64 m, e] ∧ ifaceNil e = some bn ∧ (bn = true → 0 ≤ m ∧ m ≤ 18446744073709551615) ∧ ∀ n : Nat, n ≤ 18446744073709551615 → (wordR ok ws).1 = numB 10 n → m = n ∧ bn = true := by
   cases hp : parseB 10 (2 ^ 64 - 1) (wordR ok ws).1 with
   | some k =>
     rw [hp] at hv
     have hk := parseB_le hp
     refine ⟨(k : Int), .nilIface, true, hv, rfl, fun _ => ⟨by omega, by omega⟩, fun n hn e => ⟨?_, rfl⟩⟩
     rw [e, parseB_num 10 (2 ^ 64 - 1) (by omega) (by omega) n (by omega)] at hp
     rw [Option.some.inj hp]
   | none =>
     rw [hp] at hv
     obtain ⟨m, t, x, hv⟩ := hv
     refine ⟨m, .iface t x, false, hv, rfl, fun h => (by cases h), fun n hn e => ?_⟩
     rw [e, parseB_num 10 (2 ^ 64 - 1) (by omega) (by omega) n (by omega)] at hp
     cases hp
 refine ⟨m, e, rfl, _, rfl, _, h4.ok1, Jn1 (fun b w' => b = ((wordR ok ws).2.1 && bn) ∧ w4 = w') (fun q hq => ⟨fun hb => ⟨bn, hbn, hq _ _ ⟨by rw [hb]; rfl, rfl⟩⟩, fun hb => hq _ _ ⟨by rw [hb]; rfl, rfl⟩⟩) ?_⟩
 rintro _ _ ⟨rfl, rfl⟩
 refine ⟨_, rfl, h4.mark fun w' h' c' => ⟨m, _, rfl, ⟨s1, h', (c1.trans (Chg.of_ext hx4)).trans c', o1⟩, fun hb => by rw [Bool.and_eq_true] at hb; exact ⟨hb.1, hr hb.2⟩, fun n hn e2 => ?_⟩⟩
 obtain ⟨e3, e4⟩ := hnum n hn e2
 exact ⟨e3, by rw [e4, Bool.and_true]⟩
end Go.Proofs.YtgljoledlhmhnaaGreatDoor
namespace Go.Proofs.YtgljoledlhmhnaaGreatDoor
open Go Gx
variable {w w' : World} {d : Nat} {s : Sl} {ok : Bool} {ws : List (List UInt8)}
theorem reader_on (h : RdAt w d s ok ws) : Ret Tryz.prog F.script_reader_on #[.pointer (some ⟨d, 0, none⟩)] w (fun v w' => v = .bool ((wordR ok ws).1 == [111, 110]) ∧ RdStep d s (wordR ok ws).2.1 (wordR ok ws).2.2 w w') := by
 refine W.script_reader_on_ok (some ⟨d, 0, none⟩) w _ ?_
 (delta W.script_reader_on c4; dsimp only)
 refine (reader_word h).use ?_
 rintro _ w1 ⟨rfl, h1⟩
 refine ⟨_, rfl, ?_, h1⟩
 have e : ByteArray.mk #[111, 110] = S [111, 110] := rfl
 rw [e, S_beq]
theorem reader_small (h : RdAt w d s ok ws) (he : ∀ w', Chg (fun q => q = d) w w' → Errs w') (k : Nat) (b : Nat) (hk : k = 8 ∧ b = 256 ∨ k = 16 ∧ b = 65536) : Ret Tryz.prog F.script_reader_small #[.pointer (some ⟨d, 0, none⟩), .int .i64 k] w (fun v w' => ∃ (m : Int) (ok' : Bool), v = .int .u64 m ∧ RdStep d s ok' (wordR ok ws).2.2 w w' ∧
   (ok' = true → (wordR ok ws).2.1 = true ∧ 0 ≤ m ∧ m < b) ∧ ∀ n : Nat, n < b → (wordR ok ws).1 = numB 10 n → m = n ∧ ok' = (wordR ok ws).2.1) := by
 refine W.script_reader_small_ok (some ⟨d, 0, none⟩) k w _ ?_
 (delta W.script_reader_small c18 r8 Br st; dsimp only)
 refine (reader_long h he).use ?_
 rintro _ w1 ⟨m, ok1, rfl, ⟨s1, h1, c1, o1⟩, hr, hnum⟩
 have e : IntKind.wrap .u64 (1 * 2 ^ (min (Int.toNat (k : Int)) 64)) = (b : Int) := by
   rcases hk with ⟨rfl, rfl⟩ | ⟨rfl, rfl⟩ <;> decide +kernel
 rw [e]
 refine ⟨m, rfl, _, rfl, _, h1.ok1, Jn1 (fun c w' => c = (ok1 && decide (m < (b : Int))) ∧ w1 = w') (fun q hq => ⟨fun hb => ⟨by omega, hq _ _ ⟨by rw [hb]; rfl, rfl⟩⟩, fun hb => hq _ _ ⟨by rw [hb]; rfl, rfl⟩⟩) ?_⟩
 rintro _ _ ⟨rfl, rfl⟩
 refine ⟨_, rfl, h1.mark fun w' h' c' => ⟨m, _, rfl, ⟨s1, h', c1.trans c', o1⟩, fun hb => ?_, fun n hn e2 => ?_⟩⟩
 · rw [Bool.and_eq_true, decide_eq_true_eq] at hb
   exact ⟨(hr hb.1).1, (hr hb.1).2.1, hb.2⟩
 · obtain ⟨e3, e4⟩ := hnum n (by omega) e2
   refine ⟨e3, ?_⟩
   rw [e4, decide_eq_true (by omega), Bool.and_true]
theorem reader_addr (h : RdAt w d s ok ws) (ht : ∀ w', Chg (fun q => q = d) w w' → Tabs w') : Ret Tryz.prog F.script_reader_addr #[.pointer (some ⟨d, 0, none⟩)] w (fun v w' => v = .agg ((parseA (wordR ok ws).1).getD Ad.zero).c.toArray ∧
   RdStep d s ((wordR ok ws).2.1 && (parseA (wordR ok ws).1).isSome) (wordR ok ws).2.2 w w') := by
 refine W.script_reader_addr_ok (some ⟨d, 0, none⟩) w _ ?_
 (delta W.script_reader_addr z6 c4 c14 c7 nA r8 st T26; dsimp only)
 have hwl := wordR_len (ok := ok) h.few
 refine nxVar (vs := Ad.zero.c) (by kernel_rfl) fun w1 hz1 hx1 hs1 => (reader_word (h.ext hx1)).use ?_
 rintro _ w2 ⟨rfl, s2, h2, c2, o2⟩
 have hdlt := h.v.lt
 have c02 : Chg (fun q => q = d) w w2 := (Chg.of_ext hx1).trans c2
 refine ⟨_, rfl, (addr_Parse (wordR ok ws).1 (by omega) w2 (ht w2 c02)).use ?_⟩
 rintro _ w5 ⟨rfl, hx5⟩
 obtain ⟨a, ha⟩ : ∃ a : Ad, a = (parseA (wordR ok ws).1).getD Ad.zero := ⟨_, rfl⟩
 rw [← ha]
 have hz5 := (hz1.chg c2 (by omega)).ext hx5
 refine ⟨_, _, rfl, nxVar (vs := Ad.zero.c) (by kernel_rfl) fun w9 hz9 hx9 hs9 => ⟨hz9.storeOk (by simp [Ad.c_length]) (by simpa using a.plain), by simp [Ad.c_length], nxPut hz9 (us := a.c) (by simp [Ad.c_length]) (by simp) fun w10 hv10 hc10 hs10 => ?_⟩⟩
 have h5 := h2.ext hx5
 have hx10 : Ext w5 w10 := Ext.of_chg hx9 hc10 (Nat.le_refl _)
 have h10 := h5.ext hx10
 have s12 := hx1.size; have s25 := c2.size; have s5 := hx5.size
 refine ⟨_, rfl, _, h10.ok1, _, rfl, h10.mark fun w14 h14 c14 => ?_⟩
 have hv14 := hv10.chg c14 (by omega)
 have hz14 := (hz5.ext hx10).chg c14 (by omega)
 refine ⟨_, hv14.rd (Ad.c_length _), hz14.storeOk (by simp [Ad.c_length]) (by simpa using a.plain), by simp [Ad.c_length], nxPut hz14 (us := a.c) (by simp [Ad.c_length]) (by simp) fun w16 hv16 hc16 _ => ⟨_, hv16.rd (Ad.c_length _), rfl, s2, ?_, ?_, o2⟩⟩
 · refine ⟨h14.v.chg hc16 (by omega), h14.o.chg hc16 fun q hq e => (by have := h.lt q (o2 q hq); omega), h14.cap, h14.ne, fun q hq => Nat.lt_of_lt_of_le (h14.lt q hq) hc16.size, h14.few⟩
 · have c014 : Chg (fun q => q = d) w w14 := (c02.trans (Chg.of_ext (Ext.trans hx5 hx10))).trans c14
   exact chgThen c014 hc16 fun q e => .inr (by subst e; exact Nat.le_refl _)
end Go.Proofs.YtgljoledlhmhnaaGreatDoor
namespace Go.Proofs.YtgljoledlhmhnaaGreatDoor
open Go Gx
variable {w w' : World}
theorem appU8s : AppT Tryz.prog Ty.Sl_uint8 Ty.uint8 1 1 := ⟨by kernel_rfl⟩
theorem script_on (is : Bool) (w : World) : Ret Tryz.prog F.script_on #[.bool is] w (fun v w' => v = .string (S (if is then [111, 110] else [111, 102, 102])) ∧ w = w') := by
 refine W.script_on_ok is w _ ?_
 delta W.script_on Br
 exact ⟨fun h => by subst h; exact ⟨rfl, rfl⟩, fun h => by subst h; exact ⟨rfl, rfl⟩⟩
structure BldF (w0 w : World) (B : Nat) (l : List UInt8) : Prop where
 ext : Ext w0 w
 new : w0.heap.size ≤ B
 st : ∃ (p : Option Addr) (s : Sl), (p = none ∧ l = [] ∨ p = some ⟨B, 0, none⟩) ∧ Blk w B #[.pointer p, .slice s.a s.len s.cap] Ty.strings_Builder ∧ OwnS 1 Ty.uint8 w s (u8s l) ∧ ∀ k, ownB s k → w0.heap.size ≤ k ∧ k ≠ B
theorem BldF.start (w : World) : BldF w (w.alloc (.cells #[.pointer none, .slice none 0 0] Ty.strings_Builder)) w.heap.size [] :=
 ⟨Chg.alloc (.refl _ _) _, Nat.le_refl _, none, ⟨none, 0, 0⟩, .inl ⟨rfl, rfl⟩, Blk.new _ _ _, OwnS.none _ _ _, fun k hk => (ownB_none k hk).elim⟩
theorem WriteByte {w0 w : World} {B : Nat} {l : List UInt8} (c : UInt8) (h : BldF w0 w B l) (hr : l.length ≤ 1000000000) :
   Ret Tryz.prog F.strings_Builder_WriteByte #[.pointer (some ⟨B, 0, none⟩), .int .u8 ((c.toNat : Nat) : Int)] w (fun v w' => v = .nilIface ∧ BldF w0 w' B (l ++ [c])) := by
 obtain ⟨hx, hnew, p, s, hp, hB, hs, hf⟩ := h
 refine W.strings_Builder_WriteByte_ok _ _ w _ ?_
 (delta W.strings_Builder_WriteByte c2 r1 nA st; dsimp only)
 refine (copyCheck0 (hp.imp And.left id) hB).use ?_
 rintro _ w1 ⟨rfl, hB1, c1⟩
 have hs1 := hs.chg c1 fun k hk e => (hf k hk).2 e
 have hx1 : Ext w0 w1 := Ext.of_new hx c1 fun q e => by subst e; exact hnew
 have hl : s.len = l.length := by have := hs.1; rw [u8s_length] at this; omega
 obtain ⟨s', w7, g1, g2, g3, g4, g5⟩ := appU8s.push (oT := Ty.Sl_uint8) (xs := [.int .u8 ((c.toNat : Nat) : Int)]) rfl hs1 (fun v hv => by rw [List.mem_singleton.1 hv]; trivial) (by omega)
 have hB7 : Blk w7 B #[.pointer (some ⟨B, 0, none⟩), .slice s.a s.len s.cap] Ty.strings_Builder := hB1.chg g4 fun hq => (hf B hq).2 rfl
 have hx7 : Ext w0 w7 := Ext.of_new hx1 g4 fun q hq => (hf q hq).1
 have hlt : B < w1.heap.size := hB1.lt
 refine ⟨rfl, _, rfl, s, by rw [add_mk, hB1.cell]; rfl, nx ⟨s', w7, g1, _, rfl, ⟨_, by rw [add_mk, hB7.cell]; rfl⟩, by rw [add_mk]; exact hB7.frozen _ rfl, nx ⟨rfl, ?_⟩⟩⟩
 rw [add_mk]
 have c9 : Chg (fun q => q = B) w7 (w7.setCell ⟨B, 0 + 1, none⟩ (.slice s'.a s'.len s'.cap)) := Chg.cellB (.refl _ _) _
 have hne : ∀ k, ownB s' k → w0.heap.size ≤ k ∧ k ≠ B := fun k hk => by
   rcases g5 k hk with h1 | h1
   · exact hf k h1
   · exact ⟨Nat.le_trans hx1.size h1, by omega⟩
 refine ⟨Ext.of_new hx7 c9 fun q e => by subst e; exact hnew, hnew, some ⟨B, 0, none⟩, s', .inr rfl, hB7.set (0 + 1) _, ?_, hne⟩
 have : u8s (l ++ [c]) = u8s l ++ [.int .u8 ((c.toNat : Nat) : Int)] := by simp [u8s]
 rw [this]
 exact g2.chg c9 fun k hk e => (hne k hk).2 e
theorem BldF.used {w0 w : World} {B : Nat} {l : List UInt8} (h : BldF w0 w B l) (h0 : l ≠ []) : Bld w0 w B l 0 := by
 obtain ⟨hx, hnew, p, s, hp, hB, hs, hf⟩ := h
 rcases hp with ⟨_, hl⟩ | rfl
 · exact absurd hl h0
 · exact ⟨hx, hnew, s, hB, hs, Nat.zero_le _, hf⟩
theorem hexN : ∀ c : Nat, c < 256 → Int.fdiv (c : Int) (2 ^ (min (Int.toNat 4) 8)) = ((c / 16 : Nat) : Int) ∧ bAnd .u8 (c : Int) 15 = ((c % 16 : Nat) : Int) := by decide +kernel
theorem hexT : ∀ i : Nat, i < 16 → byteAt (ByteArray.mk #[48, 49, 50, 51, 52, 53, 54, 55, 56, 57, 97, 98, 99, 100, 101, 102]) i = some (dig i) := by decide +kernel
theorem script_hex {b : Sl} {l : List UInt8} (hb : Src 1 w b (u8s l)) (hl : l.length ≤ 10000000) : Ret Tryz.prog F.script_hex #[.slice b.a b.len b.cap] w (fun v w' => v = .string (S (hexB l)) ∧ Ext w w') := by
 refine W.script_hex_ok b w _ ?_
 (delta W.script_hex Br z2 bd r4 c8 nA wI c4; dsimp only)
 have hlen : b.len = l.length := by have := hb.len; rw [u8s_length] at this; omega
 refine ⟨fun h => ⟨?_, .refl _ _⟩, fun h => nx ?_⟩
 · have h := eq_of_beq h
   have : l = [] := List.length_eq_zero_iff.1 (by omega)
   subst this; rfl
 have hne : l ≠ [] := fun e => by subst e; rw [hlen] at h; simp at h
 refine ⟨fun n w' => ∃ i : Nat, n = i ∧ i ≤ l.length ∧ BldF w w' w.heap.size ((l.take i).flatMap fun c => [dig (c.toNat / 16), dig (c.toNat % 16)]), fun n _ => ((l.length : Int) - n).toNat, ⟨0, rfl, Nat.zero_le _, by rw [List.take_zero]; exact BldF.start w⟩, ?_⟩
 rintro _ w5 ⟨i, rfl, hi, hB⟩
 refine ⟨fun hlt => ?_, fun hge => ?_⟩
 · have hlt : i < l.length := by have := of_decide_eq_true hlt; omega
   obtain ⟨A, hA, hbd, hc⟩ := (hb.ext hB.ext).at (u8s_get hlt)
   have hn := hexN (l[i]).toNat (l[i]).toNat_lt
   have hln := hexB_len (l.take i)
   rw [List.length_take, Nat.min_eq_left hi] at hln
   have h16 := (l[i]).toNat_lt
   refine ⟨A, hA, hbd, _, hc, by decide, ?_⟩
   rw [hn.1, hn.2]
   refine ⟨by omega, _, hexT ((l[i]).toNat / 16) (by omega), (WriteByte _ hB (by omega)).use ?_⟩
   rintro _ w9 ⟨rfl, hB9⟩
   refine ⟨_, rfl, by omega, _, hexT ((l[i]).toNat % 16) (by omega), (WriteByte _ hB9 (by simp [hln]; omega)).use ?_⟩
   rintro _ w13 ⟨rfl, hB13⟩
   have ew : IntKind.wrap .i64 ((i : Int) + 1) = ((i + 1 : Nat) : Int) := by rw [wrapi (by omega) (by omega)]; rfl
   have hms : ((l.length : Int) - ((i + 1 : Nat) : Int)).toNat < ((l.length : Int) - (i : Int)).toNat := by omega
   rw [ew]
   refine ⟨_, rfl, ⟨i + 1, rfl, hlt, ?_⟩, hms⟩
   rw [List.take_succ_eq_append_getElem hlt, List.flatMap_append, List.flatMap_cons, List.flatMap_nil, List.append_nil]
   rw [List.append_assoc] at hB13
   exact hB13
 · have hge : i = l.length := by have := of_decide_eq_false hge; omega
   subst hge
   rw [List.take_length] at hB
   have hbl := hexB_len l
   have hpos := List.length_pos_iff.2 hne
   refine (BString (hB.used fun e => by rw [e] at hbl; simp at hbl; omega) (fun e => by rw [e] at hbl; simp at hbl; omega) (by omega)).use ?_
   rintro _ w16 ⟨rfl, hx⟩
   refine ⟨_, rfl, ?_, hx⟩
   unfold hexB
   rw [if_neg hne]
end Go.Proofs.YtgljoledlhmhnaaGreatDoor
namespace Go.Proofs.YtgljoledlhmhnaaGreatDoor
open Go Gx
def kwL : List (List UInt8) := [[112, 97, 99, 107, 101, 116], [116, 105, 99, 107], [115, 101, 114, 118, 105, 99, 101], [100, 114, 111, 112], [98, 97, 99, 107, 101, 110, 100], [114, 101, 109, 111, 118, 101], [100, 114, 97, 105, 110], [119, 101, 105, 103, 104], [99, 104, 101, 99, 107], [115, 121, 110, 99], [99, 114, 97, 115, 104], [102, 97, 105, 108], [115, 112, 111, 105, 108], [109, 111, 117, 110, 116]]
def kw (k : Int) : List UInt8 := kwL.getD (k.toNat - 1) []
def onW (b : Bool) : List UInt8 := if b then [111, 110] else [111, 102, 102]
def argsOf (a : Stp) : List (List UInt8) :=
 if a.kind = 1 then [hexB a.data]
 else if a.kind = 2 then [numB 10 a.n.toNat]
 else if a.kind = 3 then [numI a.s.id, showA a.s.addr, numB 10 a.s.port.toNat, numB 10 a.s.proto.toNat, numI a.s.bits, numB 10 a.s.lasts.toNat]
 else if a.kind = 4 then [numI a.id]
 else if a.kind = 5 then [numI a.id, numI a.to.id, showA a.to.addr, numB 10 a.to.port.toNat, numI a.to.weight]
 else if a.kind = 6 ∨ a.kind = 12 then [numI a.id, numI a.bid]
 else if a.kind = 7 ∨ a.kind = 9 then [numI a.id, numI a.bid, onW a.on]
 else if a.kind = 8 ∨ a.kind = 13 then [numI a.id, numI a.bid, numB 10 a.n.toNat]
 else if a.kind = 11 then a.li.map numI
 else []
def wordsOf (a : Stp) : List (List UInt8) := kw a.kind :: argsOf a
def lineOf (a : Stp) : List UInt8 := joinB 32 (wordsOf a)
def stp0 (k : Int) : Stp := ⟨k, [], 0, 0, 0, false, Sv.zero, 0, Bk.zero, []⟩
def bare (a : Stp) : Stp :=
 if a.kind = 1 then { stp0 a.kind with data := a.data }
 else if a.kind = 2 then { stp0 a.kind with n := a.n }
 else if a.kind = 3 then { stp0 a.kind with s := a.s }
 else if a.kind = 4 then { stp0 a.kind with id := a.id }
 else if a.kind = 5 then { stp0 a.kind with id := a.id, to := { a.to with drained := false } }
 else if a.kind = 6 ∨ a.kind = 12 then { stp0 a.kind with id := a.id, bid := a.bid }
 else if a.kind = 7 ∨ a.kind = 9 then { stp0 a.kind with id := a.id, bid := a.bid, on := a.on }
 else if a.kind = 8 ∨ a.kind = 13 then { stp0 a.kind with id := a.id, bid := a.bid, n := a.n }
 else if a.kind = 11 then { stp0 a.kind with li := a.li }
 else stp0 a.kind
structure Lined (a : Stp) : Prop where
 lo : 1 ≤ a.kind
 hi : a.kind ≤ 14
 bare : bare a = a
 sg : a.s.addr.good = true
 tg : a.to.addr.good = true
open Classical in
noncomputable def showO (a : Stp) : List UInt8 := if Lined a ∧ (lineOf a).length ≤ 4200 then lineOf a else []
structure Vd (a : Stp) : Prop where
 id : I64 a.id
 bid : I64 a.bid
 n : 0 ≤ a.n ∧ a.n ≤ 18446744073709551615
 sid : I64 a.s.id
 sport : 0 ≤ a.s.port ∧ a.s.port ≤ 65535
 sproto : 0 ≤ a.s.proto ∧ a.s.proto ≤ 255
 sbits : I64 a.s.bits
 slasts : 0 ≤ a.s.lasts ∧ a.s.lasts ≤ 18446744073709551615
 tid : I64 a.to.id
 tport : 0 ≤ a.to.port ∧ a.to.port ≤ 65535
 tweight : I64 a.to.weight
 li : ∀ n ∈ a.li, I64 n
theorem getD_at {α : Type} {l : List α} {i : Nat} {d : α} (h : i < l.length) : l.getD i d = l[i] := by
 rw [List.getD_eq_getElem?_getD, List.getElem?_eq_getElem h]; rfl
theorem numI_nn {n : Int} (h : 0 ≤ n) : numI n = numB 10 n.toNat := by
 unfold numI
 rw [if_neg (by omega)]
 congr 1
 omega
theorem num_no32 (n : Nat) : (32 : UInt8) ∉ numB 10 n := numB_no (by decide) _ (.inr (.inr (.inr (.inl rfl))))
theorem numI_no32 (n : Int) : (32 : UInt8) ∉ numI n := by
 unfold numI
 split
 · intro h
   rcases List.mem_cons.1 h with h | h
   · exact absurd h (by decide)
   · exact num_no32 _ h
 · exact num_no32 _
theorem showA_no32 (a : Ad) : (32 : UInt8) ∉ showA a := by
 unfold showA
 split
 · split
   · intro h
     rcases mem_joinB h with h | ⟨l, hl, h⟩
     · exact absurd h (by decide)
     · obtain ⟨i, _, rfl⟩ := List.mem_map.1 hl
       exact numB_no (by decide) _ (.inr (.inr (.inr (.inl rfl)))) h
   · intro h
     rcases mem_joinB h with h | ⟨l, hl, h⟩
     · exact absurd h (by decide)
     · obtain ⟨c, _, rfl⟩ := List.mem_map.1 hl
       exact numB_no (by decide) _ (.inr (.inr (.inr (.inl rfl)))) h
 · intro h; cases h
theorem dig_no32 : ∀ d : Nat, d < 16 → dig d ≠ 32 ∧ dig d ≠ 10 := by decide +kernel
theorem hexB_no {c : UInt8} (hc : c = 32 ∨ c = 10) (l : List UInt8) : c ∉ hexB l := by
 unfold hexB
 split
 · rcases hc with rfl | rfl <;> decide
 · intro h
   obtain ⟨x, _, hx⟩ := List.mem_flatMap.1 h
   have h1 := dig_no32 (x.toNat / 16) (by have := x.toNat_lt; omega)
   have h2 := dig_no32 (x.toNat % 16) (by omega)
   simp only [List.mem_cons, List.not_mem_nil, or_false] at hx
   rcases hc with rfl | rfl <;> rcases hx with e | e <;> simp [← e] at h1 h2
theorem kw_no32 : ∀ k ∈ kwL, (32 : UInt8) ∉ k ∧ (10 : UInt8) ∉ k ∧ k.length ≤ 7 ∧ k ≠ [] := by decide +kernel
theorem kw_mem {k : Int} (h1 : 1 ≤ k) (h2 : k ≤ 14) : kw k ∈ kwL := by
 unfold kw
 have : k.toNat - 1 < kwL.length := by show _ < 14; omega
 rw [getD_at this]
 exact List.getElem_mem _
theorem kw_no {k : Int} : (32 : UInt8) ∉ kw k := by
 unfold kw
 rw [List.getD_eq_getElem?_getD]
 cases h : kwL[k.toNat - 1]? with
 | none => simp
 | some x => exact (kw_no32 x (List.mem_of_getElem? h)).1
theorem onW_no32 (b : Bool) : (32 : UInt8) ∉ onW b := by cases b <;> decide
theorem args_no32 (a : Stp) : ∀ l ∈ argsOf a, (32 : UInt8) ∉ l := by
 intro l hl
 unfold argsOf at hl
 have n0 := num_no32; have nI := numI_no32; have sA := showA_no32; have hx := hexB_no (c := 32) (.inl rfl); have ho := onW_no32
 split at hl
 · simp only [List.mem_cons, List.not_mem_nil, or_false] at hl; subst hl; exact hx _
 split at hl
 · simp only [List.mem_cons, List.not_mem_nil, or_false] at hl; subst hl; exact n0 _
 split at hl
 · simp only [List.mem_cons, List.not_mem_nil, or_false] at hl
   rcases hl with rfl | rfl | rfl | rfl | rfl | rfl
   · exact nI _
   · exact sA _
   · exact n0 _
   · exact n0 _
   · exact nI _
   · exact n0 _
 split at hl
 · simp only [List.mem_cons, List.not_mem_nil, or_false] at hl; subst hl; exact nI _
 split at hl
 · simp only [List.mem_cons, List.not_mem_nil, or_false] at hl
   rcases hl with rfl | rfl | rfl | rfl | rfl
   · exact nI _
   · exact nI _
   · exact sA _
   · exact n0 _
   · exact nI _
 split at hl
 · simp only [List.mem_cons, List.not_mem_nil, or_false] at hl; rcases hl with rfl | rfl <;> exact nI _
 split at hl
 · simp only [List.mem_cons, List.not_mem_nil, or_false] at hl
   rcases hl with rfl | rfl | rfl
   · exact nI _
   · exact nI _
   · exact ho _
 split at hl
 · simp only [List.mem_cons, List.not_mem_nil, or_false] at hl
   rcases hl with rfl | rfl | rfl
   · exact nI _
   · exact nI _
   · exact n0 _
 split at hl
 · obtain ⟨n, _, rfl⟩ := List.mem_map.1 hl; exact nI _
 · cases hl
theorem words_no32 (a : Stp) : ∀ l ∈ wordsOf a, (32 : UInt8) ∉ l := by
 intro l hl
 rcases List.mem_cons.1 hl with rfl | hl
 · exact kw_no
 · exact args_no32 a l hl
theorem split_line (a : Stp) : splitB 32 (lineOf a) = wordsOf a := split_join (by unfold wordsOf; simp) (words_no32 a)
theorem kw_inj : ∀ i : Nat, i < 14 → ∀ j : Nat, j < 14 → kwL.getD i [] = kwL.getD j [] → i = j := by decide +kernel
theorem showO_of {a : Stp} (h : Lined a) (hl : (lineOf a).length ≤ 4200) : showO a = lineOf a := by
 unfold showO
 rw [if_pos ⟨h, hl⟩]
theorem word_le {c : UInt8} : ∀ {ls : List (List UInt8)} {l : List UInt8}, l ∈ ls → l.length ≤ (joinB c ls).length
 | [x], l, h => by
   rw [List.mem_singleton.1 h]; exact Nat.le_refl _
 | x :: y :: r, l, h => by
   rw [joinB, List.length_append, List.length_cons]
   rcases List.mem_cons.1 h with rfl | h
   · omega
   · have := word_le (c := c) h; omega
theorem words_le {c : UInt8} : ∀ (ls : List (List UInt8)), ls.length ≤ (joinB c ls).length + 1
 | [] => by simp
 | [x] => by simp
 | x :: y :: r => by
   rw [joinB, List.length_append, List.length_cons]
   have := words_le (c := c) (y :: r)
   simp only [List.length_cons] at this ⊢
   omega
theorem line_data {a : Stp} (h : Lined a) (hl : (lineOf a).length ≤ 4200) : a.data.length ≤ 4200 := by
 by_cases hk : a.kind = 1
 · have h1 : hexB a.data ∈ wordsOf a := by unfold wordsOf argsOf; rw [if_pos hk]; simp
   have h2 := word_le (c := 32) h1
   unfold hexB at h2
   by_cases hd : a.data = []
   · rw [hd]; simp
   · rw [if_neg hd, hexB_len] at h2
     unfold lineOf at hl
     omega
 · have h1 := h.bare
   have h2 : a.data = [] := by
     rw [← h1]
     unfold bare stp0
     rw [if_neg hk]
     repeat' split
     all_goals rfl
   rw [h2]; simp
theorem line_li {a : Stp} (h : Lined a) (hl : (lineOf a).length ≤ 4200) : a.li.length ≤ 4200 := by
 by_cases hk : a.kind = 11
 · have h1 := words_le (c := 32) (wordsOf a)
   have h2 : (wordsOf a).length = a.li.length + 1 := by unfold wordsOf argsOf; simp [hk]
   unfold lineOf at hl
   omega
 · have h1 := h.bare
   have h2 : a.li = [] := by
     rw [← h1]
     unfold bare stp0
     repeat' split
     all_goals first | rfl | (exfalso; exact hk (by assumption))
   rw [h2]; simp
end Go.Proofs.YtgljoledlhmhnaaGreatDoor
namespace Go.Proofs.YtgljoledlhmhnaaGreatDoor
open Go Gx
variable {w w' : World}
def kwT : List UInt8 := joinB 32 kwL
def fsAt : Nat → Nat
 | 0 => 0
 | i + 1 => if kwT.getD i 0 = 32 then i + 1 else fsAt i
def cntAt : Nat → Nat
 | 0 => 0
 | i + 1 => if kwT.getD i 0 = 32 then cntAt i + 1 else cntAt i
def begAt : Nat → Nat
 | 0 => 0
 | i + 1 => begAt i + if (i == 0 || kwT.getD (i - 1) 0 == 32) && kwT.getD i 0 != 32 then 1 else 0
def spAt (i : Nat) : Bool := i == 0 || kwT.getD (i - 1) 0 == 32
theorem kwT_len : kwT.length = 85 := by decide +kernel
theorem begAt_end : begAt 85 = 14 := by decide +kernel
theorem kw_step : ∀ i, i < 85 → (kwT.getD i 0).toNat < 128 ∧ begAt i ≤ 14 ∧ cntAt i ≤ 13 ∧ fsAt i ≤ i ∧ (kwT.getD i 0 ≠ 32 → 33 ≤ (kwT.getD i 0).toNat) ∧
   (kwT.getD i 0 = 32 → i + 1 < 85 ∧ kwT.getD (i + 1) 0 ≠ 32 ∧ cntAt i < 13 ∧ fsAt (i + 1) = i + 1 ∧ cntAt (i + 1) = cntAt i + 1 ∧ (kwT.drop (fsAt i)).take (i - fsAt i) = kwL.getD (cntAt i) []) := by decide +kernel
theorem kw_end : cntAt 85 = 13 ∧ fsAt 85 < 85 ∧ kwT.drop (fsAt 85) = kwL.getD 13 [] := by decide +kernel
theorem kw_front : kwT.getD 0 0 ≠ 32 := by decide +kernel
def TabSp (w : World) : Prop := ∀ i, i < 256 → w.cell? ⟨G.strings_asciiSpace, i, none⟩ = some (.int .u8 (if i = 9 ∨ i = 10 ∨ i = 11 ∨ i = 12 ∨ i = 13 ∨ i = 32 then 1 else 0))
theorem TabSp.ext (h : TabSp w) (hx : Ext w w') : TabSp w' := fun i hi => cell_ext hx (h i hi)
theorem TabSp.at (h : TabSp w) {i : Nat} (hi : i < 85) {A : Addr} (hA : A = ⟨G.strings_asciiSpace, (kwT.getD i 0).toNat, none⟩) : w.cell? A = some (.int .u8 (if kwT.getD i 0 = 32 then 1 else 0)) := by
 subst hA
 have k := kw_step i hi
 rw [h _ (by omega)]
 by_cases e : kwT.getD i 0 = 32
 · rw [if_pos e, if_pos (by rw [e]; decide)]
 · rw [if_neg e, if_neg (by have := k.2.2.2.2.1 e; have : ¬ (kwT.getD i 0).toNat = 32 := fun h => e (UInt8.toNat_inj.1 h); omega)]
theorem kw_byte {i : Nat} (h : i < 85) : byteAt (S kwT) i = some (kwT.getD i 0) := by
 rw [S_byteAt, List.getD_eq_getElem?_getD, List.getElem?_eq_getElem (by rw [kwT_len]; exact h)]; rfl
theorem sp_bits : ∀ a : Bool, ∀ b : Bool, bAnd .i64 (if a then 1 else 0) (bXor .i64 (-1) (IntKind.wrap .i64 (if b then 1 else 0))) = (if a && !b then 1 else 0) := by decide +kernel
theorem or128 {a b : Nat} (ha : a < 128) (hb : b < 128) : ∃ m : Nat, bOr .u8 (a : Int) (b : Int) = (m : Int) ∧ m < 128 := by
 refine ⟨a ||| b, bOr8 (by show a < 256; omega) (by show b < 256; omega), Nat.or_lt_two_pow (n := 7) ha hb⟩
theorem addG (g n : Nat) : Addr.add ⟨g, 0, none⟩ (Int.toNat ((n : Nat) : Int) * 1) = ⟨g, n, none⟩ := by rw [add_mk, Nat.mul_one, Nat.zero_add]; rfl
theorem Fields_kw (w : World) (ht : TabSp w) : Ret Tryz.prog F.strings_Fields #[.string (S kwT)] w (fun v w' => ∃ s : Sl, v = .slice s.a s.len s.cap ∧ OwnS 1 Ty.string w' s (strs kwL) ∧ Ext w w' ∧ ∀ k, ownB s k → w.heap.size ≤ k) := by
 refine W.strings_Fields_ok (S kwT) w _ ?_
 (delta W.strings_Fields Br r4 wI c5 mI T19 nA st; dsimp only)
 rw [S_size, kwT_len]
 refine ⟨fun a b c d w' => ∃ (i m : Nat), d = i ∧ i ≤ 85 ∧ a = ((begAt i : Nat) : Int) ∧ b = (if spAt i then 1 else 0) ∧ c = m ∧ m < 128 ∧ w = w', fun _ _ _ d _ => (85 - d).toNat, ⟨0, 0, rfl, by omega, rfl, rfl, rfl, by omega, rfl⟩, ?_⟩
 rintro _ _ _ _ _ ⟨i, m, rfl, hi, rfl, rfl, rfl, hm, rfl⟩
 refine ⟨fun h => ?_, fun h => ⟨fun h2 => ?_, fun _ => ?_⟩⟩
 · have h : i < 85 := by have := of_decide_eq_true h; omega
   have k := kw_step i h
   obtain ⟨c, hc⟩ : ∃ c, c = kwT.getD i 0 := ⟨_, rfl⟩
   refine ⟨by omega, kwT.getD i 0, kw_byte (i := i) h, ⟨by omega, by omega⟩, _, ht.at h (addG _ _), ?_⟩
   obtain ⟨m', hm', hm2⟩ := or128 hm k.1
   have e1 : (if kwT.getD i 0 = 32 then (1 : Int) else 0) = (if (kwT.getD i 0 == 32) then 1 else 0) := by simp
   have e2 : IntKind.wrap .i64 (if (kwT.getD i 0 == 32) then (1 : Int) else 0) = (if (kwT.getD i 0 == 32) then 1 else 0) := by split <;> rfl
   rw [e1, sp_bits, hm', e2]
   have hb : begAt (i + 1) = begAt i + (if spAt i && !(kwT.getD i 0 == 32) then 1 else 0) := rfl
   have hs : spAt (i + 1) = (kwT.getD i 0 == 32) := by simp [spAt]
   have ew : IntKind.wrap .i64 ((i : Int) + 1) = ((i + 1 : Nat) : Int) := by rw [wrapi (by omega) (by omega)]; rfl
   have hms : ((85 : Int) - ((i + 1 : Nat) : Int)).toNat < ((85 : Int) - (i : Int)).toNat := by omega
   rw [ew]
   refine ⟨⟨i + 1, m', rfl, h, ?_, by rw [hs], rfl, hm2, rfl⟩, hms⟩
   rw [hb]
   split
   · rw [wrapi (by omega) (by omega)]; omega
   · rw [wrapi (by omega) (by omega)]; omega
 · have := of_decide_eq_true h2; omega
 · have hi : i = 85 := by have := of_decide_eq_false h; omega
   subst hi
   rw [begAt_end]
   refine ⟨⟨by omega, by omega, by omega, by omega⟩, ?_⟩
   rw [show Int.toNat ((14 : Nat) : Int) = 14 from rfl, zrow_string]
   have hx1 : Ext w (w.alloc (.cells (List.replicate 14 (Value.string (S []))).toArray Ty.string)) := Chg.alloc (.refl _ _) _
   have ho1 : OwnS 1 Ty.string (w.alloc (.cells (List.replicate 14 (Value.string (S []))).toArray Ty.string)) ⟨some ⟨w.heap.size, 0, none⟩, 14, 14⟩ (List.replicate 14 (.string (S []))) := OwnS.new w _ 14 (by simp) (by show 14 ≤ 2 ^ 63 - 1; omega)
   obtain ⟨w1, hw1⟩ : ∃ w1, w1 = w.alloc (.cells (List.replicate 14 (Value.string (S []))).toArray Ty.string) := ⟨_, rfl⟩
   rw [← hw1] at hx1 ho1 ⊢
   have fin : ∀ {w2 : World} (n : Nat), n ≤ 13 → Ext w w2 → OwnS 1 Ty.string w2 ⟨some ⟨w.heap.size, 0, none⟩, 14, 14⟩ (strs (kwL.take n) ++ List.replicate (14 - n) (.string (S []))) →
       (∃ u : Value, w2.cell? (Addr.add ⟨w.heap.size, 0, none⟩ (Int.toNat ((n : Nat) : Int) * 1)) = some u) ∧ w2.frozen? (Addr.add ⟨w.heap.size, 0, none⟩ (Int.toNat ((n : Nat) : Int) * 1)) = false ∧
         ∀ K : World → Prop, (∀ w3, Ext w w3 → OwnS 1 Ty.string w3 ⟨some ⟨w.heap.size, 0, none⟩, 14, 14⟩ (strs (kwL.take (n + 1)) ++ List.replicate (14 - (n + 1)) (.string (S []))) → K w3) → Nx (w2.setCell (Addr.add ⟨w.heap.size, 0, none⟩ (Int.toNat ((n : Nat) : Int) * 1)) (.string (S (kwL.getD n [])))) K := by
     intro w2 n hn hx2 ho2
     have hlen : (kwL.take n).length = n := by rw [List.length_take]; show min n 14 = n; omega
     obtain ⟨A, hA, _, hc, hf, _, hset⟩ := ho2.at (i := n) (v := .string (S [])) (by
       rw [List.getElem?_append_right (by rw [strs_length, hlen]; exact Nat.le_refl _), strs_length, hlen, Nat.sub_self, show 14 - n = (14 - n - 1) + 1 by omega]
       rfl)
     obtain rfl : A = ⟨w.heap.size, 0, none⟩ := by simpa using hA.symm
     refine ⟨⟨_, hc⟩, hf, fun K hK => hK _ (hx2.set (by rw [add_mk]; exact Nat.le_refl _) _) ?_⟩
     have := hset (.string (S (kwL.getD n [])))
     rw [List.set_append_right (h := by rw [strs_length, hlen]; exact Nat.le_refl _), strs_length, hlen, Nat.sub_self, show 14 - n = (14 - (n + 1)) + 1 by omega, List.replicate_succ, List.set_cons_zero] at this
     have e : kwL.take (n + 1) = kwL.take n ++ [kwL.getD n []] := by
       rw [List.take_succ_eq_append_getElem (by show n < 14; omega), getD_at (show n < kwL.length from by show n < 14; omega)]
     rw [e, strs_append, List.append_assoc]
     exact this
   refine nx ⟨fun n w' => n = 0 ∧ w1 = w', fun _ _ => 0, ⟨rfl, rfl⟩, ?_⟩
   rintro _ _ ⟨rfl, rfl⟩
   refine Jn1 (fun b w' => b = false ∧ w1 = w') (fun q hq => ⟨fun _ => ⟨by omega, kwT.getD 0 0, kw_byte (i := 0) (by omega), ⟨by omega, by have := (kwT.getD 0 0).toNat_lt; omega⟩, _, (ht.ext hx1).at (i := 0) (by omega) (addG _ _), hq _ _ ⟨by rw [if_neg kw_front]; rfl, rfl⟩⟩, fun h => by simp at h⟩) ?_
   rintro _ _ ⟨rfl, rfl⟩
   refine ⟨fun h => (by cases h), fun _ => ?_⟩
   refine ⟨fun a b c w' => ∃ i : Nat, c = i ∧ i ≤ 85 ∧ a = ((cntAt i : Nat) : Int) ∧ b = ((fsAt i : Nat) : Int) ∧ Ext w w' ∧ OwnS 1 Ty.string w' ⟨some ⟨w.heap.size, 0, none⟩, 14, 14⟩ (strs (kwL.take (cntAt i)) ++ List.replicate (14 - cntAt i) (.string (S []))), fun _ _ c _ => (85 - c).toNat, ⟨0, rfl, by omega, rfl, rfl, hx1, ho1⟩, ?_⟩
   rintro _ _ _ w2 ⟨i, rfl, hi, rfl, rfl, hx2, ho2⟩
   have ew : IntKind.wrap .i64 ((i : Int) + 1) = ((i + 1 : Nat) : Int) := by rw [wrapi (by omega) (by omega)]; rfl
   refine ⟨fun h => ?_, fun h => ?_⟩
   · have h : i < 85 := by have := of_decide_eq_true h; omega
     have k := kw_step i h
     have hms : ((85 : Int) - ((i + 1 : Nat) : Int)).toNat < ((85 : Int) - (i : Int)).toNat := by omega
     refine ⟨by omega, kwT.getD i 0, kw_byte (i := i) h, ⟨by omega, by omega⟩, _, (ht.ext hx2).at h (addG _ _), fun h2 => ?_, fun h2 => ?_⟩
     · have hne : kwT.getD i 0 ≠ 32 := fun e => by rw [if_pos e] at h2; cases h2
       rw [ew]
       refine ⟨⟨i + 1, rfl, h, ?_, ?_, hx2, ?_⟩, hms⟩
       · rw [cntAt, if_neg hne]
       · rw [fsAt, if_neg hne]
       · rw [cntAt, if_neg hne]; exact ho2
     · have he : kwT.getD i 0 = 32 := by
         apply Classical.byContradiction
         intro hne; rw [if_neg hne] at h2; cases h2
       obtain ⟨k1, k2, k3, k4, k5, k6⟩ := k.2.2.2.2.2 he
       obtain ⟨f1, f2, f3⟩ := fin (cntAt i) (by omega) hx2 ho2
       have e3 : ByteArray.extract (S kwT) (Int.toNat ((fsAt i : Nat) : Int)) (Int.toNat (i : Int)) = S (kwL.getD (cntAt i) []) := by
         rw [Int.toNat_natCast, Int.toNat_natCast, S_extract, k6]
       rw [ew, e3]
       have hfs := k.2.2.2.1
       refine ⟨⟨by omega, by omega⟩, ⟨by omega, by simp; omega⟩, _, rfl, ⟨by omega, by omega⟩, f1, f2, f3 _ fun w3 hx3 ho3 => ?_⟩
       refine ⟨fun n w' => n = ((i + 1 : Nat) : Int) ∧ w3 = w', fun _ _ => 0, ⟨rfl, rfl⟩, ?_⟩
       rintro _ _ ⟨rfl, rfl⟩
       refine Jn1 (fun b w' => b = false ∧ w3 = w') (fun q hq => ⟨fun _ => ⟨by omega, kwT.getD (i + 1) 0, kw_byte (i := i + 1) k1, ⟨by omega, by have := (kwT.getD (i + 1) 0).toNat_lt; omega⟩, _, (ht.ext hx3).at k1 (addG _ _), hq _ _ ⟨by rw [if_neg k2]; rfl, rfl⟩⟩, fun h => by have := of_decide_eq_false h; omega⟩) ?_
       rintro _ _ ⟨rfl, rfl⟩
       refine ⟨fun h => (by cases h), fun _ => ⟨⟨i + 1, rfl, h, ?_, by rw [k4], hx3, by rw [k5]; exact ho3⟩, hms⟩⟩
       rw [k5, wrapi (by omega) (by omega)]; rfl
   · have hi : i = 85 := by have := of_decide_eq_false h; omega
     subst hi
     obtain ⟨k1, k2, k3⟩ := kw_end
     obtain ⟨f1, f2, f3⟩ := fin (cntAt 85) (by omega) hx2 ho2
     have e3 : ByteArray.extract (S kwT) (Int.toNat ((fsAt 85 : Nat) : Int)) 85 = S (kwL.getD (cntAt 85) []) := by
       rw [Int.toNat_natCast, S_extract, k1, ← k3, List.take_of_length_le (by rw [List.length_drop, kwT_len]; exact Nat.le_refl _)]
     rw [e3]
     refine Jn0 (fun w' => Ext w w' ∧ OwnS 1 Ty.string w' ⟨some ⟨w.heap.size, 0, none⟩, 14, 14⟩ (strs kwL)) (fun q hq => ⟨fun _ => ⟨⟨by omega, by omega⟩, _, rfl, ⟨by omega, by omega⟩, f1, f2, f3 _ fun w3 hx3 ho3 => hq _ ⟨hx3, ?_⟩⟩, fun h => by have := of_decide_eq_false h; omega⟩) ?_
     · rw [k1] at ho3
       have e4 : kwL.take (13 + 1) = kwL := rfl
       rw [e4, show 14 - (13 + 1) = 0 from rfl, List.replicate_zero, List.append_nil] at ho3
       exact ho3
     · rintro w3 ⟨hx3, ho3⟩
       refine ⟨⟨some ⟨w.heap.size, 0, none⟩, 14, 14⟩, rfl, ho3, hx3, fun k hk => ?_⟩
       rw [ownB_some] at hk
       exact Nat.le_of_eq hk
theorem script_names (w : World) (ht : TabSp w) : Ret Tryz.prog F.script_names #[] w (fun v w' => ∃ s : Sl, v = .slice s.a s.len s.cap ∧ OwnS 1 Ty.string w' s (strs kwL) ∧ Ext w w' ∧ ∀ k, ownB s k → w.heap.size ≤ k) := by
 refine W.script_names_ok w _ ?_
 (delta W.script_names c5; dsimp only)
 refine (Fields_kw w ht).use ?_
 rintro _ w1 ⟨s, rfl, h⟩
 exact ⟨s, rfl, s, rfl, h⟩
end Go.Proofs.YtgljoledlhmhnaaGreatDoor
namespace Go.Proofs.YtgljoledlhmhnaaGreatDoor
open Go Gx
variable {w w' : World}
def MaxAt (w : World) : Prop := ∃ m : Int, w.cell? ⟨G.internal_bytealg_MaxLen, 0, none⟩ = some (.int .i64 m)
theorem MaxAt.ext (h : MaxAt w) (hx : Ext w w') : MaxAt w' := by
 obtain ⟨m, h⟩ := h
 exact ⟨m, cell_ext hx h⟩
def digT : List UInt8 := [48, 49, 50, 51, 52, 53, 54, 55, 56, 57, 97, 98, 99, 100, 101, 102]
theorem digT_low : ∀ c ∈ digT, c.toNat < 128 := by decide +kernel
theorem digT_at : ∀ d : Nat, d < 16 → idxB (dig d) digT = some d := by decide +kernel
theorem idx_high {c : UInt8} (h : 128 ≤ c.toNat) (l : List UInt8) (hl : ∀ x ∈ l, x.toNat < 128) : Lib.indexByte l c = -1 := by
 rw [indexByte_idxB, idxB_none.2 (fun hm => by have := hl c hm; omega)]
theorem index_high {c : UInt8} {t : List UInt8} (h : 128 ≤ c.toNat) : Lib.index digT (c :: t) = -1 := by
 refine Lib.index_none fun j _ => ?_
 cases ho : Lib.occAt digT (c :: t) j with
 | false => rfl
 | true =>
   have h1 := Lib.occAt_head rfl ho
   have h2 := digT_low c (List.mem_of_getElem? h1)
   omega
theorem IndexHigh (c : UInt8) (t : List UInt8) (h : 128 ≤ c.toNat) (h1 : 1 ≤ t.length) (h2 : t.length ≤ 3) (w : World) (hm : MaxAt w) :
   Ret Tryz.prog F.strings_Index #[.string (S digT), .string (S (c :: t))] w (fun v w' => v = .int .i64 (-1) ∧ w = w') := by
 refine W.strings_Index_ok _ _ w _ ?_
 (delta W.strings_Index c1; dsimp only)
 refine Calls.mono (W.internal_stringslite_Index_ok (S digT) (S (c :: t)) w (fun v w' => v = .int .i64 (-1) ∧ w = w') ?_) ?_
 · (delta W.internal_stringslite_Index Br c1 r3 wI; dsimp only)
   rw [S_size, S_size, S_toList, S_toList]
   have hlen : (c :: t).length = t.length + 1 := rfl
   have hd : digT.length = 16 := rfl
   have hne : (c :: t == digT) = false := by
     refine beq_false_of_ne fun e => ?_
     have := congrArg List.length e
     rw [hlen, hd] at this
     omega
   rw [hlen, hd, hne]
   obtain ⟨m, hm⟩ := hm
   refine ⟨fun h => ?_, fun _ => ⟨fun h => ?_, fun _ => ⟨fun h => ?_, fun _ => ⟨m, hm, fun hb => ?_, fun hb => ?_⟩⟩⟩⟩
   · rw [Bool.or_false] at h; have := eq_of_beq h; omega
   · have := eq_of_beq h; omega
   · have := of_decide_eq_true h; omega
   · refine ⟨-1, w, ?_, rfl, rfl⟩
     rw [Bool.and_eq_true, decide_eq_true_eq, decide_eq_true_eq] at hb
     rw [run_callFunc_extern (e := Extern.BytealgIndex.index) Tryz.func116 rfl rfl rfl rfl]
     rw [Lib.run_indexString (S digT) (S (c :: t)) w G.internal_bytealg_MaxLen m (by kernel_rfl) hm (by rw [S_size]; omega) (by rw [S_size, hlen]; omega) (by rw [S_size]; decide)]
     rw [show (S digT).data.toList = digT from rfl, show (S (c :: t)).data.toList = c :: t from rfl, index_high h]
     rfl
   · cases t with
     | nil => simp at h1
     | cons b t =>
       refine ⟨by omega, c, rfl, by omega, b, rfl, fun i n w' => i = 0 ∧ n = 0 ∧ w = w', fun _ _ _ => 0, ⟨rfl, rfl, rfl⟩, ?_⟩
       rintro _ _ _ ⟨rfl, rfl, rfl⟩
       simp only [List.length_cons] at h2 hb ⊢
       have ew : IntKind.wrap .i64 ((IntKind.wrap .i64 (((16 : Nat) : Int) - ((t.length + 1 + 1 : Nat) : Int))) + 1) = ((15 - t.length : Nat) : Int) := by
         rw [wrapi (n := ((16 : Nat) : Int) - ((t.length + 1 + 1 : Nat) : Int)) (by omega) (by omega), wrapi (by omega) (by omega)]; omega
       refine ⟨fun _ => ?_, fun h => (by simp)⟩
       refine Jn1 (fun _ _ => False) (fun q hq => ⟨by omega, 48, rfl, fun _ => ?_, fun h3 => ?_⟩) (fun _ _ h => h.elim)
       · rw [ew]
         refine ⟨⟨by omega, by omega⟩, ⟨by decide, ?_⟩, ?_⟩
         · rw [Int.toNat_natCast, show IntKind.wrap .i64 (0 + 1) = 1 from rfl]; omega
         rw [S_extract]
         refine Calls.mono (W.internal_stringslite_IndexByte_ok (S _) _ w (fun v w' => v = .int .i64 (-1) ∧ w = w') ?_) ?_
         · unfold W.internal_stringslite_IndexByte
           refine ⟨_, w, IndexByteString _ c w, ?_, rfl⟩
           rw [idx_high h _ (fun x hx => digT_low x (List.drop_subset _ _ (List.take_subset _ _ hx)))]
         · rintro _ _ ⟨_, rfl, rfl, rfl⟩
           exact ⟨-1, rfl, fun _ => ⟨trivial, rfl⟩, fun h => by simp at h⟩
       · exfalso
         have h3 : ¬ ((48 : UInt8).toNat : Int) ≠ ((c.toNat : Nat) : Int) := by simpa using h3
         have : (48 : UInt8).toNat = 48 := rfl
         omega
 · rintro _ _ ⟨_, rfl, rfl, rfl⟩
   exact ⟨-1, rfl, rfl, rfl⟩
theorem encode_low (c : UInt8) (h : c.toNat < 128) : Utf8.encode ((c.toNat : Nat) : Int) = S [c] := by
 have hv : Utf8.valid ((c.toNat : Nat) : Int) = true := by
   unfold Utf8.valid
   rw [Bool.or_eq_true]; left
   rw [Bool.and_eq_true, decide_eq_true_eq, decide_eq_true_eq]; omega
 unfold Utf8.encode
 simp only [hv, if_true, Int.toNat_natCast, h]
 show ByteArray.mk #[UInt8.ofNat c.toNat] = S [c]
 rw [UInt8.ofNat_toNat]; rfl
theorem encode_high (r : Int) (h : 128 ≤ r) : ∃ (c : UInt8) (t : List UInt8), Utf8.encode r = S (c :: t) ∧ 128 ≤ c.toNat ∧ 1 ≤ t.length ∧ t.length ≤ 3 := by
 unfold Utf8.encode
 obtain ⟨c, hc⟩ : ∃ c, c = (if Utf8.valid r = true then r.toNat else Utf8.runeError) := ⟨_, rfl⟩
 have hlo : 128 ≤ c := by
   rw [hc]; split
   · omega
   · decide
 have hhi : c ≤ 1114111 := by
   rw [hc]; split
   · rename_i hv
     unfold Utf8.valid at hv
     simp only [Bool.or_eq_true, Bool.and_eq_true, decide_eq_true_eq] at hv
     omega
   · decide
 simp only [← hc]
 rw [if_neg (by omega)]
 split
 · exact ⟨_, [_], rfl, by rw [ofNat_val (by omega)]; omega, by simp, by simp⟩
 · split
   · exact ⟨_, [_, _], rfl, by rw [ofNat_val (by omega)]; omega, by simp, by simp⟩
   · exact ⟨_, [_, _, _], rfl, by rw [ofNat_val (by omega)]; omega, by simp, by simp⟩
theorem IndexRune (r : Int) (h0 : 0 ≤ r) (w : World) (hm : MaxAt w) : Ret Tryz.prog F.strings_Index #[.string (S digT), .string (Utf8.encode r)] w (fun v w' => w = w' ∧ (v = .int .i64 (-1) ∨ ∃ d : Nat, v = .int .i64 d ∧ d < 16) ∧ ∀ d : Nat, d < 16 → r = (((dig d).toNat : Nat) : Int) → v = .int .i64 d) := by
 by_cases h : r < 128
 · obtain ⟨c, rfl⟩ : ∃ c : UInt8, r = ((c.toNat : Nat) : Int) := ⟨UInt8.ofNat r.toNat, by rw [ofNat_val (by omega)]; omega⟩
   rw [encode_low c (by omega)]
   refine (Index1 digT c w).mono ?_
   rintro _ _ ⟨rfl, rfl⟩
   refine ⟨rfl, ?_, fun d hd e => ?_⟩
   · rw [indexByte_idxB]
     cases hi : idxB c digT with
     | none => exact .inl rfl
     | some i => exact .inr ⟨i, rfl, idxB_lt hi⟩
   · have : c = dig d := UInt8.toNat_inj.1 (by omega)
     rw [this, indexByte_idxB, digT_at d hd]
 · obtain ⟨c, t, he, h1, h2, h3⟩ := encode_high r (by omega)
   rw [he]
   refine (IndexHigh c t h1 h2 h3 w hm).mono ?_
   rintro _ _ ⟨rfl, rfl⟩
   refine ⟨rfl, .inl rfl, fun d hd e => ?_⟩
   have : ∀ d : Nat, d < 16 → (dig d).toNat < 128 := by decide +kernel
   have := this d hd
   omega
theorem nib_row : ∀ a : Nat, a < 16 → ∀ b : Nat, b < 16 → IntKind.wrap .u8 (bOr .i64 (IntKind.wrap .i64 ((a : Int) * 2 ^ (min (Int.toNat 4) 64))) (b : Int)) = (((UInt8.ofNat (a * 16 + b)).toNat : Nat) : Int) := by decide +kernel
theorem hex_get {d : List UInt8} {j : Nat} (h : j < d.length) : (d.flatMap fun c => [dig (c.toNat / 16), dig (c.toNat % 16)])[2 * j]? = some (dig (d[j].toNat / 16)) ∧ (d.flatMap fun c => [dig (c.toNat / 16), dig (c.toNat % 16)])[2 * j + 1]? = some (dig (d[j].toNat % 16)) := by
 induction d generalizing j with
 | nil => simp at h
 | cons x d ih =>
   rw [List.flatMap_cons]
   cases j with
   | zero => exact ⟨rfl, rfl⟩
   | succ j =>
     have h' : j < d.length := by simpa using h
     have := ih h'
     rw [show 2 * (j + 1) = 2 * j + 2 by omega, show 2 * j + 2 + 1 = (2 * j + 1) + 2 by omega]
     exact this
theorem hexB_cons {d : List UInt8} (h : hexB d ≠ [45]) : hexB d = d.flatMap fun c => [dig (c.toNat / 16), dig (c.toNat % 16)] := by
 unfold hexB at h ⊢
 by_cases hd : d = []
 · rw [if_pos hd] at h; exact absurd rfl h
 · rw [if_neg hd]
theorem hexB_dash {d : List UInt8} (h : hexB d = [45]) : d = [] := by
 unfold hexB at h
 by_cases hd : d = []
 · exact hd
 · rw [if_neg hd] at h
   have := hexB_len d
   rw [h] at this
   simp at this; omega
theorem get_of_decode {l : List UInt8} {p : Nat} (h : p < l.length) (hc : l[p].toNat < 128) : Utf8.decode (S l) p = (l[p].toNat, 1) := decode_ascii (S l) p h hc
theorem script_unhex (l : List UInt8) (hl : l.length ≤ 10000) (w : World) (hm : MaxAt w) : Ret Tryz.prog F.script_unhex #[.string (S l)] w (fun v w' => ∃ (s : Sl) (b : List UInt8) (ok : Bool), v = .tuple #[.slice s.a s.len s.cap, .bool ok] ∧ Src 1 w' s (u8s b) ∧ b.length ≤ 10000 ∧ (∀ k, ownB s k → w.heap.size ≤ k) ∧ Ext w w' ∧
   ∀ d, l = hexB d → ok = true ∧ b = d) := by
 refine W.script_unhex_ok (S l) w _ ?_
 (delta W.script_unhex Br c1 wI nA; dsimp only)
 have e45 : ByteArray.mk #[45] = S [45] := rfl
 rw [e45, S_beq]
 refine ⟨fun h => ?_, fun h => ?_⟩
 · have h : l = [45] := by simpa using h
   refine ⟨⟨none, 0, 0⟩, [], true, rfl, (OwnS.none 1 Ty.uint8 w).src, by simp, fun k hk => (ownB_none k hk).elim, .refl _ _, fun d hd => ⟨rfl, ?_⟩⟩
   rw [h] at hd
   exact (hexB_dash hd.symm).symm
 have hne : l ≠ [45] := by simpa using h
 have hd0 : ∀ d, l = hexB d → l = d.flatMap fun c => [dig (c.toNat / 16), dig (c.toNat % 16)] := fun d hd => by rw [hd]; exact hexB_cons (by rw [← hd]; exact hne)
 refine ⟨_, _, run_range_string w Ty.string (S l) (by kernel_rfl), ?_⟩
 have hx0 : Ext w (w.iter (S l) 0) := Chg.alloc (.refl _ _) _
 have hk0 : (w.iter (S l) 0).heap[w.heap.size]? = some (.stringIter (S l) 0) := World.iter_heap w (S l) 0
 refine ⟨fun s n w' => ∃ (p m : Nat) (b : List UInt8), w'.heap[w.heap.size]? = some (.stringIter (S l) p) ∧ Ext w w' ∧ OwnS 1 Ty.uint8 w' s (u8s b) ∧ (∀ k, ownB s k → w.heap.size ≤ k ∧ k ≠ w.heap.size) ∧ b.length ≤ p ∧ b.length ≤ l.length ∧ n = m ∧ m < 16 ∧
     ∀ d, l = hexB d → p ≤ l.length ∧ b = d.take (p / 2) ∧ (p % 2 = 1 → ∃ c, d[p / 2]? = some c ∧ m = c.toNat / 16),
   fun _ _ w' => match w'.heap[w.heap.size]? with | some (.stringIter _ p) => l.length - p | _ => 0, ⟨0, 0, [], hk0, hx0, OwnS.none _ _ _, fun k hk => (ownB_none k hk).elim, by simp, by simp, rfl, by omega, fun d hd => ⟨by omega, by simp, by omega⟩⟩, ?_⟩
 rintro s _ w7 ⟨p, m, b, hk, hx7, ho7, hf7, hbp, hbl, rfl, hm16, hex⟩
 by_cases hp : p < (S l).size
 · left
   have hp' : p < l.length := hp
   obtain ⟨r, hr⟩ : ∃ r, r = (Utf8.decode (S l) p) := ⟨_, rfl⟩
   have hsz : 1 ≤ r.2 := by
     by_cases hc : l[p].toNat < 128
     · rw [hr, get_of_decode hp' hc]; exact Nat.le_refl _
     · rw [hr]; exact (decode_high (S l) p hp (by show 128 ≤ l[p].toNat; omega)).2
   refine ⟨(p : Int), (r.1 : Int), w7.iterAt w.heap.size (S l) (p + r.2), ?_, fun _ => ?_, fun h => by cases h⟩
   · rw [hr]; exact Lib.run_next_any_at w7 w.heap.size (S l) p 0 hk hp
   obtain ⟨w8, hw8⟩ : ∃ w8, w8 = w7.iterAt w.heap.size (S l) (p + r.2) := ⟨_, rfl⟩
   have hk8 : w8.heap[w.heap.size]? = some (.stringIter (S l) (p + r.2)) := by rw [hw8]; exact Lib.iterAt_heap w7 _ _ _ _ hk
   have c8 : Chg (fun q => q = w.heap.size) w7 w8 := by
     rw [hw8]
     exact ⟨rfl, rfl, rfl, by rw [Lib.iterAt_size]; exact Nat.le_refl _, fun k _ hne => Lib.iterAt_other w7 _ k _ _ hne⟩
   rw [← hw8]
   have hx8 : Ext w w8 := Ext.of_new hx7 c8 fun q e => by subst e; exact Nat.le_refl _
   have ho8 := ho7.chg c8 fun k hk => (hf7 k hk).2
   refine ⟨_, w8, run_convert_int_string w8 Ty.int32 Ty.string .i32 _ (by kernel_rfl) (by kernel_rfl), (IndexRune (r.1 : Int) (by omega) w8 (hm.ext hx8)).use ?_⟩
   rintro v _ ⟨rfl, hv, hdig⟩
   have hmw : ∀ (K : Nat → Nat), True := fun _ => trivial
   rcases hv with rfl | ⟨d, rfl, hd16⟩
   · refine ⟨-1, rfl, fun _ => ⟨⟨none, 0, 0⟩, [], false, rfl, (OwnS.none 1 Ty.uint8 w8).src, by simp, fun k hk => (ownB_none k hk).elim, hx8, fun d hd => ?_⟩, fun h => by simp at h⟩
     exfalso
     obtain ⟨h1, h2, h3⟩ := hex d hd
     have hll := hd0 d hd
     have hlen := hexB_len d
     rw [← hll] at hlen
     have hj : p / 2 < d.length := by omega
     obtain ⟨g1, g2⟩ := hex_get hj
     rw [← hll] at g1 g2
     have hdl : ∀ d : Nat, d < 16 → (dig d).toNat < 128 := by decide +kernel
     have hget : ∀ e, e < 16 → l[p]? = some (dig e) → False := fun e he hg => by
       have hlp : l[p] = dig e := by rw [List.getElem?_eq_getElem hp'] at hg; exact Option.some.inj hg
       have hdec := get_of_decode hp' (by rw [hlp]; exact hdl e he)
       have := hdig e he (by rw [hr, hdec, hlp])
       simp at this
     have hc256 := (d[p / 2]).toNat_lt
     rcases Nat.mod_two_eq_zero_or_one p with e | e
     · have h2 : 2 * (p / 2) = p := by omega
       rw [h2] at g1
       exact hget _ (by omega) g1
     · have h2 : 2 * (p / 2) + 1 = p := by omega
       rw [h2] at g2
       exact hget _ (by omega) g2
   · refine ⟨(d : Int), rfl, fun h => by have := of_decide_eq_true h; omega, fun _ => ?_⟩
     have key : ∀ x, l = hexB x → p + r.2 = p + 1 ∧ ∃ (hj : p / 2 < x.length), (p % 2 = 0 → d = (x[p / 2]).toNat / 16) ∧ (p % 2 = 1 → d = (x[p / 2]).toNat % 16) := by
       intro x hx
       obtain ⟨h1, h2, h3⟩ := hex x hx
       have hll := hd0 x hx
       have hlen := hexB_len x
       rw [← hll] at hlen
       have hj : p / 2 < x.length := by omega
       obtain ⟨g1, g2⟩ := hex_get hj
       rw [← hll] at g1 g2
       have hdl : ∀ d : Nat, d < 16 → (dig d).toNat < 128 := by decide +kernel
       have hget : ∀ e, e < 16 → l[p]? = some (dig e) → r.2 = 1 ∧ d = e := fun e he hg => by
         have hlp : l[p] = dig e := by rw [List.getElem?_eq_getElem hp'] at hg; exact Option.some.inj hg
         have hdec := get_of_decode hp' (by rw [hlp]; exact hdl e he)
         have := hdig e he (by rw [hr, hdec, hlp])
         simp at this
         exact ⟨by rw [hr, hdec], by omega⟩
       have hc256 := (x[p / 2]).toNat_lt
       rcases Nat.mod_two_eq_zero_or_one p with e | e
       · have h2 : 2 * (p / 2) = p := by omega
         rw [h2] at g1
         have := hget _ (by omega) g1
         exact ⟨by rw [this.1], hj, fun _ => this.2, fun h => by omega⟩
       · have h2 : 2 * (p / 2) + 1 = p := by omega
         rw [h2] at g2
         have := hget _ (by omega) g2
         exact ⟨by rw [this.1], hj, fun h => by omega, fun _ => this.2⟩
     refine Jn1 (fun s' w' => ∃ b' : List UInt8, w'.heap[w.heap.size]? = some (.stringIter (S l) (p + r.2)) ∧ Ext w w' ∧ OwnS 1 Ty.uint8 w' s' (u8s b') ∧ (∀ k, ownB s' k → w.heap.size ≤ k ∧ k ≠ w.heap.size) ∧ b'.length ≤ b.length + 1 ∧
         (p % 2 = 0 → b' = b) ∧ (p % 2 = 1 → b' = b ++ [UInt8.ofNat (m * 16 + d)])) (fun q hq => ⟨by decide, fun h => ⟨by decide, nx ?_⟩, fun h => ?_⟩) ?_
     · have h : p % 2 = 1 := by have := eq_of_beq h; rw [tmod_nn (by omega)] at this; omega
       have hl2 : s.len = b.length := by have := ho7.1; rw [u8s_length] at this; omega
       obtain ⟨s', w9, g1, g2, g3, g4, g5⟩ := appU8s.push (oT := Ty.Sl_uint8) (xs := [.int .u8 (((UInt8.ofNat (m * 16 + d)).toNat : Nat) : Int)]) rfl ho8 (fun v hv => by rw [List.mem_singleton.1 hv]; trivial) (by omega)
       rw [nib_row m hm16 d hd16]
       have hlt : w.heap.size < w8.heap.size := (Array.getElem?_eq_some_iff.1 hk8).1
       refine ⟨s', w9, g1, hq _ _ ⟨b ++ [UInt8.ofNat (m * 16 + d)], ?_, Ext.of_new hx8 g4 fun q hq => (hf7 q hq).1, ?_, fun k hk => ?_, by simp, fun h2 => by omega, fun _ => rfl⟩⟩
       · rw [g4.block _ hlt (fun hq => (hf7 _ hq).2 rfl)]; exact hk8
       · have : u8s (b ++ [UInt8.ofNat (m * 16 + d)]) = u8s b ++ [.int .u8 (((UInt8.ofNat (m * 16 + d)).toNat : Nat) : Int)] := by simp [u8s]
         rw [this]; exact g2
       · rcases g5 k hk with h1 | h1
         · exact hf7 k h1
         · exact ⟨by omega, by omega⟩
     · have h : p % 2 = 0 := by
         have h2 := ne_of_beq_false h
         rw [tmod_nn (by omega)] at h2
         omega
       exact hq _ _ ⟨b, hk8, hx8, ho8, hf7, by omega, fun _ => rfl, fun h2 => by omega⟩
     rintro s' w9 ⟨b', k1, k2, k3, k4, k5, k6, k7⟩
     refine ⟨⟨p + r.2, d, b', k1, k2, k3, k4, by omega, ?_, rfl, hd16, fun x hx => ?_⟩, ?_⟩
     · rcases Nat.mod_two_eq_zero_or_one p with e | e
       · rw [k6 e]; exact hbl
       · omega
     · obtain ⟨h1, hj, h2, h3⟩ := key x hx
       obtain ⟨h4, h5, h6⟩ := hex x hx
       rw [h1]
       refine ⟨by omega, ?_, fun e => ?_⟩
       · rcases Nat.mod_two_eq_zero_or_one p with e | e
         · rw [k6 e, h5, show (p + 1) / 2 = p / 2 by omega]
         · obtain ⟨c, hc1, hc2⟩ := h6 e
           have hc : c = x[p / 2] := by rw [List.getElem?_eq_getElem hj] at hc1; exact (Option.some.inj hc1).symm
           rw [k7 e, h5, show (p + 1) / 2 = p / 2 + 1 by omega, List.take_succ_eq_append_getElem hj, hc2, h3 e, hc]
           congr 2
           rw [show (x[p / 2]).toNat / 16 * 16 + (x[p / 2]).toNat % 16 = (x[p / 2]).toNat by omega, UInt8.ofNat_toNat]
       · rw [show (p + 1) / 2 = p / 2 by omega]
         exact ⟨x[p / 2], List.getElem?_eq_getElem hj, h2 (by omega)⟩
     · simp only [k1, hk]
       omega
 · right
   refine ⟨w7, Lib.run_next_end_at w7 w.heap.size (S l) p 0 hk hp, fun h => (by cases h), fun _ => ⟨by decide, s, b, _, rfl, ho7.src, by omega, fun k hk => (hf7 k hk).1, hx7, fun d hd => ?_⟩⟩
   obtain ⟨h1, h2, h3⟩ := hex d hd
   have hp' : ¬ p < l.length := hp
   have hlen := hexB_len d
   rw [← hd0 d hd] at hlen
   have hpl : p = l.length := by omega
   rw [S_size, tmod_nn (by omega)]
   refine ⟨?_, ?_⟩
   · simp; omega
   · rw [h2, List.take_of_length_le (by omega)]
end Go.Proofs.YtgljoledlhmhnaaGreatDoor
namespace Go.Proofs.YtgljoledlhmhnaaGreatDoor
open Go Gx
variable {w w' : World}
structure ScT (w : World) : Prop where
 tabs : Tabs w
 sp : TabSp w
 mx : MaxAt w
theorem ScT.ext (h : ScT w) (hx : Ext w w') : ScT w' := ⟨h.tabs.ext hx, h.sp.ext hx, h.mx.ext hx⟩
variable {w0 : World} {d : Nat} {s : Sl} {ws us : List (List UInt8)}
def Lw (w0 w : World) (d : Nat) (ws : List (List UInt8)) : Prop := ∃ s, LnAt w d s ws ∧ Ext w0 w ∧ w0.heap.size ≤ d ∧ ∀ q, ownB s q → w0.heap.size ≤ q
def Kp (w w' : World) : Prop := ∀ (b : Nat) (vs : List Value) (T : TypeId), Var w b vs T → T ≠ Ty.script_line → T ≠ Ty.string → Var w' b vs T
theorem Lw.mono (h : Lw w0 w d ws) (hx : Ext w w') : Lw w0 w' d ws := by
 obtain ⟨s, h1, h2, h3, h4⟩ := h
 exact ⟨s, h1.ext hx, Ext.trans h2 hx, h3, h4⟩
theorem Lw.of (h : LnAt w d s ws) (hx : Ext w0 w) (hd : w0.heap.size ≤ d) (hf : ∀ q, ownB s q → w0.heap.size ≤ q) (hL : LnStep d s us w w') : Lw w0 w' d us ∧ Kp w w' := by
 obtain ⟨s', h1, h2, h3⟩ := hL
 refine ⟨⟨s', h1, Ext.of_new hx h2 (fun q hq => hq.elim (fun e => by rw [e]; exact hd) (hf q)), hd, fun q hq => (h3 q hq).elim (hf q) (fun h => Nat.le_trans hx.size h)⟩, fun b vs T hv n1 n2 => hv.chg h2 fun hq => ?_⟩
 rcases hq with e | hq
 · subst e
   exact n1 (Blk.inj hv h.v).2
 · exact n2 (h.o.notVar hq hv).symm
theorem Kp.ahead {w1 : World} (hx : Ext w w1) (h : Kp w1 w') : Kp w w' := fun b vs T hv n1 n2 => h b vs T (hv.ext hx) n1 n2
theorem Lw.text (h : Lw w0 w d ws) (l : List UInt8) (hn : ws.length ≤ 1000000) {K : World → Prop} (hK : ∀ w', Lw w0 w' d (ws ++ [l]) → Kp w w' → K w') :
   Nx (w.alloc (.cells #[.string (S l)] Ty.string)) fun w1 => Calls Tryz.prog F.script_line_text #[.pointer (some ⟨d, 0, none⟩), .slice (some ⟨w.heap.size, 0, none⟩) 1 1] w1 fun e w2 => e = .returned (.tuple #[]) ∧ K w2 := by
 obtain ⟨s, h1, h2, h3, h4⟩ := h
 have hx : Ext w (w.alloc (.cells #[.string (S l)] Ty.string)) := Chg.alloc (.refl _ _) _
 have hs : Src 1 (w.alloc (.cells #[.string (S l)] Ty.string)) ⟨some ⟨w.heap.size, 0, none⟩, 1, 1⟩ (strs [l]) := Src.new w [.string (S l)] 1 rfl
 refine nx ((line_text (h1.ext hx) hs (by simp; omega)).use ?_)
 rintro _ w5 ⟨rfl, hL⟩
 obtain ⟨g1, g2⟩ := Lw.of (h1.ext hx) (Ext.trans h2 hx) h3 h4 hL
 exact ⟨rfl, hK _ g1 (g2.ahead hx)⟩
theorem Lw.long (h : Lw w0 w d ws) (n : Nat) (hn : n ≤ 18446744073709551615) (hw : ws.length ≤ 1000000) (ht : TabPow w) {K : World → Prop} (hK : ∀ w', Lw w0 w' d (ws ++ [numB 10 n]) → Kp w w' → K w') :
   Calls Tryz.prog F.script_line_long #[.pointer (some ⟨d, 0, none⟩), .int .u64 n] w fun e w2 => e = .returned (.tuple #[]) ∧ K w2 := by
 obtain ⟨s, h1, h2, h3, h4⟩ := h
 refine (line_long n h1 hn hw ht).use ?_
 rintro _ w5 ⟨rfl, hL⟩
 obtain ⟨g1, g2⟩ := Lw.of h1 h2 h3 h4 hL
 exact ⟨rfl, hK _ g1 g2⟩
theorem Lw.ints (h : Lw w0 w d ws) (l : List Int) {x : Sl} (hx : ∀ w', Ext w0 w' → Src 1 w' x (l.map encI)) (hr : ∀ n ∈ l, I64 n) (hw : ws.length + l.length ≤ 1000000) (ht : TabPow w0) {K : World → Prop} (hK : ∀ w', Lw w0 w' d (ws ++ l.map numI) → Kp w w' → K w') :
   Calls Tryz.prog F.script_line_ints #[.pointer (some ⟨d, 0, none⟩), .slice x.a x.len x.cap] w fun e w2 => e = .returned (.tuple #[]) ∧ K w2 := by
 obtain ⟨s, h1, h2, h3, h4⟩ := h
 have hE : ∀ w', Chg (lnB d s) w w' → Ext w0 w' := fun w' hc => Ext.of_new h2 hc (fun q hq => hq.elim (fun e => by rw [e]; exact h3) (h4 q))
 refine (line_ints h1 (fun w' hc => hx w' (hE w' hc)) hr hw (fun w' hc => ht.ext (hE w' hc))).use ?_
 rintro _ w5 ⟨rfl, hL⟩
 obtain ⟨g1, g2⟩ := Lw.of h1 h2 h3 h4 hL
 exact ⟨rfl, hK _ g1 g2⟩
theorem Lw.intsN (h : Lw w0 w d ws) (l : List Int) (n : Nat) (hl : l.length = n) {c : Array Value} (hc : c = (l.map encI).toArray) (hr : ∀ n ∈ l, I64 n) (hw : ws.length + l.length ≤ 1000000) (ht : TabPow w0) {K : World → Prop} (hK : ∀ w', Lw w0 w' d (ws ++ l.map numI) → Kp w w' → K w') :
   Nx (w.alloc (.cells c Ty.int)) fun w1 => Calls Tryz.prog F.script_line_ints #[.pointer (some ⟨d, 0, none⟩), .slice (some ⟨w.heap.size, 0, none⟩) n n] w1 fun e w2 => e = .returned (.tuple #[]) ∧ K w2 := by
 obtain ⟨s, h1, h2, h3, h4⟩ := h
 subst hc
 have hx : Ext w (w.alloc (.cells (l.map encI).toArray Ty.int)) := Chg.alloc (.refl _ _) _
 have hs : Src 1 (w.alloc (.cells (l.map encI).toArray Ty.int)) ⟨some ⟨w.heap.size, 0, none⟩, n, n⟩ (l.map encI) := Src.new w _ n (by simp [hl])
 have hne : ∀ q, lnB d s q → q ≠ w.heap.size := fun q hq e => by have := h1.lt hq; omega
 have hE : ∀ w', Chg (lnB d s) (w.alloc (.cells (l.map encI).toArray Ty.int)) w' → Ext w0 w' := fun w' hc => Ext.of_new (Ext.trans h2 hx) hc (fun q hq => hq.elim (fun e => by rw [e]; exact h3) (h4 q))
 refine nx ((line_ints (x := ⟨some ⟨w.heap.size, 0, none⟩, n, n⟩) (h1.ext hx) (fun w' hc => Src.chg (W := lnB d s) hs hc fun k hk hq => ?_) hr hw (fun w' hc => ht.ext (hE w' hc))).use ?_)
 · rw [ownB_some] at hk
   exact hne k hq hk.symm
 rintro _ w5 ⟨rfl, hL⟩
 obtain ⟨g1, g2⟩ := Lw.of (h1.ext hx) (Ext.trans h2 hx) h3 h4 hL
 exact ⟨rfl, hK _ g1 (g2.ahead hx)⟩
theorem args1 {a : Stp} (h : a.kind = 1) : argsOf a = [hexB a.data] := by unfold argsOf; simp [h]
theorem args2 {a : Stp} (h : a.kind = 2) : argsOf a = [numB 10 a.n.toNat] := by unfold argsOf; simp [h]
theorem args3 {a : Stp} (h : a.kind = 3) : argsOf a = [numI a.s.id, showA a.s.addr, numB 10 a.s.port.toNat, numB 10 a.s.proto.toNat, numI a.s.bits, numB 10 a.s.lasts.toNat] := by unfold argsOf; simp [h]
theorem args4 {a : Stp} (h : a.kind = 4) : argsOf a = [numI a.id] := by unfold argsOf; simp [h]
theorem args5 {a : Stp} (h : a.kind = 5) : argsOf a = [numI a.id, numI a.to.id, showA a.to.addr, numB 10 a.to.port.toNat, numI a.to.weight] := by unfold argsOf; simp [h]
theorem args6 {a : Stp} (h : a.kind = 6 ∨ a.kind = 12) : argsOf a = [numI a.id, numI a.bid] := by unfold argsOf; rcases h with h | h <;> simp [h]
theorem args7 {a : Stp} (h : a.kind = 7 ∨ a.kind = 9) : argsOf a = [numI a.id, numI a.bid, onW a.on] := by unfold argsOf; rcases h with h | h <;> simp [h]
theorem args8 {a : Stp} (h : a.kind = 8 ∨ a.kind = 13) : argsOf a = [numI a.id, numI a.bid, numB 10 a.n.toNat] := by unfold argsOf; rcases h with h | h <;> simp [h]
theorem args11 {a : Stp} (h : a.kind = 11) : argsOf a = a.li.map numI := by unfold argsOf; simp [h]
theorem args0 {a : Stp} (h1 : a.kind ≠ 1) (h2 : a.kind ≠ 2) (h3 : a.kind ≠ 3) (h4 : a.kind ≠ 4) (h5 : a.kind ≠ 5) (h6 : ¬ (a.kind = 6 ∨ a.kind = 12)) (h7 : ¬ (a.kind = 7 ∨ a.kind = 9)) (h8 : ¬ (a.kind = 8 ∨ a.kind = 13)) (h11 : a.kind ≠ 11) : argsOf a = [] := by
 unfold argsOf
 rw [if_neg h1, if_neg h2, if_neg h3, if_neg h4, if_neg h5, if_neg h6, if_neg h7, if_neg h8, if_neg h11]
theorem i64w {n : Int} (h0 : 0 ≤ n) (h1 : n ≤ 65535) : IntKind.wrap .i64 n = n ∧ I64 n ∧ numI n = numB 10 n.toNat := ⟨wrapi (by omega) (by omega), by unfold I64; omega, numI_nn h0⟩
theorem script_written {o : OpM} {a : Stp} (ha : OpIs w o a) (hv : Vd a) (h1 : 1 ≤ a.kind) (h14 : a.kind ≤ 14) (hd : a.data.length ≤ 10000000) (hli : a.li.length ≤ 100000) (ht : ScT w) :
   Ret Tryz.prog F.script_written #[.agg o.c.toArray] w (fun v w' => ∃ s : Sl, v = .slice s.a s.len s.cap ∧ Src 1 w' s (strs (wordsOf a)) ∧ s.len ≤ s.cap ∧ Ext w w') := by
 refine W.script_written_ok _ w _ ?_
 (delta W.script_written nA r3 c5 bd wI r2 c2 Br r1 c4 r5 al z1 r7 r4 r8; dsimp only)
 refine nxVar (vs := o.c) rfl fun w1 ho hx1 hs1 => nxVar (vs := [.slice none 0 0]) rfl fun w2 hl hx2 hs2 => nx ⟨fun _ => False, id, _, (ocell (Var.drew (ho.ext hx2))).1, ?_⟩
 have hx3 : Ext w1 w2.drew := Chg.drew hx2
 have ho3 := ho.ext hx3
 have hL3 : Lw w1 w2.drew w1.heap.size [] := ⟨⟨none, 0, 0⟩, ⟨hl.drew, OwnS.none _ _ _⟩, hx3, Nat.le_refl _, fun q hq => (ownB_none q hq).elim⟩
 obtain ⟨w3, hw3⟩ : ∃ w3, w3 = w2.drew := ⟨_, rfl⟩
 rw [← hw3] at hx3 ho3 hL3 ⊢
 have ht1 := ht.ext hx1
 refine (script_names w3 (ht1.ext hx3).sp).use ?_
 rintro _ w6 ⟨s8, rfl, ho8, hx6, -⟩
 have ew : IntKind.wrap .i64 (o.kind - 1) = ((a.kind.toNat - 1 : Nat) : Int) := by rw [ha.kind, wrapi (by omega) (by omega)]; omega
 have hkl : kwL.length = 14 := rfl
 obtain ⟨A, hA, hb, hcell⟩ := ho8.src.at (i := a.kind.toNat - 1) (v := .string (S (kw a.kind))) (by
   unfold kw strs
   rw [List.getElem?_map, List.getElem?_eq_getElem (by omega), getD_at (by omega)]; rfl)
 rw [ew]
 refine ⟨s8, rfl, hx6, A, hA, hb, id, _, hcell, ?_⟩
 have hL6 := hL3.mono hx6
 have hx16 := Ext.trans hx3 hx6
 obtain ⟨sl, g1, g2, g3, g4⟩ := hL6
 have hxa : Ext w6 (w6.alloc (.cells #[.string (S (kw a.kind))] Ty.string)) := Chg.alloc (.refl _ _) _
 have hsrc : Src 1 (w6.alloc (.cells #[.string (S (kw a.kind))] Ty.string)) ⟨some ⟨w6.heap.size, 0, none⟩, 1, 1⟩ (strs [kw a.kind]) := Src.new w6 [.string (S (kw a.kind))] 1 rfl
 refine nx ⟨hxa, (line_text (g1.ext hxa) hsrc (by simp)).use ?_⟩
 rintro _ w12 ⟨rfl, hLn⟩
 obtain ⟨hL12, hK12⟩ := Lw.of (g1.ext hxa) (Ext.trans g2 hxa) g3 g4 hLn
 rw [List.nil_append] at hL12
 have hX12 : Ext w1 w12 := hL12.choose_spec.2.1
 have hX : ∀ {w' : World} {us : List (List UInt8)}, Lw w1 w' w1.heap.size us → Ext w1 w' := fun h => h.choose_spec.2.1
 have hop : ∀ {w' : World}, Ext w1 w' → Var w' w.heap.size o.c Ty.api_Op := fun h => ho.ext h
 have hTP : ∀ {w' : World}, Ext w1 w' → TabPow w' := fun h => (ht1.ext h).tabs.tab.pow
 have ho12 := hop hX12
 refine ⟨rfl, Jn0 (fun w' => Lw w1 w' w1.heap.size (wordsOf a)) (fun q hq => ⟨_, (ocell ho12).1, ?_⟩) ?_⟩
 · rw [ha.kind]
   refine ⟨fun h => ?_, fun h1 => ⟨fun h => ?_, fun h2 => ⟨fun h => ?_, fun h3 => ⟨fun h => ?_, fun h4 => ⟨fun h => ?_, fun h5 => ?_⟩⟩⟩⟩⟩
   · have hk := eq_of_beq h
     refine ⟨_, (ocell2 ho12).1, (script_hex ((ha.data.ext hx1).ext hX12) hd).use ?_⟩
     rintro _ w17 ⟨rfl, hx17⟩
     refine ⟨_, rfl, (hL12.mono hx17).text _ (by simp) fun w' hw' _ => hq _ ?_⟩
     unfold wordsOf; rw [args1 hk]; exact hw'
   · have hk := eq_of_beq h
     have hn := hv.n
     refine ⟨_, (ocell ho12).2.2.2.1, ?_⟩
     rw [ha.n]
     obtain ⟨n, hn'⟩ : ∃ n : Nat, a.n = n := ⟨a.n.toNat, by omega⟩
     rw [hn'] at hn ⊢
     refine hL12.long n (by omega) (by simp) (hTP hX12) fun w' hw' _ => hq _ ?_
     unfold wordsOf; rw [args2 hk, hn']; exact hw'
   · have hk := eq_of_beq h
     have hsv := ha.s
     refine ⟨_, ords ho12, nxVar (vs := Sv.zero.c nilS) (by kernel_rfl) fun w27 hz hx27 hs27 => ⟨hz.storeOk (us := (o.s.c o.k).toArray.toList) (by simp [Sv.c_length]) (by simpa using Sv.plain _ _), by simp [Sv.c_length],
       nxPut hz (us := o.s.c o.k) (by simp [Sv.c_length]) (by simp) fun w28 hs28 hc28 hz28 => ?_⟩⟩
     have hx28 : Ext w12 w28 := Ext.of_chg hx27 hc28 (Nat.le_refl _)
     rw [hsv] at hs28
     have hL28 := hL12.mono hx28
     refine ⟨_, (scell hs28).1, hL28.intsN [a.s.id] 1 rfl rfl (fun n hn => by rw [List.mem_singleton.1 hn]; exact hv.sid) (by simp) ht1.tabs.tab.pow fun w31 hL31 hK31 => ?_⟩
     have hs31 := hK31 _ _ _ hs28 (by decide) (by decide)
     refine ⟨_, srd hs31, (addr_Show a.s.addr w31 (ht1.ext (hX hL31)).tabs.tab).use ?_⟩
     rintro _ w34 ⟨rfl, hx34⟩
     refine ⟨_, rfl, (hL31.mono hx34).text _ (by simp) fun w38 hL38 hK38 => ?_⟩
     have hs38 := hK38 _ _ _ (hs31.ext hx34) (by decide) (by decide)
     have ep := i64w (n := a.s.port) hv.sport.1 hv.sport.2
     have er := i64w (n := a.s.proto) hv.sproto.1 (by have := hv.sproto.2; omega)
     refine ⟨_, (scell hs38).2.2.1, _, (scell hs38).2.2.2.1, _, (scell hs38).2.2.2.2.1, ?_⟩
     rw [ep.1, er.1]
     refine hL38.intsN [a.s.port, a.s.proto, a.s.bits] 3 rfl rfl (fun n hn => ?_) (by simp) ht1.tabs.tab.pow fun w44 hL44 hK44 => ?_
     · simp only [List.mem_cons, List.not_mem_nil, or_false] at hn
       rcases hn with rfl | rfl | rfl
       · exact ep.2.1
       · exact er.2.1
       · exact hv.sbits
     have hs44 := hK44 _ _ _ hs38 (by decide) (by decide)
     have hn := hv.slasts
     refine ⟨_, (scell hs44).2.2.2.2.2.1, ?_⟩
     obtain ⟨n, hn'⟩ : ∃ n : Nat, a.s.lasts = n := ⟨a.s.lasts.toNat, by omega⟩
     rw [hn'] at hn ⊢
     refine hL44.long n (by omega) (by simp) (hTP (hX hL44)) fun w' hw' _ => hq _ ?_
     unfold wordsOf; rw [args3 hk, hn', ← ep.2.2, ← er.2.2]
     simpa using hw'
   · have hk := eq_of_beq h
     refine ⟨_, (ocell ho12).2.1, ?_⟩
     rw [ha.id]
     refine hL12.intsN [a.id] 1 rfl rfl (fun n hn => by rw [List.mem_singleton.1 hn]; exact hv.id) (by simp) ht1.tabs.tab.pow fun w' hw' _ => hq _ ?_
     unfold wordsOf; rw [args4 hk]; exact hw'
   · have hk := eq_of_beq h
     have htd := ordt ho12
     have ec : ∀ {w' : World}, Ext w1 w' → w'.cell? (Addr.add ⟨w.heap.size, 0, none⟩ 29) = some (.int .i64 a.to.id) ∧ rdCells w' ((Addr.add ⟨w.heap.size, 0, none⟩ 29).add 1) 0 17 = some a.to.addr.c ∧ w'.cell? ((Addr.add ⟨w.heap.size, 0, none⟩ 29).add 18) = some (.int .u16 a.to.port) ∧ w'.cell? ((Addr.add ⟨w.heap.size, 0, none⟩ 29).add 19) = some (.int .i64 a.to.weight) := by
       intro w' hx
       have hr := ordt (hop hx)
       rw [ha.to] at hr
       have hc := fun {i : Nat} {v : Value} (h : a.to.c[i]? = some v) => rdGet (i := 0) hr h
       refine ⟨?_, ?_, ?_, ?_⟩
       · have := hc (i := 0) (v := .int .i64 a.to.id) rfl
         rwa [Nat.add_zero, add_zero'] at this
       · have := rdPart hr (k := 1) (m := 17) (by omega)
         rw [this]
         show some ((a.to.addr.c ++ _).take 17) = _
         rw [List.take_append_of_le_length (by rw [Ad.c_length]; decide), List.take_of_length_le (by rw [Ad.c_length]; decide)]
       · have := hc (i := 18) (v := .int .u16 a.to.port) (by simp [Bk.c, List.getElem?_append, Ad.c_length])
         rwa [Nat.zero_add] at this
       · have := hc (i := 19) (v := .int .i64 a.to.weight) (by simp [Bk.c, List.getElem?_append, Ad.c_length])
         rwa [Nat.zero_add] at this
     refine ⟨_, (ocell ho12).2.1, _, (ec hX12).1, ?_⟩
     rw [ha.id]
     refine hL12.intsN [a.id, a.to.id] 2 rfl rfl (fun n hn => ?_) (by simp) ht1.tabs.tab.pow fun w56 hL56 _ => ?_
     · simp only [List.mem_cons, List.not_mem_nil, or_false] at hn
       rcases hn with rfl | rfl
       · exact hv.id
       · exact hv.tid
     refine ⟨_, (ec (hX hL56)).2.1, (addr_Show a.to.addr w56 (ht1.ext (hX hL56)).tabs.tab).use ?_⟩
     rintro _ w59 ⟨rfl, hx59⟩
     refine ⟨_, rfl, (hL56.mono hx59).text _ (by simp) fun w63 hL63 _ => ?_⟩
     have ep := i64w (n := a.to.port) hv.tport.1 hv.tport.2
     refine ⟨_, (ec (hX hL63)).2.2.1, _, (ec (hX hL63)).2.2.2, ?_⟩
     rw [ep.1]
     refine hL63.intsN [a.to.port, a.to.weight] 2 rfl rfl (fun n hn => ?_) (by simp) ht1.tabs.tab.pow fun w' hw' _ => hq _ ?_
     · simp only [List.mem_cons, List.not_mem_nil, or_false] at hn
       rcases hn with rfl | rfl
       · exact ep.2.1
       · exact hv.tweight
     unfold wordsOf; rw [args5 hk, ← ep.2.2]
     simpa using hw'
   have n1 := ne_of_beq_false h1; have n2 := ne_of_beq_false h2; have n3 := ne_of_beq_false h3; have n4 := ne_of_beq_false h4; have n5 := ne_of_beq_false h5
   refine Jn1 (fun b w' => b = decide (a.kind = 6 ∨ a.kind = 12) ∧ w12 = w') (fun q2 hq2 => ⟨fun h => hq2 _ _ ⟨?_, rfl⟩, fun h => hq2 _ _ ⟨?_, rfl⟩⟩) ?_
   · rw [h]; have := eq_of_beq h; simp [this]
   · have := ne_of_beq_false h; rw [Bool.eq_iff_iff]; simp [this]
   rintro _ _ ⟨rfl, rfl⟩
   have two : ∀ n ∈ [a.id, a.bid], I64 n := fun n hn => by
     simp only [List.mem_cons, List.not_mem_nil, or_false] at hn
     rcases hn with rfl | rfl
     · exact hv.id
     · exact hv.bid
   refine ⟨fun h => ?_, fun h6 => ?_⟩
   · have hk := of_decide_eq_true h
     refine ⟨_, (ocell ho12).2.1, _, (ocell ho12).2.2.1, ?_⟩
     rw [ha.id, ha.bid]
     refine hL12.intsN [a.id, a.bid] 2 rfl rfl two (by simp) ht1.tabs.tab.pow fun w' hw' _ => hq _ ?_
     unfold wordsOf; rw [args6 hk]; exact hw'
   have n6 := of_decide_eq_false h6
   refine Jn1 (fun b w' => b = decide (a.kind = 7 ∨ a.kind = 9) ∧ w12 = w') (fun q2 hq2 => ⟨fun h => hq2 _ _ ⟨?_, rfl⟩, fun h => hq2 _ _ ⟨?_, rfl⟩⟩) ?_
   · rw [h]; have := eq_of_beq h; simp [this]
   · have := ne_of_beq_false h; rw [Bool.eq_iff_iff]; simp [this]
   rintro _ _ ⟨rfl, rfl⟩
   refine ⟨fun h => ?_, fun h7 => ?_⟩
   · have hk := of_decide_eq_true h
     refine ⟨_, (ocell ho12).2.1, _, (ocell ho12).2.2.1, ?_⟩
     rw [ha.id, ha.bid]
     refine hL12.intsN [a.id, a.bid] 2 rfl rfl two (by simp) ht1.tabs.tab.pow fun w84 hL84 _ => ?_
     refine ⟨_, (ocell2 (hop (hX hL84))).2.1, ?_⟩
     rw [ha.on]
     refine (script_on a.on w84).use ?_
     rintro _ _ ⟨rfl, rfl⟩
     refine ⟨_, rfl, hL84.text (onW a.on) (by simp) fun w' hw' _ => hq _ ?_⟩
     unfold wordsOf; rw [args7 hk]; simpa using hw'
   have n7 := of_decide_eq_false h7
   refine Jn1 (fun b w' => b = decide (a.kind = 8 ∨ a.kind = 13) ∧ w12 = w') (fun q2 hq2 => ⟨fun h => hq2 _ _ ⟨?_, rfl⟩, fun h => hq2 _ _ ⟨?_, rfl⟩⟩) ?_
   · rw [h]; have := eq_of_beq h; simp [this]
   · have := ne_of_beq_false h; rw [Bool.eq_iff_iff]; simp [this]
   rintro _ _ ⟨rfl, rfl⟩
   refine ⟨fun h => ?_, fun h8 => ?_⟩
   · have hk := of_decide_eq_true h
     refine ⟨_, (ocell ho12).2.1, _, (ocell ho12).2.2.1, ?_⟩
     rw [ha.id, ha.bid]
     refine hL12.intsN [a.id, a.bid] 2 rfl rfl two (by simp) ht1.tabs.tab.pow fun w99 hL99 _ => ?_
     have hn := hv.n
     refine ⟨_, (ocell (hop (hX hL99))).2.2.2.1, ?_⟩
     rw [ha.n]
     obtain ⟨n, hn'⟩ : ∃ n : Nat, a.n = n := ⟨a.n.toNat, by omega⟩
     rw [hn'] at hn ⊢
     refine hL99.long n (by omega) (by simp) (hTP (hX hL99)) fun w' hw' _ => hq _ ?_
     unfold wordsOf; rw [args8 hk, hn']; simpa using hw'
   have n8 := of_decide_eq_false h8
   refine ⟨fun h => ?_, fun h11 => hq _ ?_⟩
   · have hk := eq_of_beq h
     refine ⟨_, (ocell2 ho12).2.2, hL12.ints a.li (fun w' hx => (ha.li.ext hx1).ext hx) hv.li (by simp; omega) ht1.tabs.tab.pow fun w' hw' _ => hq _ ?_⟩
     unfold wordsOf; rw [args11 hk]; exact hw'
   · have n11 := ne_of_beq_false h11
     unfold wordsOf; rw [args0 n1 n2 n3 n4 n5 n6 n7 n8 n11]; exact hL12
 · rintro w107 ⟨s, g1, g2, g3, g4⟩
   refine ⟨_, rfl, s, g1.v.cell, s, rfl, g1.o.src, g1.o.2.1, Ext.trans hx1 g2⟩
end Go.Proofs.YtgljoledlhmhnaaGreatDoor
namespace Go.Proofs.YtgljoledlhmhnaaGreatDoor
open Go Gx
variable {w w' : World}
theorem nxPutAt {b o : Nat} {vs us l : List Value} {T : TypeId} (hv : Var w b vs T) (hl : l = us) (hn : o + us.length ≤ vs.length) {K : World → Prop} (h : ∀ w', Var w' b (vs.take o ++ us ++ vs.drop (o + us.length)) T → Chg (fun q => q = b) w w' → w'.heap.size = w.heap.size → K w') : Nx (setCells w ⟨b, o, none⟩ 0 l) K := by
 subst hl
 refine nx (h _ ?_ (Chg.setsB (.refl _ _) _ 0) ?_)
 · have h1 := Blk.set0 (o := o) hv l
   have h2 : spl vs.toArray o l = (vs.take o ++ l ++ vs.drop (o + l.length)).toArray := by
     apply Array.ext'
     rw [toList_spl l vs.toArray o (by simpa using hn)]
   unfold Var
   rw [← h2]; exact h1
 · have : ∀ (l : List Value) (j : Nat) (w : World), (setCells w ⟨b, o, none⟩ j l).heap.size = w.heap.size := by
     intro l
     induction l with
     | nil => intro j w; rfl
     | cons x l ih => intro j w; rw [Gx.setCells, ih]; simp [World.setCell]
   exact this _ _ _
set_option maxHeartbeats 2000000 in
theorem mkSv (id : Int) (a : Ad) (p r b l : Int) (w : World) : Sem.run Tryz.prog (Instr.build Ty.api_Service #[(0, .int .i64 id), (1, .agg a.c.toArray), (2, .int .u16 p), (3, .int .u8 r), (4, .int .i64 b), (5, .int .u64 l)]) w = .ok (.agg ((Sv.mk id a p r b l).c nilS).toArray) w := by
 obtain ⟨six, x, h⟩ := a
 obtain ⟨x0, x1, x2, x3, x4, x5, x6, x7, x8, x9, x10, x11, x12, x13, x14, x15, rfl⟩ := list16 x h
 kernel_rfl
set_option maxHeartbeats 2000000 in
theorem mkBk (id : Int) (a : Ad) (p t : Int) (w : World) : Sem.run Tryz.prog (Instr.build Ty.api_Backend #[(0, .int .i64 id), (1, .agg a.c.toArray), (2, .int .u16 p), (3, .int .i64 t)]) w = .ok (.agg (Bk.mk id a p t false).c.toArray) w := by
 obtain ⟨six, x, h⟩ := a
 obtain ⟨x0, x1, x2, x3, x4, x5, x6, x7, x8, x9, x10, x11, x12, x13, x14, x15, rfl⟩ := list16 x h
 kernel_rfl
def opK (k : Int) : OpM := ⟨k, nilS, 0, 0, 0, false, Sv.zero, nilS, Bk.zero, nilS⟩
theorem wordR_ok {ok : Bool} {ws : List (List UInt8)} (h : (wordR ok ws).2.1 = true) : ok = true := by
 cases ok with
 | true => rfl
 | false => cases h
structure St (wb w0 w : World) (d : Nat) (s0 : Sl) (o : OpM) (ok : Bool) (ws : List (List UInt8)) : Prop where
 rd : ∃ s, RdAt w d s ok ws ∧ ∀ q, ownB s q → ownB s0 q
 op : Var w w0.heap.size o.c Ty.api_Op
 chg : Chg (fun q => q = d) w0 w
 tb : ScT wb
 base : Ext wb w0
 hd : wb.heap.size ≤ d
 dlt : d < w0.heap.size
 slt : ∀ q, ownB s0 q → q < w0.heap.size
variable {wb w0 : World} {d : Nat} {s0 : Sl} {o o' : OpM} {ok : Bool} {ws : List (List UInt8)}
theorem St.ext (h : St wb w0 w d s0 o ok ws) : Ext wb w := Ext.of_new h.base h.chg fun q e => by rw [e]; exact h.hd
theorem St.tabs (h : St wb w0 w d s0 o ok ws) {w' : World} (hc : Chg (fun q => q = d) w w') : ScT w' := h.tb.ext (Ext.of_new h.ext hc fun q e => by rw [e]; exact h.hd)
theorem St.step {ok' : Bool} {ws' : List (List UInt8)} {s : Sl} (h : St wb w0 w d s0 o ok ws) (hf : ∀ q, ownB s q → ownB s0 q) (hS : RdStep d s ok' ws' w w') : St wb w0 w' d s0 o ok' ws' := by
 obtain ⟨s', g1, g2, g3⟩ := hS
 exact ⟨⟨s', g1, fun q hq => hf q (g3 q hq)⟩, h.op.chg g2 (fun e => by have := h.dlt; omega), h.chg.trans g2, h.tb, h.base, h.hd, h.dlt, h.slt⟩
theorem RdAt.chg {W : Nat → Prop} {s : Sl} (h : RdAt w d s ok ws) (hc : Chg W w w') (h1 : ¬ W d) (h2 : ∀ q, ownB s q → ¬ W q) : RdAt w' d s ok ws :=
 ⟨h.v.chg hc h1, h.o.chg hc h2, h.cap, h.ne, fun q hq => Nat.lt_of_lt_of_le (h.lt q hq) hc.size, h.few⟩
theorem St.put (h : St wb w0 w d s0 o ok ws) {W : Nat → Prop} (hc : Chg W w w') (hW : ∀ q, W q → w0.heap.size ≤ q) (ho : Var w' w0.heap.size o'.c Ty.api_Op) : St wb w0 w' d s0 o' ok ws := by
 obtain ⟨s, g1, g2⟩ := h.rd
 have h1 := h.dlt
 refine ⟨⟨s, g1.chg hc (fun e => by have := hW _ e; omega) (fun q hq e => by have := hW _ e; have := h.slt q (g2 q hq); omega), g2⟩, ho, chgThen h.chg hc (fun q hq => .inr (hW q hq)), h.tb, h.base, h.hd, h.dlt, h.slt⟩
theorem St.int (h : St wb w0 w d s0 o ok ws) {K : Int → World → Prop} (hK : ∀ (m : Int) (ok' : Bool) w', St wb w0 w' d s0 o ok' (wordR ok ws).2.2 → Chg (fun q => q = d) w w' → I64 m → (ok' = true → (wordR ok ws).2.1 = true) → (∀ n : Int, I64 n → (wordR ok ws).1 = numI n → m = n ∧ ok' = (wordR ok ws).2.1) → K m w') :
   Calls Tryz.prog F.script_reader_int #[.pointer (some ⟨d, 0, none⟩)] w fun e w' => ∃ n, e = .returned (.int .i64 n) ∧ K n w' := by
 obtain ⟨s, g1, g2⟩ := h.rd
 refine (reader_int g1 (fun w' hc => (h.tabs hc).tabs.errs)).use ?_
 rintro _ w' ⟨m, ok', rfl, hS, h1, h2, h3⟩
 exact ⟨m, rfl, hK m ok' w' (h.step g2 hS) (by obtain ⟨_, _, c, _⟩ := hS; exact c) h1 h2 h3⟩
theorem St.long (h : St wb w0 w d s0 o ok ws) {K : Int → World → Prop} (hK : ∀ (m : Int) (ok' : Bool) w', St wb w0 w' d s0 o ok' (wordR ok ws).2.2 → (ok' = true → (wordR ok ws).2.1 = true ∧ 0 ≤ m ∧ m ≤ 18446744073709551615) → (∀ n : Nat, n ≤ 18446744073709551615 → (wordR ok ws).1 = numB 10 n → m = n ∧ ok' = (wordR ok ws).2.1) → K m w') :
   Calls Tryz.prog F.script_reader_long #[.pointer (some ⟨d, 0, none⟩)] w fun e w' => ∃ n, e = .returned (.int .u64 n) ∧ K n w' := by
 obtain ⟨s, g1, g2⟩ := h.rd
 refine (reader_long g1 (fun w' hc => (h.tabs hc).tabs.errs)).use ?_
 rintro _ w' ⟨m, ok', rfl, hS, h1, h2⟩
 exact ⟨m, rfl, hK m ok' w' (h.step g2 hS) h1 h2⟩
theorem St.small (h : St wb w0 w d s0 o ok ws) (k b : Nat) (hk : k = 8 ∧ b = 256 ∨ k = 16 ∧ b = 65536) {K : Int → World → Prop} (hK : ∀ (m : Int) (ok' : Bool) w', St wb w0 w' d s0 o ok' (wordR ok ws).2.2 → (ok' = true → (wordR ok ws).2.1 = true ∧ 0 ≤ m ∧ m < b) → (∀ n : Nat, n < b → (wordR ok ws).1 = numB 10 n → m = n ∧ ok' = (wordR ok ws).2.1) → K m w') :
   Calls Tryz.prog F.script_reader_small #[.pointer (some ⟨d, 0, none⟩), .int .i64 k] w fun e w' => ∃ n, e = .returned (.int .u64 n) ∧ K n w' := by
 obtain ⟨s, g1, g2⟩ := h.rd
 refine (reader_small g1 (fun w' hc => (h.tabs hc).tabs.errs) k b hk).use ?_
 rintro _ w' ⟨m, ok', rfl, hS, h1, h2⟩
 exact ⟨m, rfl, hK m ok' w' (h.step g2 hS) h1 h2⟩
theorem St.addr (h : St wb w0 w d s0 o ok ws) {K : Array Value → World → Prop} (hK : ∀ w', St wb w0 w' d s0 o ((wordR ok ws).2.1 && (parseA (wordR ok ws).1).isSome) (wordR ok ws).2.2 → K ((parseA (wordR ok ws).1).getD Ad.zero).c.toArray w') :
   Calls Tryz.prog F.script_reader_addr #[.pointer (some ⟨d, 0, none⟩)] w fun e w' => ∃ c, e = .returned (.agg c) ∧ K c w' := by
 obtain ⟨s, g1, g2⟩ := h.rd
 refine (reader_addr g1 (fun w' hc => (h.tabs hc).tabs)).use ?_
 rintro _ w' ⟨rfl, hS⟩
 exact ⟨_, rfl, hK w' (h.step g2 hS)⟩
theorem St.on (h : St wb w0 w d s0 o ok ws) {K : Bool → World → Prop} (hK : ∀ w', St wb w0 w' d s0 o (wordR ok ws).2.1 (wordR ok ws).2.2 → K ((wordR ok ws).1 == [111, 110]) w') :
   Calls Tryz.prog F.script_reader_on #[.pointer (some ⟨d, 0, none⟩)] w fun e w' => ∃ b, e = .returned (.bool b) ∧ K b w' := by
 obtain ⟨s, g1, g2⟩ := h.rd
 refine (reader_on g1).use ?_
 rintro _ w' ⟨rfl, hS⟩
 exact ⟨_, rfl, hK w' (h.step g2 hS)⟩
theorem St.set (h : St wb w0 w d s0 o ok ws) (i : Nat) (v : Value) {A : Addr} (hA : A = ⟨w0.heap.size, i, none⟩) (hi : i < 51) (ho : o.c.set i v = o'.c) {K : World → Prop} (hK : ∀ w', St wb w0 w' d s0 o' ok ws → Chg (fun q => q = w0.heap.size) w w' → K w') :
   (∃ u : Value, w.cell? A = some u) ∧ w.frozen? A = false ∧ Nx (w.setCell A v) K := by
 subst hA
 refine ⟨⟨o.c[i]'(by rw [OpM.c_length]; exact hi), by rw [h.op.cell, List.getElem?_eq_getElem]⟩, Blk.frozen h.op _ rfl, nxSet h.op fun w' hv hc _ => hK w' (h.put hc (fun q e => by omega) (by rw [← ho]; exact hv)) hc⟩
theorem addF (b i : Nat) : Addr.add ⟨b, 0, none⟩ i = ⟨b, i, none⟩ := by rw [add_mk, Nat.zero_add]
def hd6 (o : OpM) : List Value := [.int .i64 o.kind, .slice o.data.a o.data.len o.data.cap, .int .i64 o.id, .int .i64 o.bid, .int .u64 o.n, .bool o.on]
theorem op_c (o : OpM) : o.c = hd6 o ++ (o.s.c o.k ++ (o.to.c ++ [.slice o.l.a o.l.len o.l.cap])) := rfl
theorem op_s (o : OpM) (s : Sv) (k : Sl) : o.c.take 6 ++ s.c k ++ o.c.drop (6 + (s.c k).length) = ({ o with s := s, k := k } : OpM).c := by
 rw [Sv.c_length, op_c, op_c, List.take_left' (show (hd6 o).length = 6 from rfl), ← List.append_assoc (hd6 o) (o.s.c o.k), List.drop_left' (by rw [List.length_append, Sv.c_length]; rfl), List.append_assoc]
 rfl
theorem op_t (o : OpM) (t : Bk) : o.c.take 29 ++ t.c ++ o.c.drop (29 + t.c.length) = ({ o with to := t } : OpM).c := by
 have e1 : o.c = (hd6 o ++ o.s.c o.k) ++ (o.to.c ++ [.slice o.l.a o.l.len o.l.cap]) := by rw [op_c, List.append_assoc]
 have e2 : o.c = ((hd6 o ++ o.s.c o.k) ++ o.to.c) ++ [.slice o.l.a o.l.len o.l.cap] := by rw [e1]; simp only [List.append_assoc]
 have h1 : o.c.take 29 = hd6 o ++ o.s.c o.k := by rw [e1, List.take_left' (by rw [List.length_append, Sv.c_length]; rfl)]
 have h2 : o.c.drop (29 + t.c.length) = [.slice o.l.a o.l.len o.l.cap] := by rw [Bk.c_length, e2, List.drop_left' (by rw [List.length_append, List.length_append, Sv.c_length, Bk.c_length]; rfl)]
 rw [h1, h2, op_c, List.append_assoc, List.append_assoc]
 rfl
theorem op_l (o : OpM) (l : Sl) : o.c.set 50 (.slice l.a l.len l.cap) = ({ o with l := l } : OpM).c := by
 have e0 : ∀ o : OpM, o.c = (hd6 o ++ o.s.c o.k ++ o.to.c) ++ [Value.slice o.l.a o.l.len o.l.cap] := fun o => by rw [op_c]; simp only [List.append_assoc]
 have hl : (hd6 o ++ o.s.c o.k ++ o.to.c).length = 50 := by rw [List.length_append, List.length_append, Sv.c_length, Bk.c_length]; rfl
 rw [e0 o, e0, List.set_append_right (h := by rw [hl]; exact Nat.le_refl _), hl]
 rfl
def Red (k : Int) (ws : List (List UInt8)) (w' : World) (o : OpM) (ok : Bool) (rest : List (List UInt8)) : Prop := ∃ y : Stp, OpIs w' o y ∧ y.kind = k ∧ bare y = y ∧ y.data.length ≤ 10000 ∧ y.li.length ≤ ws.length ∧ (ok = true → Vd y ∧ y.s.addr.good = true ∧ y.to.addr.good = true) ∧
 ∀ a, Vd a → Lined a → a.kind = k → ws = argsOf a → y = a ∧ ok = true ∧ rest = []
theorem Red.ext {k : Int} {rest : List (List UInt8)} (h : Red k ws w o ok rest) (hx : Ext w w') : Red k ws w' o ok rest := by
 obtain ⟨y, h1, h2⟩ := h
 exact ⟨y, h1.ext hx, h2⟩
theorem Red.chg {k : Int} {rest : List (List UInt8)} {W : Nat → Prop} (h : Red k ws w o ok rest) (hx : Chg W w w') (h1 : ∀ q, ownB o.data q → ¬ W q) (h2 : ∀ q, ownB o.l q → ¬ W q) : Red k ws w' o ok rest := by
 obtain ⟨y, g, h⟩ := h
 exact ⟨y, ⟨g.kind, g.data.chg hx h1, g.id, g.bid, g.n, g.on, g.s, g.nb, g.to, g.li.chg hx h2⟩, h⟩
theorem opIs_z (k : Int) (w : World) : OpIs w (opK k) (stp0 k) := ⟨rfl, (OwnS.none 1 Ty.uint8 w).src, rfl, rfl, rfl, rfl, rfl, rfl, rfl, (OwnS.none 1 Ty.int w).src⟩
theorem vd_z (k : Int) : Vd (stp0 k) := by
 constructor <;> simp [stp0, Sv.zero, Bk.zero, I64]
theorem good_z (k : Int) : (stp0 k).s.addr.good = true ∧ (stp0 k).to.addr.good = true := by
 have h : Ad.zero.good = true := by decide +kernel
 exact ⟨h, h⟩
end Go.Proofs.YtgljoledlhmhnaaGreatDoor
namespace Go.Proofs.YtgljoledlhmhnaaGreatDoor
open Go Gx
variable {w w' : World}
theorem parse_some {l : List UInt8} (h : (parseA l).isSome = true) : ∃ a, parseA l = some a ∧ a.good = true := by
 obtain ⟨a, ha⟩ := Option.isSome_iff_exists.1 h
 exact ⟨a, ha, (parseA_iff.1 ha).1⟩
theorem u16r (m : Int) : 0 ≤ IntKind.wrap .u16 m ∧ IntKind.wrap .u16 m ≤ 65535 := by rw [wr16m]; omega
theorem u8r (m : Int) : 0 ≤ IntKind.wrap .u8 m ∧ IntKind.wrap .u8 m ≤ 255 := by rw [wr8m]; omega
theorem and_isSome {a : Bool} {o : Option Ad} (h : (a && o.isSome) = true) : a = true ∧ o.isSome = true := by simpa using h
theorem red_none {k : Int} {ws : List (List UInt8)} (ok : Bool) (w : World) (h1 : k ≠ 1) (h2 : k ≠ 2) (h3 : k ≠ 3) (h4 : k ≠ 4) (h5 : k ≠ 5) (h6 : ¬ (k = 6 ∨ k = 12)) (h7 : ¬ (k = 7 ∨ k = 9)) (h8 : ¬ (k = 8 ∨ k = 13)) (h11 : k ≠ 11) (hok : ok = true) : Red k ws w (opK k) ok ws := by
 have hb : ∀ a : Stp, a.kind = k → bare a = stp0 k := fun a ha => by
   unfold bare
   rw [ha, if_neg h1, if_neg h2, if_neg h3, if_neg h4, if_neg h5, if_neg h6, if_neg h7, if_neg h8, if_neg h11]
 refine ⟨stp0 k, opIs_z k w, rfl, hb _ rfl, by simp [stp0], by simp [stp0], fun _ => ⟨vd_z k, good_z k⟩, fun a hv hl hk hw => ⟨?_, hok, ?_⟩⟩
 · rw [← hl.bare, hb a hk]
 · rw [hw, args0 (by rw [hk]; exact h1) (by rw [hk]; exact h2) (by rw [hk]; exact h3) (by rw [hk]; exact h4) (by rw [hk]; exact h5) (by rw [hk]; exact h6) (by rw [hk]; exact h7) (by rw [hk]; exact h8) (by rw [hk]; exact h11)]
theorem bareK {k : Int} (a : Stp) (hk : a.kind = k) : (k = 1 → bare a = { stp0 k with data := a.data }) ∧ (k = 2 → bare a = { stp0 k with n := a.n }) ∧ (k = 3 → bare a = { stp0 k with s := a.s }) ∧ (k = 4 → bare a = { stp0 k with id := a.id }) ∧
   (k = 5 → bare a = { stp0 k with id := a.id, to := { a.to with drained := false } }) ∧ (k = 6 ∨ k = 12 → bare a = { stp0 k with id := a.id, bid := a.bid }) ∧ (k = 7 ∨ k = 9 → bare a = { stp0 k with id := a.id, bid := a.bid, on := a.on }) ∧
   (k = 8 ∨ k = 13 → bare a = { stp0 k with id := a.id, bid := a.bid, n := a.n }) ∧ (k = 11 → bare a = { stp0 k with li := a.li }) := by
 subst hk
 refine ⟨fun h => ?_, fun h => ?_, fun h => ?_, fun h => ?_, fun h => ?_, fun h => ?_, fun h => ?_, fun h => ?_, fun h => ?_⟩ <;> unfold bare <;> (try rcases h with h | h) <;> simp [h]
theorem reader_step {wb : World} {d : Nat} {s : Sl} {ws : List (List UInt8)} (k : Int) (h : RdAt w d s true ws) (hwl : ws.length ≤ 100000) (hb : ScT wb) (hx : Ext wb w) (hd : wb.heap.size ≤ d) :
   Ret Tryz.prog F.script_reader_step #[.pointer (some ⟨d, 0, none⟩), .int .i64 k] w (fun v w' => ∃ (o : OpM) (ok : Bool) (rest : List (List UInt8)) (s' : Sl), v = .agg o.c.toArray ∧ RdAt w' d s' ok rest ∧ Chg (fun q => q = d) w w' ∧ Red k ws w' o ok rest ∧ (∀ q, ownB o.data q → w.heap.size < q) ∧ ∀ q, ownB o.l q → w.heap.size < q) := by
 refine W.script_reader_step_ok _ _ w _ ?_
 (delta W.script_reader_step z4 st nA Br c4 c17 r8 c18 c1 c15 c9 r1 T25; dsimp only)
 refine nxVar (vs := opZ.c) (by kernel_rfl) fun w1 hv1 hx1 hs1 => ?_
 have hS1 : St wb w w1 d s opZ true ws := ⟨⟨s, h.ext hx1, fun _ h => h⟩, hv1, Chg.of_ext hx1, hb, hx, hd, h.v.lt, h.lt⟩
 refine hS1.set (o' := opK k) 0 _ rfl (by omega) rfl fun w2 hS2 _ => ?_
 refine Jn0 (fun w' => ∃ (o : OpM) (ok : Bool) (rest : List (List UInt8)), St wb w w' d s o ok rest ∧ Red k ws w' o ok rest ∧ (∀ q, ownB o.data q → w.heap.size < q) ∧ (∀ q, ownB o.l q → w.heap.size < q)) (fun q hq => ?_) ?_
 · have nilO : ∀ q : Nat, ownB nilS q → w.heap.size < q := fun q hq => (ownB_none q hq).elim
   refine ⟨fun h1 => ?_, fun h1 => ⟨fun h2 => ?_, fun h2 => ⟨fun h3 => ?_, fun h3 => ⟨fun h4 => ?_, fun h4 => ⟨fun h5 => ?_, fun h5 => ?_⟩⟩⟩⟩⟩
   · obtain rfl : k = 1 := eq_of_beq h1
     obtain ⟨sr, g1, g2⟩ := hS2.rd
     have hwl := wordR_len (ok := true) g1.few
     refine (reader_word g1).use ?_
     rintro _ w4 ⟨rfl, hst⟩
     have hS4 := hS2.step g2 hst
     refine ⟨_, rfl, (script_unhex (wordR true ws).1 hwl w4 (hb.ext hS4.ext).mx).use ?_⟩
     rintro _ w7 ⟨s9, b, ok9, rfl, hs9, hb9, hf9, hx7, hex⟩
     have hS7 : St wb w w7 d s (opK 1) (wordR true ws).2.1 (wordR true ws).2.2 := hS4.put hx7 (fun _ h => h.elim) (hS4.op.ext hx7)
     obtain ⟨s7, k1, k2⟩ := hS7.rd
     have hlt : w.heap.size < w4.heap.size := hS4.op.lt
     refine ⟨s9, ok9, rfl, _, rfl, _, k1.ok1, hS7.set (o' := { opK 1 with data := s9 }) 1 _ (addF _ _) (by omega) rfl fun w13 hS13 hc13 => ⟨_, rfl, ?_⟩⟩
     obtain ⟨s13, m1, m2⟩ := hS13.rd
     refine m1.mark (ok' := (wordR true ws).2.1 && ok9) fun w15 m15 hc15 => hq _ ⟨{ opK 1 with data := s9 }, (wordR true ws).2.1 && ok9, (wordR true ws).2.2, ?_, ?_, fun q hq => Nat.lt_of_lt_of_le hlt (hf9 q hq), nilO⟩
     · exact hS13.step m2 ⟨s13, m15, hc15, fun _ h => h⟩
     · have hdl := hS13.dlt
       have hs15 := (hs9.chg (W := fun q => q = w.heap.size) hc13 (fun q hq e => by have := hf9 q hq; omega)).chg (W := fun q => q = d) hc15 (fun q hq e => by have := hf9 q hq; omega)
       refine ⟨{ stp0 1 with data := b }, ⟨rfl, hs15, rfl, rfl, rfl, rfl, rfl, rfl, rfl, (OwnS.none 1 Ty.int w15).src⟩, rfl, (bareK _ rfl).1 rfl, hb9, by simp [stp0], fun _ => ⟨by constructor <;> simp [stp0, Sv.zero, Bk.zero, I64], good_z 1⟩, fun a hv hl hk hw => ?_⟩
       have ha := args1 hk
       rw [ha] at hw
       subst hw
       obtain ⟨e1, e2⟩ := hex a.data rfl
       refine ⟨?_, by rw [e1]; rfl, rfl⟩
       rw [← hl.bare, (bareK a hk).1 rfl, e2]
   · obtain rfl : k = 2 := eq_of_beq h2
     refine hS2.long fun m ok w16 hS16 hr hn => hS16.set (o' := { opK 2 with n := m }) 4 _ (addF _ _) (by omega) rfl fun w19 hS19 _ => hq _ ⟨_, _, _, hS19, ?_, nilO, nilO⟩
     refine ⟨{ stp0 2 with n := m }, ⟨rfl, (OwnS.none 1 Ty.uint8 _).src, rfl, rfl, rfl, rfl, rfl, rfl, rfl, (OwnS.none 1 Ty.int _).src⟩, rfl, (bareK _ rfl).2.1 rfl, by simp [stp0], by simp [stp0], fun hok => ⟨?_, good_z 2⟩, fun a hv hl hk hw => ?_⟩
     · have := hr hok
       constructor <;> simp [stp0, Sv.zero, Bk.zero, I64, this]
     · rw [args2 hk] at hw
       subst hw
       have hvn := hv.n
       obtain ⟨e1, e2⟩ := hn a.n.toNat (by omega) rfl
       refine ⟨?_, e2, rfl⟩
       have q : ((a.n.toNat : Nat) : Int) = a.n := by omega
       rw [← hl.bare, (bareK a hk).2.1 rfl, e1, q]
   · obtain rfl : k = 3 := eq_of_beq h3
     refine hS2.int fun m1 ok1 w20 hS20 _ r1 c1 n1 => hS20.addr fun w23 hS23 => hS23.small 16 65536 (.inr ⟨rfl, rfl⟩) fun m3 ok3 w26 hS26 c3 n3 => hS26.small 8 256 (.inl ⟨rfl, rfl⟩) fun m4 ok4 w29 hS29 c4 n4 =>
       hS29.int fun m5 ok5 w32 hS32 _ r5 c5 n5 => hS32.long fun m6 ok6 w35 hS35 c6 n6 => ?_
     refine ⟨_, mkSv _ _ _ _ _ _ w35, ?_, by simp [Sv.c_length], ?_⟩
     · rw [addF]
       exact Blk.storeOk hS35.op 6 _ (by simp [Sv.c_length, OpM.c_length]) (by simpa using Sv.plain _ _)
     rw [addF]
     refine nxPutAt hS35.op (us := (Sv.mk m1 ((parseA (wordR ok1 (wordR true ws).2.2).1).getD Ad.zero) (IntKind.wrap .u16 m3) (IntKind.wrap .u8 m4) m5 m6).c nilS) (by simp) (by simp [Sv.c_length, OpM.c_length]) fun w39 hv39 hc39 _ => ?_
     rw [op_s] at hv39
     have hS39 := hS35.put hc39 (fun q e => by omega) hv39
     refine hq _ ⟨_, _, _, hS39, ?_, nilO, nilO⟩
     refine ⟨{ stp0 3 with s := ⟨m1, (parseA (wordR ok1 (wordR true ws).2.2).1).getD Ad.zero, IntKind.wrap .u16 m3, IntKind.wrap .u8 m4, m5, m6⟩ }, ⟨rfl, (OwnS.none 1 Ty.uint8 _).src, rfl, rfl, rfl, rfl, rfl, rfl, rfl, (OwnS.none 1 Ty.int _).src⟩, rfl, (bareK _ rfl).2.2.1 rfl, by simp [stp0], by simp [stp0], fun hok => ?_, fun a hv hl hk hw => ?_⟩
     · have t6 := c6 hok
       have t5 := c5 (wordR_ok t6.1)
       have t4 := c4 (wordR_ok t5)
       have t3 := c3 (wordR_ok t4.1)
       have t2 := and_isSome (wordR_ok t3.1)
       obtain ⟨x, hx1, hx2⟩ := parse_some t2.2
       refine ⟨?_, by show ((parseA (wordR ok1 (wordR true ws).2.2).1).getD Ad.zero).good = true; rw [hx1]; exact hx2, (good_z 3).2⟩
       have p1 := u16r m3; have p2 := u8r m4
       have r1' := r1; have r5' := r5
       unfold I64 at r1' r5'
       constructor <;> simp [stp0, Bk.zero, I64] <;> omega
     · rw [args3 hk] at hw
       subst hw
       obtain ⟨e1, k1⟩ := n1 a.s.id hv.sid rfl
       obtain rfl : ok1 = true := k1
       have hp : parseA (showA a.s.addr) = some a.s.addr := parseA_iff.2 ⟨hl.sg, rfl⟩
       have hp' : ∀ r, parseA (wordR true (showA a.s.addr :: r)).1 = some a.s.addr := fun r => hp
       have b2 := hv.sport; have b3 := hv.sproto; have b6 := hv.slasts
       have eok2 : ((wordR true (wordR true [numI a.s.id, showA a.s.addr, numB 10 a.s.port.toNat, numB 10 a.s.proto.toNat, numI a.s.bits, numB 10 a.s.lasts.toNat]).2.2).2.1 && (parseA (wordR true (wordR true [numI a.s.id, showA a.s.addr, numB 10 a.s.port.toNat, numB 10 a.s.proto.toNat, numI a.s.bits, numB 10 a.s.lasts.toNat]).2.2).1).isSome) = true := by
         show (true && (parseA (showA a.s.addr)).isSome) = true
         rw [hp]; rfl
       rw [eok2] at n3 n4 n5 n6
       obtain ⟨e3, k3⟩ := n3 a.s.port.toNat (by omega) rfl
       obtain rfl : ok3 = true := k3
       obtain ⟨e4, k4⟩ := n4 a.s.proto.toNat (by omega) rfl
       obtain rfl : ok4 = true := k4
       obtain ⟨e5, k5⟩ := n5 a.s.bits hv.sbits rfl
       obtain rfl : ok5 = true := k5
       obtain ⟨e6, k6⟩ := n6 a.s.lasts.toNat (by omega) rfl
       refine ⟨?_, k6, by rw [eok2]; rfl⟩
       rw [← hl.bare, (bareK a hk).2.2.1 rfl, e1, e3, e4, e5, e6]
       have q1 : IntKind.wrap .u16 ((a.s.port.toNat : Nat) : Int) = a.s.port := by rw [wr16 (by omega) (by omega)]; omega
       have q2 : IntKind.wrap .u8 ((a.s.proto.toNat : Nat) : Int) = a.s.proto := by rw [wr8 (by omega) (by omega)]; omega
       have q3 : ((a.s.lasts.toNat : Nat) : Int) = a.s.lasts := by omega
       rw [q1, q2, q3]
       show ({ stp0 3 with s := ⟨a.s.id, (parseA (showA a.s.addr)).getD Ad.zero, a.s.port, a.s.proto, a.s.bits, a.s.lasts⟩ } : Stp) = _
       rw [hp]; rfl
   · obtain rfl : k = 4 := eq_of_beq h4
     refine hS2.int fun m ok w16 hS16 _ r1 c1 hn => hS16.set (o' := { opK 4 with id := m }) 2 _ (addF _ _) (by omega) rfl fun w19 hS19 _ => hq _ ⟨_, _, _, hS19, ?_, nilO, nilO⟩
     refine ⟨{ stp0 4 with id := m }, ⟨rfl, (OwnS.none 1 Ty.uint8 _).src, rfl, rfl, rfl, rfl, rfl, rfl, rfl, (OwnS.none 1 Ty.int _).src⟩, rfl, (bareK _ rfl).2.2.2.1 rfl, by simp [stp0], by simp [stp0], fun hok => ⟨?_, good_z 4⟩, fun a hv hl hk hw => ?_⟩
     · unfold I64 at r1
       constructor <;> simp [stp0, Sv.zero, Bk.zero, I64] <;> omega
     · rw [args4 hk] at hw
       subst hw
       obtain ⟨e1, e2⟩ := hn a.id hv.id rfl
       refine ⟨?_, e2, rfl⟩
       rw [← hl.bare, (bareK a hk).2.2.2.1 rfl, e1]
   · obtain rfl : k = 5 := eq_of_beq h5
     refine hS2.int fun m1 ok1 w20 hS20 _ r1 c1 n1 => hS20.set (o' := { opK 5 with id := m1 }) 2 _ (addF _ _) (by omega) rfl fun w47 hS47 _ => hS47.int fun m2 ok2 w48 hS48 _ r2 c2 n2 => hS48.addr fun w51 hS51 => hS51.small 16 65536 (.inr ⟨rfl, rfl⟩) fun m3 ok3 w54 hS54 c3 n3 =>
       hS54.int fun m5 ok5 w57 hS57 _ r5 c5 n5 => ?_
     refine ⟨_, mkBk _ _ _ _ w57, ?_, by simp [Bk.c_length], ?_⟩
     · rw [addF]
       exact Blk.storeOk hS57.op 29 _ (by simp [Bk.c_length, OpM.c_length]) (by simpa using Bk.plain _)
     rw [addF]
     refine nxPutAt hS57.op (us := (Bk.mk m2 ((parseA (wordR ok2 (wordR ok1 (wordR true ws).2.2).2.2).1).getD Ad.zero) (IntKind.wrap .u16 m3) m5 false).c) (by simp) (by simp [Bk.c_length, OpM.c_length]) fun w61 hv61 hc61 _ => ?_
     rw [op_t] at hv61
     have hS61 := hS57.put hc61 (fun q e => by omega) hv61
     refine hq _ ⟨_, _, _, hS61, ?_, nilO, nilO⟩
     refine ⟨{ stp0 5 with id := m1, to := ⟨m2, (parseA (wordR ok2 (wordR ok1 (wordR true ws).2.2).2.2).1).getD Ad.zero, IntKind.wrap .u16 m3, m5, false⟩ }, ⟨rfl, (OwnS.none 1 Ty.uint8 _).src, rfl, rfl, rfl, rfl, rfl, rfl, rfl, (OwnS.none 1 Ty.int _).src⟩, rfl, (bareK _ rfl).2.2.2.2.1 rfl, by simp [stp0], by simp [stp0], fun hok => ?_, fun a hv hl hk hw => ?_⟩
     · have t5 := c5 hok
       have t3 := c3 (wordR_ok t5)
       have t2 := and_isSome (wordR_ok t3.1)
       obtain ⟨x, hx1, hx2⟩ := parse_some t2.2
       refine ⟨?_, (good_z 5).1, by show ((parseA (wordR ok2 (wordR ok1 (wordR true ws).2.2).2.2).1).getD Ad.zero).good = true; rw [hx1]; exact hx2⟩
       have p1 := u16r m3
       have r1' := r1; have r2' := r2; have r5' := r5
       unfold I64 at r1' r2' r5'
       constructor <;> simp [stp0, Sv.zero, I64] <;> omega
     · rw [args5 hk] at hw
       subst hw
       obtain ⟨e1, k1⟩ := n1 a.id hv.id rfl
       obtain rfl : ok1 = true := k1
       obtain ⟨e2, k2⟩ := n2 a.to.id hv.tid rfl
       obtain rfl : ok2 = true := k2
       have hp : parseA (showA a.to.addr) = some a.to.addr := parseA_iff.2 ⟨hl.tg, rfl⟩
       have b2 := hv.tport
       have eok2 : ((wordR true (wordR true (wordR true [numI a.id, numI a.to.id, showA a.to.addr, numB 10 a.to.port.toNat, numI a.to.weight]).2.2).2.2).2.1 && (parseA (wordR true (wordR true (wordR true [numI a.id, numI a.to.id, showA a.to.addr, numB 10 a.to.port.toNat, numI a.to.weight]).2.2).2.2).1).isSome) = true := by
         show (true && (parseA (showA a.to.addr)).isSome) = true
         rw [hp]; rfl
       rw [eok2] at n3 n5
       obtain ⟨e3, k3⟩ := n3 a.to.port.toNat (by omega) rfl
       obtain rfl : ok3 = true := k3
       obtain ⟨e5, k5⟩ := n5 a.to.weight hv.tweight rfl
       refine ⟨?_, k5, by rw [eok2]; rfl⟩
       rw [← hl.bare, (bareK a hk).2.2.2.2.1 rfl, e1, e2, e3, e5]
       have q1 : IntKind.wrap .u16 ((a.to.port.toNat : Nat) : Int) = a.to.port := by rw [wr16 (by omega) (by omega)]; omega
       rw [q1]
       show ({ stp0 5 with id := a.id, to := ⟨a.to.id, (parseA (showA a.to.addr)).getD Ad.zero, a.to.port, a.to.weight, false⟩ } : Stp) = _
       rw [hp]; rfl
   have n1 := ne_of_beq_false h1; have n2 := ne_of_beq_false h2; have n3 := ne_of_beq_false h3; have n4 := ne_of_beq_false h4; have n5 := ne_of_beq_false h5
   refine Jn1 (fun b w' => b = decide (k = 6 ∨ k = 12) ∧ w2 = w') (fun q2 hq2 => ⟨fun h => hq2 _ _ ⟨?_, rfl⟩, fun h => hq2 _ _ ⟨?_, rfl⟩⟩) ?_
   · rw [h]; have := eq_of_beq h; simp [this]
   · have := ne_of_beq_false h; rw [Bool.eq_iff_iff]; simp [this]
   rintro _ _ ⟨rfl, rfl⟩
   refine ⟨fun h => ?_, fun h6 => ?_⟩
   · have hk := of_decide_eq_true h
     refine hS2.int fun m1 ok1 w65 hS65 _ r1 c1 n1 => hS65.int fun m2 ok2 w68 hS68 _ r2 c2 n2 => hS68.set (o' := { opK k with id := m1 }) 2 _ (addF _ _) (by omega) rfl fun w71 hS71 _ => hS71.set (o' := { opK k with id := m1, bid := m2 }) 3 _ (addF _ _) (by omega) rfl fun w72 hS72 _ => hq _ ⟨_, _, _, hS72, ?_, nilO, nilO⟩
     refine ⟨{ stp0 k with id := m1, bid := m2 }, ⟨rfl, (OwnS.none 1 Ty.uint8 _).src, rfl, rfl, rfl, rfl, rfl, rfl, rfl, (OwnS.none 1 Ty.int _).src⟩, rfl, (bareK _ rfl).2.2.2.2.2.1 hk, by simp [stp0], by simp [stp0], fun hok => ⟨?_, good_z k⟩, fun a hv hl hk2 hw => ?_⟩
     · unfold I64 at r1 r2
       constructor <;> simp [stp0, Sv.zero, Bk.zero, I64] <;> omega
     · rw [args6 (by rw [hk2]; exact hk)] at hw
       subst hw
       obtain ⟨e1, k1⟩ := n1 a.id hv.id rfl
       obtain rfl : ok1 = true := k1
       obtain ⟨e2, k2⟩ := n2 a.bid hv.bid rfl
       refine ⟨?_, k2, rfl⟩
       rw [← hl.bare, (bareK a hk2).2.2.2.2.2.1 hk, e1, e2]
   have n6 := of_decide_eq_false h6
   refine Jn1 (fun b w' => b = decide (k = 7 ∨ k = 9) ∧ w2 = w') (fun q2 hq2 => ⟨fun h => hq2 _ _ ⟨?_, rfl⟩, fun h => hq2 _ _ ⟨?_, rfl⟩⟩) ?_
   · rw [h]; have := eq_of_beq h; simp [this]
   · have := ne_of_beq_false h; rw [Bool.eq_iff_iff]; simp [this]
   rintro _ _ ⟨rfl, rfl⟩
   refine ⟨fun h => ?_, fun h7 => ?_⟩
   · have hk := of_decide_eq_true h
     refine hS2.int fun m1 ok1 w65 hS65 _ r1 c1 n1 => hS65.int fun m2 ok2 w68 hS68 _ r2 c2 n2 => hS68.on fun w82 hS82 => hS82.set (o' := { opK k with id := m1 }) 2 _ (addF _ _) (by omega) rfl fun w71 hS71 _ => hS71.set (o' := { opK k with id := m1, bid := m2 }) 3 _ (addF _ _) (by omega) rfl fun w72 hS72 _ =>
       hS72.set (o' := { opK k with id := m1, bid := m2, on := ((wordR ok2 (wordR ok1 (wordR true ws).2.2).2.2).1 == [111, 110]) }) 5 _ (addF _ _) (by omega) rfl fun w73 hS73 _ => hq _ ⟨_, _, _, hS73, ?_, nilO, nilO⟩
     refine ⟨{ stp0 k with id := m1, bid := m2, on := ((wordR ok2 (wordR ok1 (wordR true ws).2.2).2.2).1 == [111, 110]) }, ⟨rfl, (OwnS.none 1 Ty.uint8 _).src, rfl, rfl, rfl, rfl, rfl, rfl, rfl, (OwnS.none 1 Ty.int _).src⟩, rfl, (bareK _ rfl).2.2.2.2.2.2.1 hk, by simp [stp0], by simp [stp0], fun hok => ⟨?_, good_z k⟩, fun a hv hl hk2 hw => ?_⟩
     · unfold I64 at r1 r2
       constructor <;> simp [stp0, Sv.zero, Bk.zero, I64] <;> omega
     · rw [args7 (by rw [hk2]; exact hk)] at hw
       subst hw
       obtain ⟨e1, k1⟩ := n1 a.id hv.id rfl
       obtain rfl : ok1 = true := k1
       obtain ⟨e2, k2⟩ := n2 a.bid hv.bid rfl
       obtain rfl : ok2 = true := k2
       refine ⟨?_, rfl, rfl⟩
       rw [← hl.bare, (bareK a hk2).2.2.2.2.2.2.1 hk, e1, e2]
       show ({ stp0 k with id := a.id, bid := a.bid, on := (onW a.on == [111, 110]) } : Stp) = _
       cases a.on <;> rfl
   have n7 := of_decide_eq_false h7
   refine Jn1 (fun b w' => b = decide (k = 8 ∨ k = 13) ∧ w2 = w') (fun q2 hq2 => ⟨fun h => hq2 _ _ ⟨?_, rfl⟩, fun h => hq2 _ _ ⟨?_, rfl⟩⟩) ?_
   · rw [h]; have := eq_of_beq h; simp [this]
   · have := ne_of_beq_false h; rw [Bool.eq_iff_iff]; simp [this]
   rintro _ _ ⟨rfl, rfl⟩
   refine ⟨fun h => ?_, fun h8 => ?_⟩
   · have hk := of_decide_eq_true h
     refine hS2.int fun m1 ok1 w65 hS65 _ r1 c1 n1 => hS65.int fun m2 ok2 w68 hS68 _ r2 c2 n2 => hS68.long fun m3 ok3 w82 hS82 c3 n3 => hS82.set (o' := { opK k with id := m1 }) 2 _ (addF _ _) (by omega) rfl fun w71 hS71 _ => hS71.set (o' := { opK k with id := m1, bid := m2 }) 3 _ (addF _ _) (by omega) rfl fun w72 hS72 _ =>
       hS72.set (o' := { opK k with id := m1, bid := m2, n := m3 }) 4 _ (addF _ _) (by omega) rfl fun w73 hS73 _ => hq _ ⟨_, _, _, hS73, ?_, nilO, nilO⟩
     refine ⟨{ stp0 k with id := m1, bid := m2, n := m3 }, ⟨rfl, (OwnS.none 1 Ty.uint8 _).src, rfl, rfl, rfl, rfl, rfl, rfl, rfl, (OwnS.none 1 Ty.int _).src⟩, rfl, (bareK _ rfl).2.2.2.2.2.2.2.1 hk, by simp [stp0], by simp [stp0], fun hok => ⟨?_, good_z k⟩, fun a hv hl hk2 hw => ?_⟩
     · have := c3 hok
       unfold I64 at r1 r2
       constructor <;> simp [stp0, Sv.zero, Bk.zero, I64] <;> omega
     · rw [args8 (by rw [hk2]; exact hk)] at hw
       subst hw
       obtain ⟨e1, k1⟩ := n1 a.id hv.id rfl
       obtain rfl : ok1 = true := k1
       obtain ⟨e2, k2⟩ := n2 a.bid hv.bid rfl
       obtain rfl : ok2 = true := k2
       have hvn := hv.n
       obtain ⟨e3, k3⟩ := n3 a.n.toNat (by omega) rfl
       refine ⟨?_, k3, rfl⟩
       have q : ((a.n.toNat : Nat) : Int) = a.n := by omega
       rw [← hl.bare, (bareK a hk2).2.2.2.2.2.2.2.1 hk, e1, e2, e3, q]
   have n8 := of_decide_eq_false h8
   refine ⟨fun h => ?_, fun h11 => ?_⟩
   · obtain rfl : k = 11 := eq_of_beq h
     refine ⟨fun w' => ∃ (l : List Int) (L : Sl) (ok : Bool) (rest : List (List UInt8)), St wb w w' d s { opK 11 with l := L } ok rest ∧ OwnS 1 Ty.int w' L (l.map encI) ∧ (∀ q, ownB L q → w.heap.size < q) ∧ l.length + rest.length ≤ ws.length ∧ (∀ n ∈ l, I64 n) ∧ (w'.cell? ⟨d, 0, none⟩ = some (.slice none 0 0) → True) ∧
         ∀ x : List Int, (∀ n ∈ x, I64 n) → ws = x.map numI → ok = true ∧ l = x.take l.length ∧ rest = (x.drop l.length).map numI,
       fun w' => match w'.cell? (Addr.add ⟨d, 0, none⟩ 1), w'.cell? ⟨d, 0, none⟩ with | some (.bool true), some (.slice _ n _) => n + 1 | _, _ => 0,
       ⟨[], nilS, true, ws, hS2, OwnS.none _ _ _, nilO, by simp, by simp, fun _ => trivial, fun x _ hx => ⟨rfl, by simp, by simpa using hx⟩⟩, ?_⟩
     rintro w105 ⟨l, L, ok, rest, hS, hown, hfL, hlen, hlr, _, hex⟩
     obtain ⟨sr, g1, g2⟩ := hS.rd
     have hrl := g1.len
     refine ⟨_, rfl, ok, g1.ok1, Jn1 (fun b w' => b = (ok && decide (rest ≠ [])) ∧ w105 = w') (fun q2 hq2 => ⟨fun hb => ⟨_, rfl, sr, g1.v.cell, hq2 _ _ ⟨?_, rfl⟩⟩, fun hb => hq2 _ _ ⟨by rw [hb]; rfl, rfl⟩⟩) ?_⟩
     · rw [hb, Bool.true_and, hrl, Bool.eq_iff_iff, decide_eq_true_eq, decide_eq_true_eq]
       cases rest with
       | nil => simp
       | cons a r => simp
     rintro _ _ ⟨rfl, rfl⟩
     refine ⟨fun hb => nx ?_, fun hb => ?_⟩
     · rw [Bool.and_eq_true, decide_eq_true_eq] at hb
       obtain ⟨rfl, hne⟩ := hb
       have hSd : St wb w w105.drew d s { opK 11 with l := L } true rest := hS.put (W := fun _ => False) (Chg.drew (.refl _ _)) (fun _ h => h.elim) hS.op.drew
       refine ⟨fun q => q = d, fun e => by have := hS.dlt; have e' : w.heap.size = d := e; omega, L, ?_, hSd.int fun m ok' w116 hS116 hc116 r c n => ⟨hc116, ?_⟩⟩
       · rw [addF, hSd.op.cell]
         have := op_l { opK 11 with l := L } L
         rw [← this]
         rw [List.getElem?_set_self (by rw [OpM.c_length]; omega)]
       have hx119 : Ext w116 (w116.alloc (.cells #[.int .i64 m] Ty.int)) := Chg.alloc (.refl _ _) _
       have hownd := hown.chg (Chg.drew (W := fun _ => False) (.refl _ _)) (fun _ _ h => h)
       have hown116 := hownd.chg hc116 (fun q hq e => by have := hfL q hq; have := hS.dlt; omega)
       have hLl : L.len = l.length := by have := hown.1; rw [List.length_map] at this; omega
       obtain ⟨L', w121, f1, f2, f3, f4, f5⟩ := appInt.push (oT := Ty.Sl_int) (xs := [.int .i64 m]) rfl hown116 (fun v hv => by rw [List.mem_singleton.1 hv]; trivial) (by omega)
       refine nx ⟨Chg.of_ext hx119, L', w121, f1, ?_⟩
       have hlt116 := hS116.op.lt
       have hS121 : St wb w w121 d s { opK 11 with l := L } ok' (wordR true rest).2.2 := hS116.put f4 (fun q hq => by have := hfL q hq; omega) (hS116.op.chg f4 (fun hq => by have := hfL _ hq; omega))
       refine hS121.set (o' := { opK 11 with l := L' }) 50 _ (addF _ _) (by omega) (op_l _ _) fun w122 hS122 hc122 => ?_
       have hfL' : ∀ q, ownB L' q → w.heap.size < q := fun q hq => by
         rcases f5 q hq with h1 | h1
         · exact hfL q h1
         · omega
       obtain ⟨x0, r0, rfl⟩ : ∃ x0 r0, rest = x0 :: r0 := by cases rest with | nil => exact absurd rfl hne | cons a b => exact ⟨a, b, rfl⟩
       have ew : wordR true (x0 :: r0) = (x0, true, r0) := rfl
       rw [ew] at hS122 n c
       refine ⟨⟨l ++ [m], L', ok', r0, hS122, ?_, hfL', ?_, ?_, fun _ => trivial, fun x hx he => ?_⟩, ?_⟩
       · rw [List.map_append]
         exact OwnS.chg (W := fun q => q = w.heap.size) f2 hc122 (fun q hq e => by have := hfL' q hq; omega)
       · simp only [List.length_append, List.length_cons, List.length_nil] at hlen ⊢; omega
       · intro y hy
         rcases List.mem_append.1 hy with hy | hy
         · exact hlr y hy
         · rw [List.mem_singleton.1 hy]; exact r
       · obtain ⟨_, e2, e3⟩ := hex x hx he
         have hlx : l.length < x.length := by
           apply Classical.byContradiction; intro hge
           rw [List.drop_of_length_le (by omega)] at e3; cases e3
         rw [List.drop_eq_getElem_cons hlx, List.map_cons] at e3
         obtain ⟨e4, e5⟩ := List.cons.inj e3
         obtain ⟨e6, e7⟩ := n x[l.length] (hx _ (List.getElem_mem hlx)) e4
         refine ⟨e7, ?_, ?_⟩
         · rw [List.length_append, List.length_singleton, List.take_succ_eq_append_getElem hlx, ← e2, e6]
         · rw [List.length_append, List.length_singleton]; exact e5
       · obtain ⟨s2, j1, j2⟩ := hS122.rd
         simp only [g1.ok1, g1.v.cell, j1.ok1, j1.v.cell]
         have hj : s2.len = r0.length := j1.len
         have hr2 : sr.len = r0.length + 1 := g1.len
         simp only [List.getElem?_cons_zero]
         cases ok' with
         | true => show s2.len + 1 < sr.len + 1; omega
         | false => show 0 < sr.len + 1; omega
     · have hlr' : OpIs w105 ({ opK 11 with l := L } : OpM) { stp0 11 with li := l } := ⟨rfl, (OwnS.none 1 Ty.uint8 _).src, rfl, rfl, rfl, rfl, rfl, rfl, rfl, hown.src⟩
       refine hq _ ⟨_, ok, rest, hS, ?_, nilO, hfL⟩
       refine ⟨{ stp0 11 with li := l }, hlr', rfl, (bareK _ rfl).2.2.2.2.2.2.2.2 rfl, by simp [stp0], by show l.length ≤ _; omega, fun hok => ⟨?_, good_z 11⟩, fun a hv hl hk2 hw => ?_⟩
       · constructor <;> simp [stp0, Sv.zero, Bk.zero, I64]
         intro n hn
         exact hlr n hn
       · rw [args11 hk2] at hw
         obtain ⟨e1, e2, e3⟩ := hex a.li hv.li hw
         rw [e1, Bool.true_and] at hb
         have hr0 : rest = [] := by
           have := of_decide_eq_false hb
           exact Classical.byContradiction fun h => this h
         have hl2 : a.li.length ≤ l.length := by
           rw [hr0] at e3
           have := congrArg List.length e3
           simp only [List.length_nil, List.length_map, List.length_drop] at this
           omega
         refine ⟨?_, e1, hr0⟩
         rw [← hl.bare, (bareK a hk2).2.2.2.2.2.2.2.2 rfl, e2, List.take_of_length_le hl2]
   · have n11 := ne_of_beq_false h11
     exact hq _ ⟨_, _, _, hS2, red_none true w2 n1 n2 n3 n4 n5 n6 n7 n8 n11 rfl, nilO, nilO⟩
 · rintro w123 ⟨o, ok, rest, hS, hR, hfd, hfl⟩
   refine ⟨_, hS.op.rd (OpM.c_length _), hS.op.storeOk (by simp [OpM.c_length]) (by simpa using o.plain), by simp [OpM.c_length], nxPut hS.op (us := o.c) (by simp [OpM.c_length]) (by simp) fun w125 hv125 hc125 _ => ⟨_, hv125.rd (OpM.c_length _), ?_⟩⟩
   have hS125 := hS.put hc125 (fun q e => by omega) hv125
   obtain ⟨s', g1, g2⟩ := hS125.rd
   exact ⟨o, ok, rest, s', rfl, g1, hS125.chg, hR.chg hc125 (fun q hq e => by have := hfd q hq; omega) (fun q hq e => by have := hfl q hq; omega), hfd, hfl⟩
end Go.Proofs.YtgljoledlhmhnaaGreatDoor
namespace Go.Proofs.YtgljoledlhmhnaaGreatDoor
open Go Gx
theorem Split1s (l : List UInt8) (c : UInt8) (hl : l.length ≤ 1000000000000) (w : World) : Ret Tryz.prog F.strings_Split #[.string (S l), .string (S [c])] w
   (fun v w' => ∃ s : Sl, v = .slice s.a s.len s.cap ∧ s.len = (splitB c l).length ∧ Src 1 w' s (strs (splitB c l)) ∧ Ext w w' ∧ s.len ≤ s.cap ∧ ∀ q, ownB s q → w.heap.size ≤ q) := by
 refine W.strings_Split_ok (S l) (S [c]) w _ ?_
 (delta W.strings_Split c5; dsimp only)
 refine Calls.mono (W.strings_genSplit_ok (S l) (S [c]) 0 (-1) w (fun v w' => ∃ s : Sl, v = .slice s.a s.len s.cap ∧ s.len = (splitB c l).length ∧ Src 1 w' s (strs (splitB c l)) ∧ Ext w w' ∧ s.len ≤ s.cap ∧ ∀ q, ownB s q → w.heap.size ≤ q) ?_) ?_
 · (delta W.strings_genSplit Nx Br c5 c1 wI mI nA st T20; dsimp only)
   have hcnt : l.count c ≤ l.length := List.count_le_length
   have hlen := splitB_length c l
   refine ⟨fun h => by simp at h, fun _ => ⟨fun h => ?_, fun _ => ?_⟩⟩
   · exact absurd h (by rw [S_toList, show ByteArray.toList (ByteArray.mk #[]) = [] from ByteArray.toList_mk []]; simp)
   refine Jn1 (fun n w1 => n = ((l.count c + 1 : Nat) : Int) ∧ w = w1) (fun q hq => ⟨fun _ => ?_, fun h => by simp at h⟩) ?_
   · refine Calls.mono (W.strings_Count_ok (S l) (S [c]) w (fun v w' => v = .int .i64 ((l.count c : Nat) : Int) ∧ w = w') ?_) ?_
     · (delta W.strings_Count Br c1 wI T20; dsimp only)
       exact ⟨fun h => (by have h : false = true := h; cases h), fun _ => ⟨fun _ => ⟨by decide, c, rfl, _, w, CountString l c w, rfl, rfl⟩, fun h => (by have h : true = false := h; cases h)⟩⟩
     · rintro _ _ ⟨_, rfl, rfl, rfl⟩
       exact ⟨_, rfl, hq _ _ ⟨by rw [wrapi (by omega) (by omega)]; omega, rfl⟩⟩
   rintro _ _ ⟨rfl, rfl⟩
   rw [S_size, wrapi (n := (l.length : Int) + 1) (by omega) (by omega)]
   refine ⟨((l.count c + 1 : Nat) : Int), w, ?_, ?_⟩
   · rw [run_min_int2, if_neg (by omega)]
   obtain ⟨n, hn⟩ : ∃ n, n = l.count c + 1 := ⟨_, rfl⟩
   rw [← hn]
   rw [← hn] at hlen
   have hx1 : Ext w (w.alloc (.cells (zrow Tryz.prog Ty.string n) Ty.string)) := Chg.alloc (.refl _ _) _
   have ho1 : OwnS 1 Ty.string (w.alloc (.cells (zrow Tryz.prog Ty.string n) Ty.string)) ⟨some ⟨w.heap.size, 0, none⟩, n, n⟩ (List.replicate n (.string (S []))) := by
     rw [zrow_string]
     exact OwnS.new w _ n (by simp) (by show n ≤ 2 ^ 63 - 1; omega)
   rw [wrapi (n := (n : Int) - 1) (by omega) (by omega)]
   refine ⟨⟨by omega, by omega, by omega, by omega⟩, ?_⟩
   rw [show Int.toNat (n : Int) = n from rfl]
   refine Jn2 (fun s i w' => ∃ (r : List UInt8) (done : List (List UInt8)), s = S r ∧ i = done.length ∧ splitB c l = done ++ [r] ∧ done.length + 1 = n ∧ Ext w w' ∧ OwnS 1 Ty.string w' ⟨some ⟨w.heap.size, 0, none⟩, n, n⟩ (strs done ++ List.replicate 1 (.string (S [])))) (fun q hq => ?_) ?_
   · refine ⟨fun s i w' => ∃ (r : List UInt8) (done : List (List UInt8)), s = S r ∧ i = done.length ∧ r.length ≤ l.length ∧ splitB c l = done ++ splitB c r ∧ done.length + 1 ≤ n ∧ Ext w w' ∧ OwnS 1 Ty.string w' ⟨some ⟨w.heap.size, 0, none⟩, n, n⟩ (strs done ++ List.replicate (n - done.length) (.string (S []))),
       fun _ i _ => (n - i).toNat, ⟨l, [], rfl, rfl, Nat.le_refl _, rfl, by simp; omega, hx1, by simpa [strs] using ho1⟩, ?_⟩
     rintro _ _ w1 ⟨r, done, rfl, rfl, hrl, hsp, hd, hx, hown⟩
     have hlen2 : done.length + (r.count c + 1) = n := by
       have := congrArg List.length hsp
       rw [List.length_append, splitB_length c r, hlen] at this
       exact this.symm
     refine ⟨fun hlt => ?_, fun hge => ?_⟩
     · have hlt := of_decide_eq_true hlt
       refine (Index1 r c w1).use ?_
       rintro _ _ ⟨rfl, rfl⟩
       refine ⟨_, rfl, ?_⟩
       have hne : c ∈ r := by
         rcases Classical.em (c ∈ r) with h | h
         · exact h
         · have := List.count_eq_zero.2 h; omega
       cases hi : idxB c r with
       | none => exact absurd hne (idxB_none.1 hi)
       | some i =>
         rw [indexByte_idxB, hi]
         have hir := idxB_lt hi
         have e1 : ((ByteArray.size (S [c]) : Nat) : Int) = 1 := rfl
         simp only [e1, Int.add_zero]
         rw [wrapi (n := (i : Int)) (by omega) (by omega), wrapi (n := (i : Int) + 1) (by omega) (by omega), S_size, S_extract, S_extract, show Int.toNat ((i : Int) + 1) = i + 1 by omega, show Int.toNat (i : Int) = i from rfl]
         refine ⟨fun h => (by have := of_decide_eq_true h; omega), fun _ => ⟨⟨by omega, by omega⟩, ?_⟩⟩
         obtain ⟨A, hA, hb, hc, hf, _, hset⟩ := hown.at (i := done.length) (v := .string (S [])) (by
           rw [List.getElem?_append_right (by rw [strs_length]; exact Nat.le_refl _), strs_length]
           rw [Nat.sub_self, show n - done.length = (n - done.length - 1) + 1 by omega]
           rfl)
         obtain rfl : A = ⟨w.heap.size, 0, none⟩ := by simpa using hA.symm
         refine ⟨_, rfl, hb, ⟨_, hc⟩, hf, ⟨by omega, by omega⟩, ⟨r.drop (i + 1), done ++ [r.take i], ?_, ?_, ?_, ?_, ?_, ?_, ?_⟩, ?_⟩
         · rw [List.take_of_length_le (by simp)]
         · rw [wrapi (by omega) (by omega)]; simp
         · simp; omega
         · rw [hsp, splitB_some hi]; simp
         · simp; omega
         · exact hx.set (by rw [add_mk]; exact Nat.le_refl _) _
         · have := hset (.string (S (List.take (i - 0) (List.drop 0 r))))
           rw [Nat.sub_zero, List.drop_zero, List.set_append_right (h := by rw [strs_length]; exact Nat.le_refl _), strs_length, Nat.sub_self, show n - done.length = (n - done.length - 1) + 1 by omega, List.replicate_succ, List.set_cons_zero] at this
           rw [Nat.sub_zero, List.drop_zero, strs_append, List.length_append, List.length_singleton, show n - (done.length + 1) = n - done.length - 1 by omega, List.append_assoc]
           exact this
         · rw [wrapi (by omega) (by omega)]
           show ((n : Int) - ((done.length : Int) + 1)).toNat < ((n : Int) - (done.length : Int)).toNat
           omega
     · have hge := of_decide_eq_false hge
       have h0 : r.count c = 0 := by omega
       have hnone : idxB c r = none := idxB_none.2 (List.count_eq_zero.1 h0)
       rw [splitB_none hnone] at hsp
       refine hq _ _ _ ⟨r, done, rfl, rfl, hsp, by omega, hx, ?_⟩
       rwa [show n - done.length = 1 by omega] at hown
   rintro _ _ w1 ⟨r, done, rfl, rfl, hsp, hd, hx, hown⟩
   obtain ⟨A, hA, hb, hc, hf, _, hset⟩ := hown.at (i := done.length) (v := .string (S [])) (by
     rw [List.getElem?_append_right (by rw [strs_length]; exact Nat.le_refl _), strs_length]
     simp)
   obtain rfl : A = ⟨w.heap.size, 0, none⟩ := by simpa using hA.symm
   rw [wrapi (n := (done.length : Int) + 1) (by omega) (by omega)]
   have hset := hset (.string (S r))
   rw [List.set_append_right (h := by rw [strs_length]; exact Nat.le_refl _), strs_length, Nat.sub_self, List.replicate_one, List.set_cons_zero] at hset
   have hcut : cutA (some ⟨w.heap.size, 0, none⟩) 1 0 n = some ⟨w.heap.size, 0, none⟩ := by
     rw [cut_some (by omega)]
   have e2 : Int.toNat ((done.length : Int) + 1) - 0 = n := by omega
   refine ⟨_, rfl, hb, ⟨_, hc⟩, hf, ⟨by omega, by omega⟩, ⟨some ⟨w.heap.size, 0, none⟩, n, n⟩, by rw [hcut, e2, Nat.sub_zero], hlen.symm, ?_, hx.set (by rw [add_mk]; exact Nat.le_refl _) _, Nat.le_refl _, fun q hq => by rw [ownB_some] at hq; exact Nat.le_of_eq hq⟩
   rw [hsp, strs_append]
   exact hset.src
 · rintro _ w1 ⟨_, rfl, s, rfl, h⟩
   exact ⟨s, rfl, s, rfl, h⟩
end Go.Proofs.YtgljoledlhmhnaaGreatDoor
namespace Go.Proofs.YtgljoledlhmhnaaGreatDoor
open Go Gx
variable {w w' : World}
theorem mkOp0 (w : World) : Sem.run Tryz.prog (Instr.build Ty.api_Op #[]) w = .ok (.agg opZ.c.toArray) w := by kernel_rfl
def Fr (n : Nat) (o : OpM) : Prop := (∀ q, ownB o.data q → n ≤ q) ∧ ∀ q, ownB o.l q → n ≤ q
theorem Fr.z (n : Nat) : Fr n opZ := ⟨fun q hq => (ownB_none q hq).elim, fun q hq => (ownB_none q hq).elim⟩
theorem OpIs.chg {W : Nat → Prop} {o : OpM} {a : Stp} (h : OpIs w o a) (hc : Chg W w w') (h1 : ∀ q, ownB o.data q → ¬ W q) (h2 : ∀ q, ownB o.l q → ¬ W q) : OpIs w' o a :=
 ⟨h.kind, h.data.chg hc h1, h.id, h.bid, h.n, h.on, h.s, h.nb, h.to, h.li.chg hc h2⟩
def PsR (l : List UInt8) (w' : World) (o : OpM) (ok : Bool) : Prop := ∃ y : Stp, OpIs w' o y ∧ y.data.length ≤ 10000 ∧ y.li.length ≤ (splitB 32 l).length ∧ (ok = true → Vd y ∧ Lined y ∧ l ≠ []) ∧ ∀ a, Vd a → Lined a → l = lineOf a → y = a ∧ ok = true
theorem split_ne (c : UInt8) (l : List UInt8) : ∃ x r, splitB c l = x :: r := by
 have := splitB_length c l
 cases h : splitB c l with
 | nil => rw [h] at this; simp at this
 | cons x r => exact ⟨x, r, rfl⟩
theorem script_parsed (l : List UInt8) (hl : l.length ≤ 100000000) (hn : (splitB 32 l).length ≤ 100000) (hf : ∀ x ∈ splitB 32 l, x.length ≤ 10000) (w : World) (ht : ScT w) :
   Ret Tryz.prog F.script_parsed #[.string (S l)] w (fun v w' => ∃ (o : OpM) (ok : Bool), v = .tuple #[.agg o.c.toArray, .bool ok] ∧ Ext w w' ∧ PsR l w' o ok ∧ Fr w.heap.size o) := by
 refine W.script_parsed_ok (S l) w _ ?_
 (delta W.script_parsed z4 c5 Br bd r2 c15 nA wI c19 r8 r1; dsimp only)
 refine nxVar (vs := opZ.c) (by kernel_rfl) fun w1 hz hx1 hs1 => (Split1s l 32 (by omega) w1).use ?_
 rintro _ w2 ⟨s4, rfl, hl4, hs4, hx2, hc4, hf4⟩
 have hX2 := Ext.trans hx1 hx2
 refine ⟨_, rfl, (script_names w2 (ht.ext hX2).sp).use ?_⟩
 rintro _ w5 ⟨s7, rfl, ho7, hx5, -⟩
 have hX5 := Ext.trans hX2 hx5
 have hl7 : s7.len = 14 := by have := ho7.1; rw [strs_length] at this; have h : kwL.length = 14 := rfl; omega
 have hkl : kwL.length = 14 := rfl
 have hz5 := (hz.ext hx2).ext hx5
 obtain ⟨hd0, tl, hsp⟩ := split_ne 32 l
 rw [hsp] at hs4 hl4 hn hf
 have hs5 := hs4.ext hx5
 refine ⟨_, rfl, fun n w' => ∃ i : Nat, n = i ∧ i ≤ 14 ∧ w5 = w' ∧ ∀ (j : Nat) (h : j < i), kwL.getD j [] ≠ hd0, fun n _ => (14 - n).toNat, ⟨0, rfl, by omega, rfl, fun j hj => by omega⟩, ?_⟩
 rintro _ _ ⟨i, rfl, hi, rfl, hall⟩
 have ew : IntKind.wrap .i64 ((i : Int) + 1) = ((i + 1 : Nat) : Int) := by rw [wrapi (by omega) (by omega)]; rfl
 refine ⟨fun hlt => ?_, fun hge => ?_⟩
 · have hlt : i < 14 := by have := of_decide_eq_true hlt; omega
   obtain ⟨A, hA, hb, hcell⟩ := ho7.src.at (i := i) (v := .string (S (kwL.getD i []))) (by
     unfold strs
     rw [List.getElem?_map, List.getElem?_eq_getElem (by omega), getD_at (by omega)]; rfl)
   obtain ⟨B, hB, hb2, hcell2⟩ := hs5.at (i := 0) (v := .string (S hd0)) rfl
   refine ⟨A, hA, hb, _, hcell, B, hB, hb2, _, hcell2, fun heq => ?_, fun hne => ?_⟩
   · rw [S_beq] at heq
     have heq : hd0 = kwL.getD i [] := eq_of_beq heq
     have htl : (strs (hd0 :: tl)).length = tl.length + 1 := by rw [strs_length]; rfl
     have hl4' : s4.len = tl.length + 1 := hl4
     refine ⟨⟨by omega, by omega⟩, ?_⟩
     refine nxVar (vs := [.slice (cutA s4.a 1 (Int.toNat 1) s4.cap) (s4.len - Int.toNat 1) (s4.cap - Int.toNat 1), .bool true]) rfl fun w16 hv16 hx16 hs16 => ?_
     have hlt4 : ∀ q, ownB s4 q → q < w5.heap.size := fun q hq => by
       obtain ⟨A', hA', e⟩ := hq
       obtain rfl : B = A' := by rw [hB] at hA'; exact Option.some.inj hA'
       rw [← e]
       have hh := hcell2
       simp only [Nat.zero_mul, World.cell?] at hh
       cases hg : w5.heap[(Addr.add B 0).block]? with
       | none => simp [hg] at hh
       | some o => rw [addBlkS] at hg; exact (Array.getElem?_eq_some_iff.1 hg).1
     have hRd : RdAt w16 w5.heap.size ⟨cutA s4.a 1 1 s4.cap, s4.len - 1, s4.cap - 1⟩ true tl := by
       refine ⟨hv16, ?_, by show s4.len - 1 ≤ s4.cap - 1; omega, fun hq => by have := hlt4 _ (cut_own hq); omega, fun q hq => Nat.lt_of_lt_of_le (hlt4 q (cut_own hq)) hx16.size, fun x hx => hf x (by simp [hx])⟩
       have c1 := Src.sub (hs5.ext hx16) hc4 (lo := 1) (hi := s4.len) (by omega) (Nat.le_refl _)
       rw [List.take_of_length_le (by rw [List.length_drop, htl]; omega)] at c1
       exact c1
     rw [ew]
     refine (reader_step (wb := w5) ((i + 1 : Nat) : Int) hRd (by simp at hn; omega) (ht.ext hX5) hx16 (Nat.le_refl _)).use ?_
     rintro _ w17 ⟨o, ok, rest, s', rfl, hRd', hc17, hRed, hfd, hfl⟩
     have hX17 : Ext w5 w17 := Ext.of_new hx16 hc17 (fun q e => by subst e; exact Nat.le_refl _)
     have hz17 := hz5.ext hX17
     refine ⟨_, rfl, nxVar (vs := opZ.c) (by kernel_rfl) fun w20 hz20 hx20 hs20 => ⟨hz20.storeOk (by simp [OpM.c_length]) (by simpa using o.plain), by simp [OpM.c_length], nxPut hz20 (us := o.c) (by simp [OpM.c_length]) (by simp) fun w21 hv21 hc21 _ => nx ?_⟩⟩
     have hx21 : Ext w17 w21 := Ext.of_chg hx20 hc21 (Nat.le_refl _)
     have hx22 : Ext w17 w21.drew := Chg.drew hx21
     have hw17 : w.heap.size < w17.heap.size := hz17.lt
     have hw5 : w.heap.size < w5.heap.size := hz5.lt
     have hRd22 := hRd'.ext hx22
     have hz22 := hz17.ext hx22
     have fin : ∀ (b : Bool), b = (ok && decide (rest = [])) → StoreOk w21.drew ⟨w.heap.size, 0, none⟩ (Array.toList o.c.toArray) ∧ Array.size o.c.toArray = 51 ∧ Nx (setCells w21.drew ⟨w.heap.size, 0, none⟩ 0 (Array.toList o.c.toArray)) fun w29 => Chg (fun q => q = w.heap.size) w21.drew w29 ∧ ∃ l30 : List Value, rdCells w29 ⟨w.heap.size, 0, none⟩ 0 51 = some l30 ∧
         (fun (v : Value) (w' : World) => ∃ (o : OpM) (ok : Bool), v = .tuple #[.agg o.c.toArray, .bool ok] ∧ Ext w w' ∧ PsR l w' o ok ∧ Fr w.heap.size o) (Value.tuple #[.agg l30.toArray, .bool b]) w29 := by
       intro b hbe
       refine ⟨hz22.storeOk (by simp [OpM.c_length]) (by simpa using o.plain), by simp [OpM.c_length], nxPut hz22 (us := o.c) (by simp [OpM.c_length]) (by simp) fun w29 hv29 hc29 _ => ⟨hc29, _, hv29.rd (OpM.c_length _), o, b, rfl, Ext.of_chg (Ext.trans hX5 (Ext.trans hX17 hx22)) hc29 (Nat.le_refl _), ?_⟩⟩
       have hR := (hRed.ext hx22).chg (W := fun q => q = w.heap.size) hc29 (fun q hq e => by have := hfd q hq; have := hx16.size; omega) (fun q hq e => by have := hfl q hq; have := hx16.size; omega)
       obtain ⟨y, h1, h2, h3, h4, h5, h6, h7⟩ := hR
       refine ⟨⟨y, h1, h4, by rw [hsp]; simp; omega, fun hb => ?_, fun a hva hla he => ?_⟩, ⟨fun q hq => by have := hfd q hq; have := hx16.size; omega, fun q hq => by have := hfl q hq; have := hx16.size; omega⟩⟩
       · rw [hbe, Bool.and_eq_true] at hb
         obtain ⟨g1, g2, g3⟩ := h6 hb.1
         refine ⟨g1, ⟨by omega, by omega, h3, g2, g3⟩, fun e => ?_⟩
         rw [e] at hsp
         have e0 : hd0 = [] := ((List.cons.inj (show [[]] = hd0 :: tl from hsp)).1).symm
         exact (kw_no32 _ (List.getElem_mem (show i < kwL.length by omega))).2.2.2 (by rw [← getD_at (d := []) (show i < kwL.length by omega), ← heq, e0])
       · have hw := split_line a
         rw [← he, hsp] at hw
         obtain ⟨e1, e2⟩ := List.cons.inj hw
         have hk : a.kind = ((i + 1 : Nat) : Int) := by
           have e3 : kwL.getD i [] = kwL.getD (a.kind.toNat - 1) [] := by rw [← heq, e1]; rfl
           have h0 := hla.lo; have h14 := hla.hi
           have := kw_inj i hlt (a.kind.toNat - 1) (by omega) e3
           omega
         obtain ⟨g1, g2, g3⟩ := h7 a hva hla hk e2
         exact ⟨g1, by rw [hbe, g2, g3]; rfl⟩
     refine ⟨fun q => q = w.heap.size, fun e => by have e' : w17.heap.size = w.heap.size := e; omega, _, Var.rd hv21.drew (OpM.c_length _), _, rfl, fun e => by rw [addBlkS] at e; have e' : w5.heap.size = w.heap.size := e; omega, ok, hRd22.ok1, fun hok => ⟨_, rfl, fun e => by have e' : w5.heap.size = w.heap.size := e; omega, s', hRd22.v.cell, ?_⟩, fun hok => ?_⟩
     · have hrl := hRd'.len
       obtain ⟨f1, f2, f3⟩ := fin (((s'.len : Nat) : Int) == 0) (by
         rw [hok, Bool.true_and, hrl, Bool.eq_iff_iff, decide_eq_true_eq, beq_iff_eq]
         constructor
         · intro h; exact List.length_eq_zero_iff.1 (by omega)
         · intro h; rw [h]; rfl)
       exact ⟨f1, f2, f3⟩
     · obtain ⟨f1, f2, f3⟩ := fin false (by rw [hok]; rfl)
       exact ⟨f1, f2, f3⟩
   · rw [S_beq] at hne
     have hne : hd0 ≠ kwL.getD i [] := ne_of_beq_false hne
     have hms : ((14 : Int) - ((i + 1 : Nat) : Int)).toNat < ((14 : Int) - (i : Int)).toNat := by omega
     rw [ew]
     refine ⟨⟨i + 1, rfl, hlt, rfl, fun j hj => ?_⟩, hms⟩
     rcases Nat.lt_or_ge j i with h | h
     · exact hall j h
     · obtain rfl : j = i := by omega
       exact fun e => hne e.symm
 · have hi : i = 14 := by have := of_decide_eq_false hge; omega
   refine ⟨_, mkOp0 _, hz5.storeOk (by simp [OpM.c_length]) (by simpa using opZ.plain), by simp [OpM.c_length], nxPut hz5 (us := opZ.c) (by simp [OpM.c_length]) (by simp) fun w34 hv34 hc34 _ => ⟨_, hv34.rd (OpM.c_length _), opZ, false, rfl, Ext.of_chg hX5 hc34 (Nat.le_refl _), ⟨stp0 0, opIs_z 0 w34, by simp [stp0], by simp [stp0], fun h => (by cases h), fun a hva hla he => ?_⟩, Fr.z _⟩⟩
   exfalso
   have hw := split_line a
   rw [← he, hsp] at hw
   obtain ⟨e1, e2⟩ := List.cons.inj hw
   have h0 := hla.lo; have h14 := hla.hi
   exact hall (a.kind.toNat - 1) (by omega) (by rw [e1]; rfl)
theorem numI_len' {n : Int} (h : I64 n) : (numI n).length ≤ 10000 := Nat.le_trans (numI_len n h) (by omega)
theorem num10_len {n : Nat} (h : n ≤ 18446744073709551615) : (numB 10 n).length ≤ 10000 := Nat.le_trans (numB_len 10 19 (by omega) n (by omega)) (by omega)
theorem words_few {a : Stp} (hv : Vd a) (h1 : 1 ≤ a.kind) (h14 : a.kind ≤ 14) (hd : a.data.length ≤ 4200) : ∀ x ∈ wordsOf a, x.length ≤ 10000 := by
 intro x hx
 rcases List.mem_cons.1 hx with rfl | hx
 · have := (kw_no32 _ (kw_mem h1 h14)).2.2.1; omega
 have sA : ∀ b : Ad, (showA b).length ≤ 10000 := fun b => Nat.le_trans (showA_len b) (by omega)
 have hid := numI_len' hv.id; have hbid := numI_len' hv.bid
 have hvn := hv.n; have hsl := hv.slasts; have hsp := hv.sport; have hst := hv.sproto; have htp := hv.tport
 unfold argsOf at hx
 split at hx
 · rw [List.mem_singleton.1 hx]
   unfold hexB
   split
   · simp
   · rw [hexB_len]; omega
 split at hx
 · rw [List.mem_singleton.1 hx]; exact num10_len (by omega)
 split at hx
 · simp only [List.mem_cons, List.not_mem_nil, or_false] at hx
   rcases hx with rfl | rfl | rfl | rfl | rfl | rfl
   · exact numI_len' hv.sid
   · exact sA _
   · exact num10_len (by omega)
   · exact num10_len (by omega)
   · exact numI_len' hv.sbits
   · exact num10_len (by omega)
 split at hx
 · rw [List.mem_singleton.1 hx]; exact hid
 split at hx
 · simp only [List.mem_cons, List.not_mem_nil, or_false] at hx
   rcases hx with rfl | rfl | rfl | rfl | rfl
   · exact hid
   · exact numI_len' hv.tid
   · exact sA _
   · exact num10_len (by omega)
   · exact numI_len' hv.tweight
 split at hx
 · simp only [List.mem_cons, List.not_mem_nil, or_false] at hx
   rcases hx with rfl | rfl
   · exact hid
   · exact hbid
 split at hx
 · simp only [List.mem_cons, List.not_mem_nil, or_false] at hx
   rcases hx with rfl | rfl | rfl
   · exact hid
   · exact hbid
   · cases a.on <;> decide
 split at hx
 · simp only [List.mem_cons, List.not_mem_nil, or_false] at hx
   rcases hx with rfl | rfl | rfl
   · exact hid
   · exact hbid
   · exact num10_len (by omega)
 split at hx
 · obtain ⟨n, hn, rfl⟩ := List.mem_map.1 hx
   exact numI_len' (hv.li n hn)
 · cases hx
theorem args_count (a : Stp) : (argsOf a).length ≤ a.li.length + 6 := by
 unfold argsOf
 repeat' split
 all_goals simp
theorem sumLen_leW {k : Nat} : ∀ {ls : List (List UInt8)}, (∀ x ∈ ls, x.length ≤ k) → sumLen ls ≤ ls.length * k
 | [], _ => by simp [sumLen]
 | x :: r, h => by
   have h1 := h x (by simp)
   have h2 := sumLen_leW (k := k) (ls := r) (fun y hy => h y (by simp [hy]))
   simp only [sumLen, List.length_cons, Nat.succ_mul]
   omega
theorem script_show {o : OpM} {a : Stp} (ha : OpIs w o a) (hv : Vd a) (hd : a.data.length ≤ 10000000) (hli : a.li.length ≤ 10000000) (ht : ScT w) :
   Ret Tryz.prog F.script_show #[.agg o.c.toArray] w (fun v w' => v = .string (S (showO a)) ∧ Ext w w') := by
 refine W.script_show_ok _ w _ ?_
 (delta W.script_show r3 nA Br r1 c5 c4 c14 z4 c9; dsimp only)
 refine nxVar (vs := o.c) rfl fun w1 ho hx1 hs1 => ⟨_, (ocell ho).1, ?_⟩
 have hdl : o.data.len = a.data.length := by have := ha.data.len; rw [u8s_length] at this; omega
 have hll := ha.llen
 have c0 : ∀ w', w1 = w' → Ext w w' := fun w' e => by subst e; exact hx1
 refine Jn1 (fun b w' => b = decide (a.kind < 1 ∨ a.kind > 14) ∧ w1 = w') (fun q hq => ⟨fun h => hq _ _ ⟨?_, rfl⟩, fun h => ⟨_, (ocell ho).1, hq _ _ ⟨?_, rfl⟩⟩⟩) ?_
 · have := of_decide_eq_true h; rw [ha.kind] at this; rw [decide_eq_true (.inl this)]
 · have := of_decide_eq_false h; rw [ha.kind] at this ⊢; rw [Bool.eq_iff_iff, decide_eq_true_eq, decide_eq_true_eq]; omega
 rintro _ _ ⟨rfl, rfl⟩
 refine Jn1 (fun b w' => b = (decide (a.kind < 1 ∨ a.kind > 14) || decide (a.data.length > 4200)) ∧ w1 = w') (fun q hq => ⟨fun h => hq _ _ ⟨by rw [h]; rfl, rfl⟩, fun h => ⟨o.data, (ocell2 ho).1, hq _ _ ⟨?_, rfl⟩⟩⟩) ?_
 · rw [h, Bool.false_or, hdl, Bool.eq_iff_iff, decide_eq_true_eq, decide_eq_true_eq]; omega
 rintro _ _ ⟨rfl, rfl⟩
 refine Jn1 (fun b w' => b = (decide (a.kind < 1 ∨ a.kind > 14) || decide (a.data.length > 4200) || decide (a.li.length > 4200)) ∧ w1 = w') (fun q hq => ⟨fun h => hq _ _ ⟨by rw [h]; rfl, rfl⟩, fun h => ⟨o.l, (ocell2 ho).2.2, hq _ _ ⟨?_, rfl⟩⟩⟩) ?_
 · rw [h, Bool.false_or, hll, Bool.eq_iff_iff, decide_eq_true_eq, decide_eq_true_eq]; omega
 rintro _ _ ⟨rfl, rfl⟩
 refine ⟨fun h => ⟨?_, hx1⟩, fun h => ?_⟩
 · have : showO a = [] := by
     unfold showO
     rw [if_neg]
     rintro ⟨g1, g2⟩
     have h1 := line_data g1 g2; have h2 := line_li g1 g2; have h3 := g1.lo; have h4 := g1.hi
     simp only [Bool.or_eq_true, decide_eq_true_eq] at h
     omega
   rw [this]; rfl
 simp only [Bool.or_eq_false_iff, decide_eq_false_iff_not] at h
 have h1 : 1 ≤ a.kind := by omega
 have h14 : a.kind ≤ 14 := by omega
 have ha1 := ha.ext hx1
 refine ⟨_, ho.rd (OpM.c_length _), (script_written ha1 hv h1 h14 hd (by omega) (ht.ext hx1)).use ?_⟩
 rintro _ w16 ⟨s18, rfl, hs18, hc18, hx16⟩
 have hwf := words_few hv h1 h14 (by omega)
 have hcnt : (wordsOf a).length ≤ 4207 := by unfold wordsOf; have := args_count a; simp; omega
 have hsum := sumLen_leW hwf
 have hsum2 : (wordsOf a).length * 10000 ≤ 4207 * 10000 := Nat.mul_le_mul_right _ hcnt
 refine ⟨_, rfl, (Join1 (wordsOf a) 32 hs18 hc18 (by omega) (by omega)).use ?_⟩
 rintro _ w19 ⟨rfl, hx19⟩
 have hX19 := Ext.trans hx1 (Ext.trans hx16 hx19)
 have hjl : (joinB 32 (wordsOf a)).length ≤ (wordsOf a).length + sumLen (wordsOf a) := joinB_length 32 _
 have hsl := split_line a
 refine ⟨_, rfl, (script_parsed (lineOf a) (by show (joinB 32 (wordsOf a)).length ≤ _; omega) (by rw [hsl]; omega) (by rw [hsl]; exact hwf) w19 (ht.ext hX19)).use ?_⟩
 rintro _ w22 ⟨p, ok, rfl, hx22, ⟨y, hy, hyd, hyl, hyv, hye⟩, hfr⟩
 have ho22 := ((ho.ext hx16).ext hx19).ext hx22
 refine ⟨_, _, rfl, nxVar (vs := opZ.c) (by kernel_rfl) fun w26 hz26 hx26 hs26 => ⟨hz26.storeOk (by simp [OpM.c_length]) (by simpa using p.plain), by simp [OpM.c_length], nxPut hz26 (us := p.c) (by simp [OpM.c_length]) (by simp) fun w27 hv27 hc27 _ => ?_⟩⟩
 have hx27 : Ext w22 w27 := Ext.of_chg hx26 hc27 (Nat.le_refl _)
 have hX27 := Ext.trans (Ext.trans hX19 hx22) hx27
 have ho27 := ho22.ext hx27
 refine Jn1 (fun b w' => b = (!ok || !decide (y = a)) ∧ Ext w w') (fun q hq => ⟨fun h => hq _ _ ⟨by rw [h]; rfl, hX27⟩, fun h => ⟨_, hv27.rd (OpM.c_length _), _, ho27.rd (OpM.c_length _), (script_same (hy.ext hx27) (ha.ext hX27) (by rw [hsl] at hyl; omega)).use ?_⟩⟩) ?_
 · rintro _ w31 ⟨rfl, hx31⟩
   exact ⟨_, rfl, hq _ _ ⟨by rw [h]; rfl, Ext.trans hX27 hx31⟩⟩
 rintro _ w35 ⟨rfl, hX35⟩
 rw [S_size]
 refine ⟨fun h => ⟨?_, hX35⟩, fun h => ⟨?_, hX35⟩⟩
 · have : showO a = [] := by
     unfold showO
     rw [if_neg]
     rintro ⟨g1, g2⟩
     obtain ⟨e1, e2⟩ := hye a hv g1 rfl
     rw [e1, e2] at h
     have hlen : (lineOf a).length = (joinB 32 (wordsOf a)).length := rfl
     simp at h
     omega
   rw [this]; rfl
 · simp only [Bool.or_eq_false_iff, Bool.not_eq_false', decide_eq_true_eq, decide_eq_false_iff_not] at h
   obtain ⟨⟨h2, h3⟩, h4⟩ := h
   have hL := (hyv h2).2.1
   rw [h3] at hL
   rw [showO_of hL (by show (joinB 32 (wordsOf a)).length ≤ _; omega)]
   rfl
end Go.Proofs.YtgljoledlhmhnaaGreatDoor
namespace Go.Proofs.YtgljoledlhmhnaaGreatDoor
open Go Gx
variable {w w' : World}
theorem vset {b : Nat} {o o' : OpM} (hv : Var w b o.c Ty.api_Op) (i : Nat) (v : Value) {A : Addr} (hA : A = ⟨b, i, none⟩) (hi : i < 51) (ho : o.c.set i v = o'.c) {K : World → Prop} (hK : ∀ w', Var w' b o'.c Ty.api_Op → Chg (fun q => q = b) w w' → K w') :
   (∃ u : Value, w.cell? A = some u) ∧ w.frozen? A = false ∧ Nx (w.setCell A v) K := by
 subst hA
 refine ⟨⟨o.c[i]'(by rw [OpM.c_length]; exact hi), by rw [hv.cell, List.getElem?_eq_getElem]⟩, Blk.frozen hv _ rfl, nxSet hv fun w' hv' hc _ => hK w' (by rw [← ho]; exact hv') hc⟩
theorem mkOpK (k : Int) (w : World) : Sem.run Tryz.prog (Instr.build Ty.api_Op #[(0, .int .i64 k)]) w = .ok (.agg (opK k).c.toArray) w := by kernel_rfl
theorem op_d (o : OpM) : o.c.set 49 (.bool false) = ({ o with to := { o.to with drained := false } } : OpM).c := by
 have e1 : ∀ o : OpM, o.c = (hd6 o ++ o.s.c o.k ++ (Value.int .i64 o.to.id :: o.to.addr.c) ++ [Value.int .u16 o.to.port, Value.int .i64 o.to.weight]) ++ ([Value.bool o.to.drained, Value.slice o.l.a o.l.len o.l.cap]) := fun o => by rw [op_c]; unfold Bk.c; simp
 have hl : (hd6 o ++ o.s.c o.k ++ (Value.int .i64 o.to.id :: o.to.addr.c) ++ [Value.int .u16 o.to.port, Value.int .i64 o.to.weight]).length = 49 := by simp [Sv.c_length, Ad.c_length, hd6]
 rw [e1 o, e1, List.set_append_right (h := by rw [hl]; exact Nat.le_refl _), hl]
 rfl
theorem nils (w : World) : Src 1 w nilS (u8s []) ∧ Src 1 w nilS (([] : List Int).map encI) := ⟨(OwnS.none 1 Ty.uint8 w).src, (OwnS.none 1 Ty.int w).src⟩
theorem ref29_Bare {o : OpM} {a : Stp} (ha : OpIs w o a) : Ret Tryz.prog F.ref29_Bare #[.agg o.c.toArray] w (fun v w' => ∃ p : OpM, v = .agg p.c.toArray ∧ OpIs w' p (bare a) ∧ Ext w w') := by
 refine W.ref29_Bare_ok _ w _ ?_
 (delta W.ref29_Bare z4 r3 nA c4 Br r1 st r5 al z1 r7 r4 c22 r8 T25; dsimp only)
 refine nxVar (vs := o.c) rfl fun w1 ho hx1 hs1 => nxVar (vs := opZ.c) (by kernel_rfl) fun w2 hz hx2 hs2 => ⟨_, (ocell (ho.ext hx2)).1, _, mkOpK _ _, nxVar (vs := opZ.c) (by kernel_rfl) fun w5 hy hx5 hs5 => ⟨hy.storeOk (by simp [OpM.c_length]) (by simpa using (opK o.kind).plain), by simp [OpM.c_length], nxPut hy (us := (opK o.kind).c) (by simp [OpM.c_length]) (by simp) fun w6 hv6 hc6 _ => ?_⟩⟩
 have hX2 := Ext.trans hx1 hx2
 have hx6 : Ext w2 w6 := Ext.of_chg hx5 hc6 (Nat.le_refl _)
 have hX6 := Ext.trans hX2 hx6
 have ho6 := (ho.ext hx2).ext hx6
 have hz6 := hz.ext hx6
 obtain ⟨bx, hbx⟩ : ∃ bx, bx = w2.heap.size := ⟨_, rfl⟩
 have hw1 : w1.heap.size < bx := by have := hz.lt; omega
 have hw0 : w.heap.size < bx := by have := ho.lt; omega
 rw [← hbx] at hv6 ⊢
 have ek := ha.kind
 obtain ⟨n1, n2⟩ := nils w
 have bk := bareK a rfl
 refine Jn0 (fun w' => ∃ p : OpM, Var w' bx p.c Ty.api_Op ∧ OpIs w p (bare a) ∧ Chg (fun q => q = bx) w6 w') (fun q hq => ⟨_, (ocell ho6).1, ?_⟩) ?_
 · refine ⟨fun h => ?_, fun h1 => ⟨fun h => ?_, fun h2 => ⟨fun h => ?_, fun h3 => ⟨fun h => ?_, fun h4 => ⟨fun h => ?_, fun h5 => ?_⟩⟩⟩⟩⟩
   · have hk : a.kind = 1 := by have := eq_of_beq h; omega
     refine ⟨o.data, (ocell2 ho6).1, vset (o' := { opK o.kind with data := o.data }) hv6 1 _ (addF _ _) (by omega) rfl fun w10 hv hc => hq _ ⟨_, hv, ?_, hc⟩⟩
     rw [bk.1 hk]; exact ⟨ek, ha.data, rfl, rfl, rfl, rfl, rfl, rfl, rfl, n2⟩
   · have hk : a.kind = 2 := by have := eq_of_beq h; omega
     refine ⟨_, (ocell ho6).2.2.2.1, vset (o' := { opK o.kind with n := o.n }) hv6 4 _ (addF _ _) (by omega) rfl fun w10 hv hc => hq _ ⟨_, hv, ?_, hc⟩⟩
     rw [bk.2.1 hk]; exact ⟨ek, n1, rfl, rfl, ha.n, rfl, rfl, rfl, rfl, n2⟩
   · have hk : a.kind = 3 := by have := eq_of_beq h; omega
     refine ⟨_, ords ho6, nxVar (vs := Sv.zero.c nilS) (by kernel_rfl) fun w27 hz27 hx27 hs27 => ⟨hz27.storeOk (us := (o.s.c o.k).toArray.toList) (by simp [Sv.c_length]) (by simpa using Sv.plain _ _), by simp [Sv.c_length],
       nxPut hz27 (us := o.s.c o.k) (by simp [Sv.c_length]) (by simp) fun w15 hs15 hc15 hz15 => ?_⟩⟩
     have hx15 : Ext w6 w15 := Ext.of_chg hx27 hc15 (Nat.le_refl _)
     have hv15 := hv6.ext hx15
     refine ⟨_, (scell hs15).1, _, srd hs15, _, (scell hs15).2.2.1, _, (scell hs15).2.2.2.1, _, (scell hs15).2.2.2.2.1, _, (scell hs15).2.2.2.2.2.1, _, mkSv _ _ _ _ _ _ w15, ?_, by simp [Sv.c_length], ?_⟩
     · rw [addF]
       exact Blk.storeOk hv15 6 _ (by simp [Sv.c_length, OpM.c_length]) (by simpa using Sv.plain _ _)
     rw [addF]
     refine nxPutAt hv15 (us := (Sv.mk o.s.id o.s.addr o.s.port o.s.proto o.s.bits o.s.lasts).c nilS) (by simp) (by simp [Sv.c_length, OpM.c_length]) fun w39 hv39 hc39 _ => hq _ ⟨_, by rw [op_s] at hv39; exact hv39, ?_, (Chg.of_ext hx15).trans hc39⟩
     rw [bk.2.2.1 hk]; exact ⟨ek, n1, rfl, rfl, rfl, rfl, ha.s, rfl, rfl, n2⟩
   · have hk : a.kind = 4 := by have := eq_of_beq h; omega
     refine ⟨_, (ocell ho6).2.1, vset (o' := { opK o.kind with id := o.id }) hv6 2 _ (addF _ _) (by omega) rfl fun w10 hv hc => hq _ ⟨_, hv, ?_, hc⟩⟩
     rw [bk.2.2.2.1 hk]; exact ⟨ek, n1, ha.id, rfl, rfl, rfl, rfl, rfl, rfl, n2⟩
   · have hk : a.kind = 5 := by have := eq_of_beq h; omega
     have hv26 := hv6.drew
     have ho26 := ho6.drew
     refine nx ⟨fun q => q = bx, fun e => by rw [addBlkS] at e; have e' : w.heap.size = bx := e; omega, _, (ocell ho26).2.1, fun e => by rw [addBlkS] at e; have e' : w.heap.size = bx := e; omega, _, ordt ho26, vset (o' := { opK o.kind with id := o.id }) hv26 2 _ (addF _ _) (by omega) rfl fun w30 hv30 hc30 => ⟨hc30, ?_, by simp [Bk.c_length], ?_⟩⟩
     · rw [addF]
       exact Blk.storeOk hv30 29 _ (by simp [Bk.c_length, OpM.c_length]) (by simpa using Bk.plain _)
     rw [addF]
     refine nxPutAt hv30 (us := o.to.c) (by simp) (by simp [Bk.c_length, OpM.c_length]) fun w31 hv31 hc31 _ => ?_
     rw [op_t] at hv31
     refine vset (o' := { opK o.kind with id := o.id, to := { o.to with drained := false } }) hv31 49 _ (by rw [add_mk]) (by omega) (op_d _) fun w32 hv32 hc32 => hq _ ⟨_, hv32, ?_, (((Chg.drew (.refl _ _)).trans hc30).trans hc31).trans hc32⟩
     rw [bk.2.2.2.2.1 hk]; exact ⟨ek, n1, ha.id, rfl, rfl, rfl, rfl, rfl, by rw [ha.to], n2⟩
   have hd : Chg (fun q => q = bx) w6 w6.drew := Chg.drew (.refl _ _)
   have hv26 := hv6.drew
   have ho26 := ho6.drew
   have nb : ∀ i, ¬ (fun q => q = bx) (Addr.add ⟨w.heap.size, 0, none⟩ i).block := fun i e => by rw [addBlkS] at e; have e' : w.heap.size = bx := e; omega
   refine Jn1 (fun b w' => b = decide (a.kind = 6 ∨ a.kind = 12) ∧ w6 = w') (fun q2 hq2 => ⟨fun h => hq2 _ _ ⟨?_, rfl⟩, fun h => hq2 _ _ ⟨?_, rfl⟩⟩) ?_
   · rw [h]; have := eq_of_beq h; rw [ek] at this; simp [this]
   · have := ne_of_beq_false h; rw [ek] at this; rw [Bool.eq_iff_iff, ek]; simp [this]
   rintro _ _ ⟨rfl, rfl⟩
   refine ⟨fun h => ?_, fun h6 => ?_⟩
   · have hk := of_decide_eq_true h
     refine nx ⟨fun q => q = bx, nb _, _, (ocell ho26).2.1, nb _, _, (ocell ho26).2.2.1, vset (o' := { opK o.kind with id := o.id }) hv26 2 _ (addF _ _) (by omega) rfl fun w40 hv40 hc40 => ⟨hc40, vset (o' := { opK o.kind with id := o.id, bid := o.bid }) hv40 3 _ (addF _ _) (by omega) rfl fun w41 hv41 hc41 => hq _ ⟨_, hv41, ?_, (hd.trans hc40).trans hc41⟩⟩⟩
     rw [bk.2.2.2.2.2.1 hk]; exact ⟨ek, n1, ha.id, ha.bid, rfl, rfl, rfl, rfl, rfl, n2⟩
   refine Jn1 (fun b w' => b = decide (a.kind = 7 ∨ a.kind = 9) ∧ w6 = w') (fun q2 hq2 => ⟨fun h => hq2 _ _ ⟨?_, rfl⟩, fun h => hq2 _ _ ⟨?_, rfl⟩⟩) ?_
   · rw [h]; have := eq_of_beq h; rw [ek] at this; simp [this]
   · have := ne_of_beq_false h; rw [ek] at this; rw [Bool.eq_iff_iff, ek]; simp [this]
   rintro _ _ ⟨rfl, rfl⟩
   refine ⟨fun h => ?_, fun h7 => ?_⟩
   · have hk := of_decide_eq_true h
     refine nx ⟨fun q => q = bx, nb _, _, (ocell ho26).2.1, nb _, _, (ocell ho26).2.2.1, nb _, _, (ocell2 ho26).2.1, vset (o' := { opK o.kind with id := o.id }) hv26 2 _ (addF _ _) (by omega) rfl fun w40 hv40 hc40 => ⟨hc40, vset (o' := { opK o.kind with id := o.id, bid := o.bid }) hv40 3 _ (addF _ _) (by omega) rfl fun w41 hv41 hc41 => ⟨hc41, vset (o' := { opK o.kind with id := o.id, bid := o.bid, on := o.on }) hv41 5 _ (addF _ _) (by omega) rfl fun w42 hv42 hc42 => hq _ ⟨_, hv42, ?_, ((hd.trans hc40).trans hc41).trans hc42⟩⟩⟩⟩
     rw [bk.2.2.2.2.2.2.1 hk]; exact ⟨ek, n1, ha.id, ha.bid, rfl, ha.on, rfl, rfl, rfl, n2⟩
   refine Jn1 (fun b w' => b = decide (a.kind = 8 ∨ a.kind = 13) ∧ w6 = w') (fun q2 hq2 => ⟨fun h => hq2 _ _ ⟨?_, rfl⟩, fun h => hq2 _ _ ⟨?_, rfl⟩⟩) ?_
   · rw [h]; have := eq_of_beq h; rw [ek] at this; simp [this]
   · have := ne_of_beq_false h; rw [ek] at this; rw [Bool.eq_iff_iff, ek]; simp [this]
   rintro _ _ ⟨rfl, rfl⟩
   refine ⟨fun h => ?_, fun h8 => ?_⟩
   · have hk := of_decide_eq_true h
     refine nx ⟨fun q => q = bx, nb _, _, (ocell ho26).2.1, nb _, _, (ocell ho26).2.2.1, nb _, _, (ocell ho26).2.2.2.1, vset (o' := { opK o.kind with id := o.id }) hv26 2 _ (addF _ _) (by omega) rfl fun w40 hv40 hc40 => ⟨hc40, vset (o' := { opK o.kind with id := o.id, bid := o.bid }) hv40 3 _ (addF _ _) (by omega) rfl fun w41 hv41 hc41 => ⟨hc41, vset (o' := { opK o.kind with id := o.id, bid := o.bid, n := o.n }) hv41 4 _ (addF _ _) (by omega) rfl fun w42 hv42 hc42 => hq _ ⟨_, hv42, ?_, ((hd.trans hc40).trans hc41).trans hc42⟩⟩⟩⟩
     rw [bk.2.2.2.2.2.2.2.1 hk]; exact ⟨ek, n1, ha.id, ha.bid, ha.n, rfl, rfl, rfl, rfl, n2⟩
   refine ⟨fun h => ?_, fun h11 => ?_⟩
   · have hk : a.kind = 11 := by have := eq_of_beq h; omega
     refine ⟨o.l, (ocell2 ho6).2.2, vset (o' := { opK o.kind with l := o.l }) hv6 50 _ (addF _ _) (by omega) (op_l _ _) fun w10 hv hc => hq _ ⟨_, hv, ?_, hc⟩⟩
     rw [bk.2.2.2.2.2.2.2.2 hk]; exact ⟨ek, n1, rfl, rfl, rfl, rfl, rfl, rfl, rfl, ha.li⟩
   · have e1 := ne_of_beq_false h1; have e2 := ne_of_beq_false h2; have e3 := ne_of_beq_false h3; have e4 := ne_of_beq_false h4; have e5 := ne_of_beq_false h5; have e11 := ne_of_beq_false h11
     have e6 := of_decide_eq_false h6; have e7 := of_decide_eq_false h7; have e8 := of_decide_eq_false h8
     rw [ek] at e1 e2 e3 e4 e5 e11
     refine ⟨_, (ocell ho6).1, vset (o' := opK o.kind) hv6 0 _ rfl (by omega) rfl fun w10 hv hc => hq _ ⟨_, hv, ?_, hc⟩⟩
     have : bare a = stp0 a.kind := by
       unfold bare
       rw [if_neg e1, if_neg e2, if_neg e3, if_neg e4, if_neg e5, if_neg e6, if_neg e7, if_neg e8, if_neg e11]
     rw [this]; exact ⟨ek, n1, rfl, rfl, rfl, rfl, rfl, rfl, rfl, n2⟩
 · rintro w68 ⟨p, hv68, hp, hc68⟩
   have hz68 := hz6.chg hc68 (by omega)
   have hX68 : Ext w w68 := Ext.of_chg hX6 hc68 (by omega)
   refine ⟨_, hv68.rd (OpM.c_length _), hz68.storeOk (by simp [OpM.c_length]) (by simpa using p.plain), by simp [OpM.c_length], nxPut hz68 (us := p.c) (by simp [OpM.c_length]) (by simp) fun w70 hv70 hc70 _ => ⟨_, hv70.rd (OpM.c_length _), p, rfl, ?_, ?_⟩⟩
   · exact hp.ext (Ext.of_chg hX68 hc70 (by have := hx1.size; omega))
   · exact Ext.of_chg hX68 hc70 (by have := hx1.size; omega)
end Go.Proofs.YtgljoledlhmhnaaGreatDoor
namespace Go.Proofs.YtgljoledlhmhnaaGreatDoor
open Go Gx
variable {w w' : World}
theorem ref29_on (is : Bool) (w : World) : Ret Tryz.prog F.ref29_on #[.bool is] w (fun v w' => v = .string (S (32 :: onW is)) ∧ w = w') := by
 refine W.ref29_on_ok is w _ ?_
 delta W.ref29_on Br
 exact ⟨fun h => by subst h; exact ⟨rfl, rfl⟩, fun h => by subst h; exact ⟨rfl, rfl⟩⟩
theorem e32 : ByteArray.mk #[32] = S [32] := rfl
theorem numI_21 {n : Int} (h : I64 n) : (numI n).length ≤ 21 := numI_len n h
theorem num10_20 {n : Nat} (h : n ≤ 18446744073709551615) : (numB 10 n).length ≤ 20 := numB_len 10 19 (by omega) n (by omega)
theorem hexB_le (l : List UInt8) : (hexB l).length ≤ 2 * l.length + 1 := by
 unfold hexB
 split
 · simp
 · rw [hexB_len]; omega
theorem srdA {b : Nat} {T : TypeId} {o : OpM} (h : Var w b o.c T) : rdCells w ((Addr.add ⟨b, 0, none⟩ 6).add 1) 0 17 = some o.s.addr.c := by
 rw [rdPart (ords h) (k := 1) (m := 17) (by omega)]
 show some ((o.s.addr.c ++ _).take 17) = _
 rw [List.take_append_of_le_length (by rw [Ad.c_length]; decide), List.take_of_length_le (by rw [Ad.c_length]; decide)]
theorem trd {b : Nat} {T : TypeId} {o : OpM} (h : Var w b o.c T) : w.cell? (Addr.add ⟨b, 0, none⟩ 29) = some (.int .i64 o.to.id) ∧ rdCells w ((Addr.add ⟨b, 0, none⟩ 29).add 1) 0 17 = some o.to.addr.c ∧ w.cell? ((Addr.add ⟨b, 0, none⟩ 29).add 18) = some (.int .u16 o.to.port) ∧ w.cell? ((Addr.add ⟨b, 0, none⟩ 29).add 19) = some (.int .i64 o.to.weight) := by
 have hr := ordt h
 have hc := fun {i : Nat} {v : Value} (h : o.to.c[i]? = some v) => rdGet (i := 0) hr h
 refine ⟨?_, ?_, ?_, ?_⟩
 · have := hc (i := 0) (v := .int .i64 o.to.id) rfl
   rwa [Nat.add_zero, add_zero'] at this
 · have := rdPart hr (k := 1) (m := 17) (by omega)
   rw [this]
   show some ((o.to.addr.c ++ _).take 17) = _
   rw [List.take_append_of_le_length (by rw [Ad.c_length]; decide), List.take_of_length_le (by rw [Ad.c_length]; decide)]
 · have := hc (i := 18) (v := .int .u16 o.to.port) (by simp [Bk.c, Ad.c_length])
   rwa [Nat.zero_add] at this
 · have := hc (i := 19) (v := .int .i64 o.to.weight) (by simp [Bk.c, Ad.c_length])
   rwa [Nat.zero_add] at this
theorem u64n {n : Int} (h0 : 0 ≤ n) (h1 : n ≤ 18446744073709551615) : IntKind.wrap .u64 n = ((n.toNat : Nat) : Int) := by rw [wr64 h0 h1]; omega
theorem sum21 {l : List Int} (h : ∀ n ∈ l, I64 n) : sumLen (l.map numI) ≤ l.length * 21 := by
 have := sumLen_leW (k := 21) (ls := l.map numI) (fun x hx => by obtain ⟨n, hn, rfl⟩ := List.mem_map.1 hx; exact numI_21 (h n hn))
 rwa [List.length_map] at this
theorem args_li {a : Stp} (hb : bare a = a) (h1 : a.kind ≠ 1) (h2 : a.kind ≠ 2) (h3 : a.kind ≠ 3) (h4 : a.kind ≠ 4) (h5 : a.kind ≠ 5) (h6 : ¬ (a.kind = 6 ∨ a.kind = 12)) (h7 : ¬ (a.kind = 7 ∨ a.kind = 9)) (h8 : ¬ (a.kind = 8 ∨ a.kind = 13)) : argsOf a = a.li.map numI := by
 by_cases h11 : a.kind = 11
 · exact args11 h11
 · rw [args0 h1 h2 h3 h4 h5 h6 h7 h8 h11]
   have : a.li = [] := by
     rw [← hb]
     unfold bare
     rw [if_neg h1, if_neg h2, if_neg h3, if_neg h4, if_neg h5, if_neg h6, if_neg h7, if_neg h8, if_neg h11]
     rfl
   rw [this]; rfl
set_option maxHeartbeats 1000000 in
theorem ref29_Show {o : OpM} {a : Stp} (ha : OpIs w o a) (hv : Vd a) (hd : a.data.length ≤ 10000000) (hli : a.li.length ≤ 10000000) :
   Ret Tryz.prog F.ref29_Show #[.agg o.c.toArray] w (fun v w' => v = .string (S (showO a)) ∧ Ext w w') := by
 refine W.ref29_Show_ok _ w _ ?_
 (delta W.ref29_Show nA r3 Br c9 r2 c4 mI T11 r1 T13 r5 T2 al z1 r7 r4 T12 T3 r8 T18 T14 T4 bd wI c15; dsimp only)
 have hdl : o.data.len = a.data.length := by have := ha.data.len; rw [u8s_length] at this; omega
 have hll := ha.llen
 refine nxVar (vs := o.c) rfl fun w1 ho hx1 hs1 => nxVar (vs := strs ([] :: kwL)) (by kernel_rfl) fun w2 hl hx2 hs2 => nx ⟨fun _ => False, id, _, (ocell (ho.ext hx2).drew).1, ?_⟩
 have hX3 : Ext w w2.drew := Chg.drew (Ext.trans hx1 hx2)
 have ho3 : Var w2.drew w.heap.size o.c Ty.api_Op := (ho.ext hx2).drew
 have hl3 := hl.drew
 obtain ⟨w3, hw3⟩ : ∃ w3, w3 = w2.drew := ⟨_, rfl⟩
 rw [← hw3] at hX3 ho3 hl3 ⊢
 have notL : ¬ Lined a → (∀ {w' : World}, Ext w w' → Value.string (ByteArray.mk #[]) = .string (S (showO a)) ∧ Ext w w') := fun h => by
   intro w' hx
   have : showO a = [] := by unfold showO; rw [if_neg (fun g => h g.1)]
   rw [this]; exact ⟨rfl, hx⟩
 rw [ha.kind]
 refine ⟨fun h => ?_, fun h => ⟨id, _, (ocell ho3).1, ?_⟩⟩
 · have h := of_decide_eq_true h
   refine Jn1 (fun b w' => b = true ∧ w3 = w') (fun q hq => ⟨fun _ => hq _ _ ⟨rfl, rfl⟩, fun h => (by cases h)⟩) ?_
   rintro _ _ ⟨rfl, rfl⟩
   refine Jn1 (fun b w' => b = true ∧ w3 = w') (fun q hq => ⟨fun _ => hq _ _ ⟨rfl, rfl⟩, fun h => (by cases h)⟩) ?_
   rintro _ _ ⟨rfl, rfl⟩
   exact ⟨fun _ => notL (fun g => by have := g.lo; omega) hX3, fun h => (by cases h)⟩
 rw [ha.kind]
 have h1 := of_decide_eq_false h
 refine ⟨fun h => ?_, fun h => ⟨id, _, ho3.rd (OpM.c_length _), id, _, ho3.rd (OpM.c_length _), (ref29_Bare (ha.ext hX3)).use ?_⟩⟩
 · have h := of_decide_eq_true h
   refine Jn1 (fun b w' => b = true ∧ w3 = w') (fun q hq => ⟨fun _ => hq _ _ ⟨rfl, rfl⟩, fun h => (by cases h)⟩) ?_
   rintro _ _ ⟨rfl, rfl⟩
   refine Jn1 (fun b w' => b = true ∧ w3 = w') (fun q hq => ⟨fun _ => hq _ _ ⟨rfl, rfl⟩, fun h => (by cases h)⟩) ?_
   rintro _ _ ⟨rfl, rfl⟩
   exact ⟨fun _ => notL (fun g => by have := g.hi; omega) hX3, fun h => (by cases h)⟩
 have h14 := of_decide_eq_false h
 rintro _ w255 ⟨p, rfl, hp, hx255⟩
 refine ⟨_, rfl, hx255, (ref29_Same ((ha.ext hX3).ext hx255) hp (by omega)).use ?_⟩
 rintro _ w258 ⟨rfl, hx258⟩
 have hx3 := Ext.trans hx255 hx258
 refine ⟨_, rfl, Jn1 (fun b w' => b = (!decide (a = bare a) || !a.s.addr.good) ∧ Ext w3 w') (fun q hq => ⟨fun h => hq _ _ ⟨by rw [h]; rfl, hx3⟩, fun h => ⟨_, srdA (ho3.ext hx3), (ref12_Good _ w258).use ?_⟩⟩) ?_⟩
 · rintro _ w263 ⟨rfl, hx263⟩
   exact ⟨_, rfl, hq _ _ ⟨by rw [h, Bool.false_or, ha.s], Ext.trans hx3 hx263⟩⟩
 rintro _ w267 ⟨rfl, hx267⟩
 refine Jn1 (fun b w' => b = (!decide (a = bare a) || !a.s.addr.good || !a.to.addr.good) ∧ Ext w3 w') (fun q hq => ⟨fun h => hq _ _ ⟨by rw [h]; rfl, hx267⟩, fun h => ⟨_, (trd (ho3.ext hx267)).2.1, (ref12_Good _ w267).use ?_⟩⟩) ?_
 · rintro _ w270 ⟨rfl, hx270⟩
   exact ⟨_, rfl, hq _ _ ⟨by rw [h, Bool.false_or, ha.to], Ext.trans hx267 hx270⟩⟩
 rintro _ w274 ⟨rfl, hx274⟩
 refine ⟨fun h => notL (fun g => ?_) (Ext.trans hX3 hx274), fun h => ?_⟩
 · have e1 := g.bare; have e2 := g.sg; have e3 := g.tg
   rw [e1, e2, e3] at h
   simp at h
 have hL : Lined a := by
   simp only [Bool.or_eq_false_iff, Bool.not_eq_false', decide_eq_true_eq] at h
   exact ⟨by omega, by omega, h.1.1.symm, h.1.2, h.2⟩
 have hxd : Ext w3 w274.drew := Chg.drew hx274
 obtain ⟨w275, hw275⟩ : ∃ w275, w275 = w274.drew := ⟨_, rfl⟩
 rw [← hw275] at hxd ⊢
 have ho5 := ho3.ext hxd
 have hl5 := hl3.ext hxd
 have hX5 := Ext.trans hX3 hxd
 have hkl : kwL.length = 14 := rfl
 have hcell : w275.cell? (Addr.add ⟨w1.heap.size, 0, none⟩ (Int.toNat o.kind * 1)) = some (.string (S (kw a.kind))) := by
   rw [addF, Nat.mul_one, hl5.cell, ha.kind]
   unfold strs
   rw [List.getElem?_map, show a.kind.toNat = (a.kind.toNat - 1) + 1 by omega, List.getElem?_cons_succ]
   unfold kw
   rw [List.getElem?_eq_getElem (by omega), getD_at (by omega)]; rfl
 have hkw := (kw_no32 _ (kw_mem hL.lo hL.hi)).2.2.1
 refine ⟨fun _ => False, id, _, (ocell ho5).1, _, rfl, ⟨by rw [ha.kind]; omega, by rw [ha.kind]; omega⟩, id, _, hcell, id, _, (ocell ho5).2.1, id, _, (ocell ho5).2.2.1, ?_⟩
 rw [ha.id, ha.bid]
 refine (ref29_int0 a.id hv.id w275).use ?_
 rintro _ _ ⟨rfl, rfl⟩
 have l1 := numI_21 hv.id; have l2 := numI_21 hv.bid
 refine ⟨_, rfl, .refl _ _, by simp only [e32, S_size, List.length_cons, List.length_nil]; omega, by simp only [e32, S_append, S_size, List.length_append, List.length_cons, List.length_nil]; omega, (ref29_int0 a.bid hv.bid w275).use ?_⟩
 rintro _ _ ⟨rfl, rfl⟩
 refine ⟨_, rfl, .refl _ _, by simp only [e32, S_append, S_size, List.length_append, List.length_cons, List.length_nil]; omega, ?_⟩
 refine Jn1 (fun s w' => s = S (lineOf a) ∧ Ext w275 w') (fun q hq => ⟨_, (ocell ho5).1, ?_⟩) ?_
 · rw [ha.kind]
   have fin : ∀ {w' : World} {s : ByteArray}, Ext w275 w' → s = S (lineOf a) → q s w' := fun hx hs => hq _ _ ⟨hs, hx⟩
   refine ⟨fun h => ?_, fun k1 => ⟨fun h => ?_, fun k2 => ⟨fun h => ?_, fun k3 => ⟨fun h => ?_, fun k4 => ⟨fun h => ?_, fun k5 => ?_⟩⟩⟩⟩⟩
   · have hk : a.kind = 1 := eq_of_beq h
     have l3 := hexB_le a.data
     refine ⟨by simp only [e32, S_size, List.length_cons, List.length_nil]; omega, o.data, (ocell2 ho5).1, (ref29_hex (ha.data.ext hX5) (by omega)).use ?_⟩
     rintro _ w36 ⟨rfl, hx36⟩
     refine ⟨_, rfl, by simp only [e32, S_append, S_size, List.length_append, List.length_cons, List.length_nil]; omega, fin hx36 ?_⟩
     simp only [e32, S_append]; unfold lineOf wordsOf; rw [args1 hk]; simp [joinB]
   · have hk : a.kind = 2 := eq_of_beq h
     have hvn := hv.n
     refine ⟨by simp only [e32, S_size, List.length_cons, List.length_nil]; omega, _, (ocell ho5).2.2.2.1, ?_⟩
     obtain ⟨n, hn⟩ : ∃ n : Nat, a.n = n := ⟨a.n.toNat, by omega⟩
     rw [ha.n, hn]
     have l3 := num10_20 (n := n) (by omega)
     refine (ref29_num n (by omega) w275).use ?_
     rintro _ _ ⟨rfl, rfl⟩
     refine ⟨_, rfl, by simp only [e32, S_append, S_size, List.length_append, List.length_cons, List.length_nil]; omega, fin (.refl _ _) ?_⟩
     simp only [e32, S_append]; unfold lineOf wordsOf; rw [args2 hk, hn]; simp [joinB]
   · have hk : a.kind = 3 := eq_of_beq h
     refine ⟨_, ords ho5, nxVar (vs := Sv.zero.c nilS) (by kernel_rfl) fun w27 hz27 hx27 hs27 => ⟨hz27.storeOk (us := (o.s.c o.k).toArray.toList) (by simp [Sv.c_length]) (by simpa using Sv.plain _ _), by simp [Sv.c_length],
       nxPut hz27 (us := o.s.c o.k) (by simp [Sv.c_length]) (by simp) fun w15 hs15 hc15 hz15 => nx ?_⟩⟩
     have hx15 : Ext w275 w15 := Ext.of_chg hx27 hc15 (Nat.le_refl _)
     have hxd : Ext w275 w15.drew := Chg.drew hx15
     have hs16 := hs15.drew
     rw [ha.s] at hs16
     obtain ⟨w46, hw46⟩ : ∃ w46, w46 = w15.drew := ⟨_, rfl⟩
     rw [← hw46] at hxd hs16 ⊢
     have b1 := hv.sport; have b2 := hv.sproto; have b3 := hv.slasts
     have m1 := numI_21 hv.sid; have m2 := showA_len a.s.addr; have m3 := num10_20 (n := a.s.port.toNat) (by omega); have m4 := num10_20 (n := a.s.proto.toNat) (by omega); have m5 := numI_21 hv.sbits; have m6 := num10_20 (n := a.s.lasts.toNat) (by omega)
     refine ⟨fun _ => False, by simp only [e32, S_append, S_size, List.length_append, List.length_cons, List.length_nil]; omega, id, _, (scell hs16).1, id, _, srd hs16, id, _, (scell hs16).2.2.1, id, _, (scell hs16).2.2.2.1, id, _, (scell hs16).2.2.2.2.1, id, _, (scell hs16).2.2.2.2.2.1, ?_⟩
     rw [u64n b1.1 (by omega), u64n b2.1 (by omega), show a.s.lasts = ((a.s.lasts.toNat : Nat) : Int) by omega]
     refine (ref29_int0 a.s.id hv.sid w46).use ?_
     rintro _ _ ⟨rfl, rfl⟩
     refine ⟨_, rfl, .refl _ _, by simp only [e32, S_append, S_size, List.length_append, List.length_cons, List.length_nil]; omega, by simp only [e32, S_append, S_size, List.length_append, List.length_cons, List.length_nil]; omega, (ref12_Show a.s.addr w46).use ?_⟩
     rintro _ w57 ⟨rfl, hx57⟩
     refine ⟨_, rfl, hx57, by simp only [e32, S_append, S_size, List.length_append, List.length_cons, List.length_nil]; omega, by simp only [e32, S_append, S_size, List.length_append, List.length_cons, List.length_nil]; omega, (ref29_num a.s.port.toNat (by omega) w57).use ?_⟩
     rintro _ _ ⟨rfl, rfl⟩
     refine ⟨_, rfl, .refl _ _, by simp only [e32, S_append, S_size, List.length_append, List.length_cons, List.length_nil]; omega, by simp only [e32, S_append, S_size, List.length_append, List.length_cons, List.length_nil]; omega, (ref29_num a.s.proto.toNat (by omega) w57).use ?_⟩
     rintro _ _ ⟨rfl, rfl⟩
     refine ⟨_, rfl, .refl _ _, by simp only [e32, S_append, S_size, List.length_append, List.length_cons, List.length_nil]; omega, by simp only [e32, S_append, S_size, List.length_append, List.length_cons, List.length_nil]; omega, (ref29_int0 a.s.bits hv.sbits w57).use ?_⟩
     rintro _ _ ⟨rfl, rfl⟩
     refine ⟨_, rfl, .refl _ _, by simp only [e32, S_append, S_size, List.length_append, List.length_cons, List.length_nil]; omega, by simp only [e32, S_append, S_size, List.length_append, List.length_cons, List.length_nil]; omega, (ref29_num a.s.lasts.toNat (by omega) w57).use ?_⟩
     rintro _ _ ⟨rfl, rfl⟩
     refine ⟨_, rfl, .refl _ _, by simp only [e32, S_append, S_size, List.length_append, List.length_cons, List.length_nil]; omega, fin (Ext.trans hxd hx57) ?_⟩
     simp only [e32, S_append]; unfold lineOf wordsOf; rw [args3 hk]; simp [joinB]
   · have hk : a.kind = 4 := eq_of_beq h
     refine ⟨by simp only [e32, S_size, List.length_cons, List.length_nil]; omega, _, (ocell ho5).2.1, ?_⟩
     rw [ha.id]
     refine (ref29_int0 a.id hv.id w275).use ?_
     rintro _ _ ⟨rfl, rfl⟩
     refine ⟨_, rfl, by simp only [e32, S_append, S_size, List.length_append, List.length_cons, List.length_nil]; omega, fin (.refl _ _) ?_⟩
     simp only [e32, S_append]; unfold lineOf wordsOf; rw [args4 hk]; simp [joinB]
   · have hk : a.kind = 5 := eq_of_beq h
     have hxd : Ext w275 w275.drew := Chg.drew (.refl _ _)
     have ho6 := ho5.drew
     obtain ⟨w46, hw46⟩ : ∃ w46, w46 = w275.drew := ⟨_, rfl⟩
     refine nx ?_
     rw [← hw46] at hxd ho6 ⊢
     obtain ⟨r1, r2, r3, r4⟩ := trd ho6
     rw [ha.to] at r1 r2 r3 r4
     have b1 := hv.tport
     have m1 := numI_21 hv.tid; have m2 := showA_len a.to.addr; have m3 := num10_20 (n := a.to.port.toNat) (by omega); have m5 := numI_21 hv.tweight
     refine ⟨fun _ => False, by simp only [e32, S_append, S_size, List.length_append, List.length_cons, List.length_nil]; omega, id, _, (ocell ho6).2.1, id, _, r1, id, _, r2, id, _, r3, id, _, r4, ?_⟩
     rw [u64n b1.1 (by omega), ha.id]
     refine (ref29_int0 a.id hv.id w46).use ?_
     rintro _ _ ⟨rfl, rfl⟩
     refine ⟨_, rfl, .refl _ _, by simp only [e32, S_append, S_size, List.length_append, List.length_cons, List.length_nil]; omega, by simp only [e32, S_append, S_size, List.length_append, List.length_cons, List.length_nil]; omega, (ref29_int0 a.to.id hv.tid w46).use ?_⟩
     rintro _ _ ⟨rfl, rfl⟩
     refine ⟨_, rfl, .refl _ _, by simp only [e32, S_append, S_size, List.length_append, List.length_cons, List.length_nil]; omega, by simp only [e32, S_append, S_size, List.length_append, List.length_cons, List.length_nil]; omega, (ref12_Show a.to.addr w46).use ?_⟩
     rintro _ w57 ⟨rfl, hx57⟩
     refine ⟨_, rfl, hx57, by simp only [e32, S_append, S_size, List.length_append, List.length_cons, List.length_nil]; omega, by simp only [e32, S_append, S_size, List.length_append, List.length_cons, List.length_nil]; omega, (ref29_num a.to.port.toNat (by omega) w57).use ?_⟩
     rintro _ _ ⟨rfl, rfl⟩
     refine ⟨_, rfl, .refl _ _, by simp only [e32, S_append, S_size, List.length_append, List.length_cons, List.length_nil]; omega, by simp only [e32, S_append, S_size, List.length_append, List.length_cons, List.length_nil]; omega, (ref29_int0 a.to.weight hv.tweight w57).use ?_⟩
     rintro _ _ ⟨rfl, rfl⟩
     refine ⟨_, rfl, .refl _ _, by simp only [e32, S_append, S_size, List.length_append, List.length_cons, List.length_nil]; omega, fin (Ext.trans hxd hx57) ?_⟩
     simp only [e32, S_append]; unfold lineOf wordsOf; rw [args5 hk]; simp [joinB]
   have n1 := ne_of_beq_false k1; have n2 := ne_of_beq_false k2; have n3 := ne_of_beq_false k3; have n4 := ne_of_beq_false k4; have n5 := ne_of_beq_false k5
   refine Jn1 (fun b w' => b = decide (a.kind = 6 ∨ a.kind = 12) ∧ w275 = w') (fun q2 hq2 => ⟨fun h => hq2 _ _ ⟨?_, rfl⟩, fun h => hq2 _ _ ⟨?_, rfl⟩⟩) ?_
   · rw [h]; have := eq_of_beq h; simp [this]
   · have := ne_of_beq_false h; rw [Bool.eq_iff_iff]; simp [this]
   rintro _ _ ⟨rfl, rfl⟩
   refine ⟨fun h => ⟨by simp only [e32, S_append, S_size, List.length_append, List.length_cons, List.length_nil]; omega, fin (.refl _ _) ?_⟩, fun h6 => ?_⟩
   · have hk := of_decide_eq_true h
     simp only [e32, S_append]; unfold lineOf wordsOf; rw [args6 hk]; simp [joinB]
   have n6 := of_decide_eq_false h6
   refine Jn1 (fun b w' => b = decide (a.kind = 7 ∨ a.kind = 9) ∧ w275 = w') (fun q2 hq2 => ⟨fun h => hq2 _ _ ⟨?_, rfl⟩, fun h => hq2 _ _ ⟨?_, rfl⟩⟩) ?_
   · rw [h]; have := eq_of_beq h; simp [this]
   · have := ne_of_beq_false h; rw [Bool.eq_iff_iff]; simp [this]
   rintro _ _ ⟨rfl, rfl⟩
   refine ⟨fun h => ⟨by simp only [e32, S_append, S_size, List.length_append, List.length_cons, List.length_nil]; omega, _, (ocell2 ho5).2.1, (ref29_on _ w275).use ?_⟩, fun h7 => ?_⟩
   · have hk := of_decide_eq_true h
     rintro _ _ ⟨rfl, rfl⟩
     rw [ha.on]
     have m1 : (onW a.on).length ≤ 3 := by cases a.on <;> decide
     refine ⟨_, rfl, by simp only [e32, S_append, S_size, List.length_append, List.length_cons, List.length_nil]; omega, fin (.refl _ _) ?_⟩
     simp only [e32, S_append]; unfold lineOf wordsOf; rw [args7 hk]; simp [joinB]
   have n7 := of_decide_eq_false h7
   refine Jn1 (fun b w' => b = decide (a.kind = 8 ∨ a.kind = 13) ∧ w275 = w') (fun q2 hq2 => ⟨fun h => hq2 _ _ ⟨?_, rfl⟩, fun h => hq2 _ _ ⟨?_, rfl⟩⟩) ?_
   · rw [h]; have := eq_of_beq h; simp [this]
   · have := ne_of_beq_false h; rw [Bool.eq_iff_iff]; simp [this]
   rintro _ _ ⟨rfl, rfl⟩
   refine ⟨fun h => ⟨by simp only [e32, S_append, S_size, List.length_append, List.length_cons, List.length_nil]; omega, by simp only [e32, S_append, S_size, List.length_append, List.length_cons, List.length_nil]; omega, _, (ocell ho5).2.2.2.1, ?_⟩, fun h8 => ?_⟩
   · have hk := of_decide_eq_true h
     have hvn := hv.n
     obtain ⟨n, hn⟩ : ∃ n : Nat, a.n = n := ⟨a.n.toNat, by omega⟩
     rw [ha.n, hn]
     have l3 := num10_20 (n := n) (by omega)
     refine (ref29_num n (by omega) w275).use ?_
     rintro _ _ ⟨rfl, rfl⟩
     refine ⟨_, rfl, by simp only [e32, S_append, S_size, List.length_append, List.length_cons, List.length_nil]; omega, fin (.refl _ _) ?_⟩
     simp only [e32, S_append]; unfold lineOf wordsOf; rw [args8 hk, hn]; simp [joinB]
   have n8 := of_decide_eq_false h8
   have hargs := args_li hL.bare n1 n2 n3 n4 n5 n6 n7 n8
   refine ⟨fun s n w' => ∃ i : Nat, n = i ∧ i ≤ a.li.length ∧ s = S (kw a.kind ++ tailB 32 ((a.li.take i).map numI)) ∧ w275 = w', fun _ n _ => ((a.li.length : Int) - n).toNat, ⟨0, rfl, Nat.zero_le _, by simp [tailB], rfl⟩, ?_⟩
   rintro _ _ _ ⟨i, rfl, hi, rfl, rfl⟩
   have htl := tailB_length 32 ((a.li.take i).map numI)
   have hsum := sum21 (l := a.li.take i) (fun n hn => hv.li n (List.mem_of_mem_take hn))
   rw [List.length_map, List.length_take, Nat.min_eq_left hi] at htl
   rw [List.length_take, Nat.min_eq_left hi] at hsum
   refine ⟨o.l, (ocell2 ho5).2.2, fun hlt => ?_, fun hge => ?_⟩
   · have hlt : i < a.li.length := by have := of_decide_eq_true hlt; omega
     obtain ⟨A, hA, hbd, hc⟩ := (ha.li.ext hX5).at (i := i) (v := .int .i64 a.li[i]) (by rw [List.getElem?_map, List.getElem?_eq_getElem hlt]; rfl)
     have hin := hv.li _ (List.getElem_mem hlt)
     have m1 := numI_21 hin
     refine ⟨by simp only [e32, S_append, S_size, List.length_append, List.length_cons, List.length_nil]; omega, o.l, (ocell2 ho5).2.2, A, hA, hbd, _, hc, (ref29_int0 _ hin w275).use ?_⟩
     rintro _ _ ⟨rfl, rfl⟩
     have ew : IntKind.wrap .i64 ((i : Int) + 1) = ((i + 1 : Nat) : Int) := by rw [wrapi (by omega) (by omega)]; rfl
     have hms : ((a.li.length : Int) - ((i + 1 : Nat) : Int)).toNat < ((a.li.length : Int) - (i : Int)).toNat := by omega
     rw [ew]
     refine ⟨_, rfl, by simp only [e32, S_append, S_size, List.length_append, List.length_cons, List.length_nil]; omega, ⟨i + 1, rfl, hlt, ?_, rfl⟩, hms⟩
     simp only [e32, S_append]
     rw [List.take_succ_eq_append_getElem hlt, List.map_append, tailB_append]
     simp [tailB]
   · have hi : i = a.li.length := by have := of_decide_eq_false hge; omega
     refine fin (.refl _ _) ?_
     rw [hi, List.take_length]
     unfold lineOf wordsOf
     rw [hargs, joinB_cons]
 · rintro _ w383 ⟨rfl, hx383⟩
   rw [S_size]
   refine ⟨fun h => ⟨?_, Ext.trans hX5 hx383⟩, fun h => ⟨?_, Ext.trans hX5 hx383⟩⟩
   · have h := of_decide_eq_true h
     have : showO a = [] := by unfold showO; rw [if_neg (fun g => by have := g.2; omega)]
     rw [this]; rfl
   · have h := of_decide_eq_false h
     rw [showO_of hL (by omega)]
end Go.Proofs.YtgljoledlhmhnaaGreatDoor
namespace Go.Proofs.YtgljoledlhmhnaaGreatDoor
open Go Gx
variable {w w' : World}
theorem u16_range {n : Int} (h0 : IntKind.u16.min ≤ n) (h1 : n ≤ IntKind.u16.max) : 0 ≤ n ∧ n ≤ 65535 := by
 simpa [IntKind.min, IntKind.max, IntKind.signed, IntKind.bits] using And.intro h0 h1
theorem Bk.ofRs' {cs : List Value} (h : okRs lfB cs) : ∃ b : Bk, cs = b.c ∧ I64 b.id ∧ (0 ≤ b.port ∧ b.port ≤ 65535) ∧ I64 b.weight := by
 obtain ⟨_, us, rfl, ⟨id, rfl, q1, q2⟩, h⟩ := h
 obtain ⟨u1, t1, rfl, h1, h2⟩ := okRs_app h
 obtain ⟨a, rfl⟩ := Ad.ofRs h1
 obtain ⟨_, _, rfl, ⟨p, rfl, q3, q4⟩, _, _, rfl, ⟨n, rfl, q5, q6⟩, _, _, rfl, ⟨d, rfl⟩, rfl⟩ := h2
 exact ⟨⟨id, a, p, n, d⟩, rfl, i64_range q1 q2, u16_range q3 q4, i64_range q5 q6⟩
end Go.Proofs.YtgljoledlhmhnaaGreatDoor
namespace Go.Proofs.YtgljoledlhmhnaaGreatDoor
open Go Gx
variable {w w' : World}
theorem showO_len (a : Stp) : (showO a).length ≤ 4200 := by
 unfold showO
 split
 · rename_i h; exact h.2
 · simp
theorem nilBA : ByteArray.mk #[] = S [] := rfl
end Go.Proofs.YtgljoledlhmhnaaGreatDoor
namespace Go.Proofs.YtgljoledlhmhnaaGreatDoor
open Go Gx
theorem returnsInHanded_and_shaped {H : Type} {enc : TypeId × Value → H} {a : Assume} {C : Checked} {os : Os} {f : FuncId} {fn : Func} {s : ChangeSpec} {conds : List PathCond} {apart fresh handsOn again : Bool} {X : World → Array Value → Prop}
   (hX : ∀ (w w' : World) (args : Array Value), w.heap = w'.heap → X w args → X w' args)
   (own : ownKnob C.prog.godebug = none) (started : os.Started) (noInit : C.prog.inits.idxOf? f = none) (hfn : C.prog.funcs[f]? = some fn)
   (witness : ∃ (w : World) (tape : Tape) (i : Input), w.os = os ∧ (w.forCall tape i).Shaped C.prog ∧ i.vars = [] ∧ Input.okWide C.prog (w.forCall tape i) .any w.heap.size f i ∧
     ((s.pre enc C.prog fn conds apart (w.forCall tape i).memory i.args ∧ X (w.forCall tape i).memory i.args) ∧ sizedMet enc C.prog fn (OpenSpec.ofChange s) apart (w.forCall tape i).memory i.args) ∧ a.holds C.prog (lone (Frame.enter C.prog f i.args .normal) [] (w.forCall tape i)))
   (contract : ∀ (W : World) (base : Nat) (args : Array Value) (ds gs : List (DataW H)) (before : List MemPlace),
     (∀ (j : Nat) t v, fn.params[j]? = some t → args[j]? = some v → Value.okWide C.prog W .any base t v) →
     DataW.Whole enc C.prog fn.params.toList s.vars apart W args.toList ds gs before →
     conds.all (PathCond.test C.prog ⟨fn.params.toList, ds, s.plain.varTypes C.prog, gs⟩) = true →
     (DataW.weightsEach C.prog (fn.params.toList ++ s.plain.varTypes C.prog) (ds ++ gs)).all (· ≤ reachBytes) = true → X W args → W.ShapedOpen C.prog →
     a.holds C.prog (lone (Frame.enter C.prog f args .normal) [] W) →
     Calls C.prog f args W fun e W' => ∃ v, e = .returned v ∧ s.post enc C.prog fn apart fresh handsOn again W args v W') :
   ReturnsInHanded a C os f .any (fun w args => (s.pre enc C.prog fn conds apart w args ∧ X w args) ∧ sizedMet enc C.prog fn (OpenSpec.ofChange s) apart w args) (s.post enc C.prog fn apart fresh handsOn again) := by
 refine returnsInHanded_of_calls own started noInit witness ?_
 intro w tape i _ hsh _ hok hpre hholds
 obtain ⟨_, _, _, fn', hfn', _, _, _, _, hval⟩ := hok
 have e : fn' = fn := Option.some.inj (hfn'.symm.trans hfn)
 subst e
 obtain ⟨⟨⟨ds, gs, before, hw, hc⟩, hx⟩, hz⟩ := hpre
 have hw' := DataW.Whole.of_heap (w' := w.forCall tape i) (by rfl) hw
 refine (contract (w.forCall tape i) w.heap.size i.args ds gs before hval hw' hc (hz.weights hw) (hX _ _ _ (by rfl) hx) hsh hholds).mono fun e W' ⟨v, he, hp⟩ => ?_
 subst he
 exact ChangeSpec.post_blind hp
theorem maxAt_of {w : World} (h : w.ShapedOpen Tryz.prog) : MaxAt w :=
 Go.Proofs.cell_of_shapedOpen_int h (g := G.internal_bytealg_MaxLen) (t := Ty.int) (zero := #[.int .i64 0]) (of_decide_eq_true (by kernel_rfl)) (by kernel_rfl) rfl (by kernel_rfl) (by kernel_rfl) (by kernel_rfl)
def spZ : List Int := (List.range 256).map fun i => if i = 9 ∨ i = 10 ∨ i = 11 ∨ i = 12 ∨ i = 13 ∨ i = 32 then 1 else 0
theorem sp_of {w : World} {l : List (String × DataW Unit)} (h : laidMet Tryz.prog l w) (h1 : l[7]? = some ("strings.asciiSpace", Rows.laid_strings_asciiSpace)) : TabSp w := by
 have b := laid_ints h h1 (g := G.strings_asciiSpace) (k := .u8) (zs := spZ) (t := ((Tryz.prog.globals[G.strings_asciiSpace]?).map (·.type)).get (by kernel_rfl)) (e := Ty.uint8) (N := 256) (by kernel_rfl) (Option.some_get _).symm (by kernel_rfl) (by kernel_rfl) (by kernel_rfl) (by kernel_rfl)
 intro i hi
 rw [b i hi]
 congr 2
 simp [spZ, List.getD, hi]
theorem sct_of {w : World} {l : List (String × DataW Unit)} (h : laidMetH Tryz.prog l w) (hp : (l.all fun x => x.2.handleName?.isNone) = true) (h1 : l[1]? = some ("math/bits.deBruijn64tab", Rows.laid_math_bits_deBruijn64tab)) (h2 : l[2]? = some ("internal/strconv.uint64pow10", Rows.laid_internal_strconv_uint64pow10))
   (h3 : l[4]? = some ("strconv.ErrRange", Rows.laid_strconv_ErrRange)) (h4 : l[5]? = some ("strconv.ErrSyntax", Rows.laid_strconv_ErrSyntax)) (h5 : l[7]? = some ("strings.asciiSpace", Rows.laid_strings_asciiSpace)) (hM : MaxAt w) : ScT w := by
 refine ⟨tabs_of h hp h1 h2 h3 h4, ?_, hM⟩
 rw [MakeChecks.laidMetH_plain _ _ _ hp] at h
 exact sp_of h h5
end Go.Proofs.YtgljoledlhmhnaaGreatDoor
namespace Go.Proofs.YtgljoledlhmhnaaGreatDoor
open Go Gx
variable {w w' : World}
theorem goodL_ids {A : List SB} (h : goodL A = true) : (A.map fun x => x.1.id).Pairwise (· < ·) := by
 unfold goodL at h
 rw [Bool.and_eq_true] at h
 exact of_decide_eq_true h.2
theorem layS_rises {L L' : List SB} {x : SB} (h : layS L x = some L') : (x.2.map (·.id)).Pairwise (· < ·) := by
 unfold layS at h
 split at h
 · split at h
   · split at h
     · rename_i hr; exact of_decide_eq_true hr
     · cases h
   · cases h
 · cases h
end Go.Proofs.YtgljoledlhmhnaaGreatDoor
namespace Go.Proofs.YtgljoledlhmhnaaGreatDoor
open Go Gx
section
variable {P Q : List Bk} {b : Bk}
def Around (P Q : List Bk) (id : Int) : Prop := (∀ c ∈ P, c.id < id) ∧ ∀ c ∈ Q, id < c.id
theorem posB_gap (h : Around P Q b.id) : posB (P ++ Q) b.id = P.length := by
 unfold posB
 rw [List.findIdx_append, List.findIdx_eq_length_of_false fun x hx => decide_eq_false (by have := h.1 x hx; omega)]
 cases Q with
 | nil => simp
 | cons c Q =>
   have := h.2 c (by simp)
   simp [List.findIdx_cons, show b.id ≤ c.id by omega]
theorem hasB_gap (h : Around P Q b.id) : hasB (P ++ Q) b.id = false := by
 unfold hasB
 rw [List.any_eq_false]
 intro c hc
 rcases List.mem_append.1 hc with hc | hc
 · have := h.1 c hc; simp; omega
 · have := h.2 c hc; simp; omega
theorem insB_gap (h : Around P Q b.id) : insB b (P ++ Q) = P ++ b :: Q := by
 unfold insB
 rw [posB_gap h, List.take_left, List.drop_left, List.append_assoc]; rfl
end
theorem rise_around {P Q : List Bk} {b : Bk} (h : Rise (P ++ b :: Q)) : Around P Q b.id := by
 unfold Rise at h
 rw [List.pairwise_append, List.pairwise_cons] at h
 exact ⟨fun c hc => h.2.2 c hc b (by simp), fun c hc => h.2.1.1 c hc⟩
section
variable {P Q : List SB} {s : Sv} {l : List Bk}
def Alone (P Q : List SB) (id : Int) : Prop := (∀ y ∈ P, y.1.id ≠ id) ∧ ∀ y ∈ Q, y.1.id ≠ id
theorem find_mid (h : Alone P Q s.id) : (P ++ (s, l) :: Q).find? (fun x => x.1.id == s.id) = some (s, l) := by
 rw [List.find?_append, List.find?_eq_none.2 fun x hx => by simpa using h.1 x hx]
 simp
theorem upd_mid (h : Alone P Q s.id) (g : List Bk → List Bk) : updL (P ++ (s, l) :: Q) s.id g = P ++ (s, g l) :: Q := by
 unfold updL
 have hid : ∀ (R : List SB), (∀ y ∈ R, y.1.id ≠ s.id) → R.map (fun x => if x.1.id = s.id then (x.1, g x.2) else x) = R := fun R hR => by
   conv => rhs; rw [← List.map_id R]
   exact List.map_congr_left fun x hx => by rw [if_neg (hR x hx)]; rfl
 rw [List.map_append, List.map_cons, hid P h.1, hid Q h.2, if_pos rfl]
end
theorem rise_of_map {l : List Bk} : (l.map (·.id)).Pairwise (· < ·) ↔ Rise l := by unfold Rise; rw [List.pairwise_map]
end Go.Proofs.YtgljoledlhmhnaaGreatDoor
namespace Go.Proofs.YtgljoledlhmhnaaGreatDoor
open Go Gx
structure GoodSB (A : List SB) : Prop where
 ids : A.Pairwise fun a b => a.1.id < b.1.id
 may : ∀ x ∈ A, mayS x.1 nilS = true
 doors : A.Pairwise fun a b => a.1.door ≠ b.1.door
 len : A.length ≤ 8
 rise : ∀ x ∈ A, Rise x.2
 few : ∀ x ∈ A, x.2.length ≤ 16
 can : ∀ x ∈ A, ∀ b ∈ x.2, canB x.1 (undr b) = true
section
variable {P Q : List SB} {s : Sv} {l : List Bk}
theorem insBy_mid {α : Type} {f : α → Int} {x : α} {P Q : List α} (h1 : ∀ y ∈ P, f y < f x) (h2 : ∀ y ∈ Q, f x < f y) : insBy f x (P ++ Q) = P ++ x :: Q := by
 unfold insBy
 rw [List.filter_append, List.filter_append, List.filter_eq_self.2 (fun y hy => decide_eq_true (h1 y hy)), List.filter_eq_nil_iff.2 (fun y hy => by have := h2 y hy; simp; omega),
   List.filter_eq_nil_iff.2 (fun y hy => by have := h1 y hy; simp; omega), List.filter_eq_self.2 (fun y hy => decide_eq_true (h2 y hy))]
 simp
theorem addS_mid (h1 : ∀ y ∈ P, y.1.id < s.id) (h2 : ∀ y ∈ Q, s.id < y.1.id) (hm : mayS s nilS = true) (hd : ∀ y ∈ P ++ Q, y.1.door ≠ s.door) (hl : (P ++ Q).length < 8) :
   addService (P ++ Q) s nilS = (0, P ++ (s, []) :: Q) := by
 unfold addService
 have e1 : (P ++ Q).any (fun x => x.1.id == s.id) = false := List.any_eq_false.2 fun x hx => by
   rcases List.mem_append.1 hx with hx | hx
   · have := h1 x hx; simp; omega
   · have := h2 x hx; simp; omega
 have e2 : (P ++ Q).any (fun x => decide (x.1.door = s.door)) = false := List.any_eq_false.2 fun x hx => by simpa using hd x hx
 rw [if_pos hm, e1, e2, if_neg (by simp), if_neg (by omega), insBy_mid (f := fun x : SB => x.1.id) (x := (s, [])) h1 h2]
theorem addS_last (h0 : (addService P s nilS).1 = 0) (h1 : ∀ y ∈ P, y.1.id < s.id) : mayS s nilS = true ∧ (∀ y ∈ P, y.1.door ≠ s.door) ∧ P.length < 8 ∧ (addService P s nilS).2 = P ++ [(s, [])] := by
 unfold addService at h0 ⊢
 split at h0
 · rename_i hm
   split at h0
   · cases h0
   · rename_i ha
     split at h0
     · cases h0
     · rename_i hl
       rw [if_pos hm, if_neg ha, if_neg hl]
       refine ⟨hm, fun y hy he => ha ?_, by omega, ?_⟩
       · rw [Bool.or_eq_true]
         exact .inr (List.any_eq_true.2 ⟨y, hy, decide_eq_true he⟩)
       · have := insBy_mid (f := fun x : SB => x.1.id) (x := (s, [])) (P := P) (Q := []) h1 (by simp)
         rw [List.append_nil] at this
         exact this
 · cases h0
theorem layB_mid (h : Alone P Q s.id) : ∀ {bs l : List Bk} {L' : List SB}, layB s.id (P ++ (s, l) :: Q) bs = some L' → (∀ b ∈ bs, canB s (undr b) = true) ∧ (bs = [] ∨ l.length + bs.length ≤ 16) ∧ ∃ l', L' = P ++ (s, l') :: Q
 | [], l, L', e => by cases e; exact ⟨by simp, .inl rfl, l, rfl⟩
 | b :: bs, l, L', e => by
   simp only [layB] at e
   split at e
   · rename_i h0
     unfold addBackend at h0 e
     rw [find_mid h] at h0 e
     simp only at h0 e
     split at h0
     · rename_i hc
       split at h0
       · cases h0
       · rename_i hb
         split at h0
         · cases h0
         · rename_i hl
           rw [if_pos hc, if_neg hb, if_neg hl] at e
           simp only at e
           rw [upd_mid h] at e
           obtain ⟨i1, i2, i3⟩ := layB_mid h e
           refine ⟨fun c hc2 => ?_, .inr ?_, i3⟩
           · rcases List.mem_cons.1 hc2 with rfl | hc2
             · exact hc
             · exact i1 c hc2
           · have hlen : (insB (undr b) l).length = l.length + 1 := by unfold insB; simp; omega
             rw [hlen] at i2
             rcases i2 with rfl | i2
             · simp; omega
             · simp; omega
     · cases h0
   · cases e
end
theorem layS_last {L L' : List SB} {x : SB} (e : layS L x = some L') (h1 : ∀ y ∈ L, y.1.id < x.1.id) :
   mayS x.1 nilS = true ∧ (∀ y ∈ L, y.1.door ≠ x.1.door) ∧ L.length < 8 ∧ Rise x.2 ∧ x.2.length ≤ 16 ∧ (∀ b ∈ x.2, canB x.1 (undr b) = true) ∧ ∃ l', L' = L ++ [(x.1, l')] := by
 have hr := rise_of_map.1 (layS_rises e)
 unfold layS at e
 split at e
 · rename_i h0
   obtain ⟨a1, a2, a3, a4⟩ := addS_last h0 h1
   rw [a4] at e
   split at e
   · rename_i L1 hB
     obtain ⟨b1, b2, l', rfl⟩ := layB_mid ⟨fun y hy => by have := h1 y hy; omega, by simp⟩ hB
     split at e
     · cases e
       refine ⟨a1, a2, a3, hr, ?_, b1, l', rfl⟩
       rcases b2 with h | h
       · rw [h]; simp
       · simpa using h
     · cases e
   · cases e
 · cases e
theorem layAll_good : ∀ {X L L' : List SB}, layAll L X = some L' → (L ++ X).Pairwise (fun a b => a.1.id < b.1.id) → L.Pairwise (fun a b => a.1.door ≠ b.1.door) → L.length ≤ 8 →
   (∀ x ∈ X, mayS x.1 nilS = true ∧ Rise x.2 ∧ x.2.length ≤ 16 ∧ ∀ b ∈ x.2, canB x.1 (undr b) = true) ∧ (L ++ X).Pairwise (fun a b => a.1.door ≠ b.1.door) ∧ (L ++ X).length ≤ 8
 | [], L, L', _, _, hd, hl => ⟨by simp, by simpa using hd, by simpa using hl⟩
 | x :: X, L, L', e, hi, hd, hl => by
   simp only [layAll] at e
   split at e
   · rename_i L1 hS
     have h1 : ∀ y ∈ L, y.1.id < x.1.id := fun y hy => (List.pairwise_append.1 hi).2.2 y hy x (by simp)
     obtain ⟨a1, a2, a3, a4, a5, a6, l', rfl⟩ := layS_last hS h1
     have hmap : ((L ++ [(x.1, l')]) ++ X).map (·.1) = (L ++ x :: X).map (·.1) := by simp
     have hi2 : ((L ++ [(x.1, l')]) ++ X).Pairwise (fun a b => a.1.id < b.1.id) := by
       refine (List.pairwise_map (f := fun y : SB => y.1) (R := fun a b : Sv => a.id < b.id)).1 ?_
       rw [hmap]; exact List.pairwise_map.2 hi
     have hd2 : (L ++ [(x.1, l')]).Pairwise (fun a b => a.1.door ≠ b.1.door) := by
       rw [List.pairwise_append]
       exact ⟨hd, by simp, fun y hy z hz => by rw [List.mem_singleton.1 hz]; exact a2 y hy⟩
     obtain ⟨i1, i2, i3⟩ := layAll_good e hi2 hd2 (by simp; omega)
     refine ⟨fun y hy => ?_, ?_, by simpa using i3⟩
     · rcases List.mem_cons.1 hy with rfl | hy
       · exact ⟨a1, a4, a5, a6⟩
       · exact i1 y hy
     · refine (List.pairwise_map (f := fun y : SB => y.1) (R := fun a b : Sv => a.door ≠ b.door)).1 ?_
       rw [← hmap]; exact List.pairwise_map.2 i2
   · cases e
theorem goodL_good {A : List SB} (h : goodL A = true) : GoodSB A := by
 have hi := List.pairwise_map.1 (goodL_ids h)
 unfold goodL at h
 rw [Bool.and_eq_true] at h
 obtain ⟨L', e⟩ := Option.isSome_iff_exists.1 h.1
 obtain ⟨i1, i2, i3⟩ := layAll_good e (by simpa using hi) (by simp) (by simp)
 exact ⟨hi, fun x hx => (i1 x hx).1, by simpa using i2, by simpa using i3, fun x hx => (i1 x hx).2.1, fun x hx => (i1 x hx).2.2.1, fun x hx => (i1 x hx).2.2.2⟩
end Go.Proofs.YtgljoledlhmhnaaGreatDoor
namespace Go.Proofs.YtgljoledlhmhnaaGreatDoor
open Go Gx
def undS (x : SB) : SB := (x.1, x.2.map undr)
theorem layB_good {M : List SB} {s : Sv} (hM : ∀ y ∈ M, y.1.id ≠ s.id) : ∀ (bs pre : List Bk), Rise (pre ++ bs) → (∀ b ∈ bs, canB s (undr b) = true) → (pre ++ bs).length ≤ 16 →
   layB s.id (M ++ [(s, pre.map undr)]) bs = some (M ++ [(s, (pre ++ bs).map undr)])
 | [], pre, _, _, _ => by simp [layB]
 | b :: bs, pre, hr, hc, hl => by
   have ha := rise_around hr
   have hA : Around (pre.map undr) [] (undr b).id := ⟨fun c hcm => by obtain ⟨d, hd, rfl⟩ := List.mem_map.1 hcm; exact ha.1 d hd, by simp⟩
   have hal : Alone M [] s.id := ⟨hM, by simp⟩
   have e : addBackend (M ++ [(s, pre.map undr)]) s.id (undr b) = (0, M ++ [(s, (pre ++ [b]).map undr)]) := by
     unfold addBackend
     rw [find_mid hal]
     have hg := hasB_gap hA
     rw [List.append_nil] at hg
     have hi := insB_gap hA
     rw [List.append_nil] at hi
     simp only
     rw [if_pos (hc b (by simp)), hg, if_neg (by simp), if_neg (by simp at hl ⊢; omega), upd_mid hal, hi]
     simp
   simp only [layB]
   rw [e, if_pos rfl]
   have := layB_good hM bs (pre ++ [b]) (by rw [List.append_assoc]; exact hr) (fun c hcm => hc c (by simp [hcm])) (by rw [List.append_assoc]; exact hl)
   rw [List.append_assoc] at this
   exact this
theorem layAll_of : ∀ (T P : List SB), GoodSB (P ++ T) → layAll (P.map undS) T = some ((P ++ T).map undS)
 | [], P, _ => by simp [layAll]
 | x :: T, P, h => by
   have hx : x ∈ P ++ x :: T := by simp
   have hP : ∀ y ∈ P, y.1.id < x.1.id := fun y hy => (List.pairwise_append.1 h.ids).2.2 y hy x (by simp)
   have hP' : ∀ y ∈ P.map undS, y.1.id < x.1.id := fun y hy => by obtain ⟨z, hz, rfl⟩ := List.mem_map.1 hy; exact hP z hz
   have hD : ∀ y ∈ P.map undS, y.1.door ≠ x.1.door := fun y hy => by obtain ⟨z, hz, rfl⟩ := List.mem_map.1 hy; exact (List.pairwise_append.1 h.doors).2.2 z hz x (by simp)
   have e1 := addS_mid (P := P.map undS) (Q := []) hP' (by simp) (h.may x hx) (by simpa using hD) (by have := h.len; simp at this ⊢; omega)
   rw [List.append_nil] at e1
   have e2 := layB_good (M := P.map undS) (s := x.1) (fun y hy => by have := hP' y hy; omega) x.2 [] (h.rise x hx) (h.can x hx) (h.few x hx)
   have e : layS (P.map undS) x = some ((P ++ [x]).map undS) := by
     unfold layS
     rw [e1, if_pos rfl]
     have e3 : layB x.1.id (P.map undS ++ [(x.1, [])]) x.2 = some (P.map undS ++ [(x.1, x.2.map undr)]) := e2
     rw [e3]
     simp only
     rw [if_pos (by unfold risesL; exact decide_eq_true (rise_of_map.2 (h.rise x hx)))]
     simp [undS]
   simp only [layAll]
   rw [e]
   have := layAll_of T (P ++ [x]) (by rw [List.append_assoc]; exact h)
   rw [List.append_assoc] at this
   exact this
theorem good_goodL {A : List SB} (h : GoodSB A) : goodL A = true := by
 have := layAll_of A [] h
 unfold goodL
 rw [Bool.and_eq_true]
 refine ⟨?_, ?_⟩
 · show (layAll ([].map undS) A).isSome = true
   rw [this]; rfl
 · unfold risesL
   exact decide_eq_true (List.pairwise_map.2 h.ids)
end Go.Proofs.YtgljoledlhmhnaaGreatDoor
namespace Go.Proofs.YtgljoledlhmhnaaGreatDoor
open Go Gx
variable {w w' : World}
section
variable {P : Program} {sT e oT : TypeId} {sz bytes : Nat}
end
theorem ref20_May (s : Sv) (k : Sl) (w : World) : Ret Tryz.prog F.ref20_May #[.agg (s.c k).toArray] w (fun v w' => v = .bool (mayS s k) ∧ Ext w w') := by
 refine W.ref20_May_ok _ w _ ?_
 (delta W.ref20_May r8 nA Br r3 c9 r7 r4 r5 r1; dsimp only)
 refine nxVar (vs := s.c k) rfl fun w1 hv hx1 _ => Jn1 (fun n w' => w1 = w' ∧ n = if s.addr.six then 128 else 32) (fun q hq => ⟨_, (scell hv).2.1, fun h => hq _ _ ⟨rfl, by rw [h]; rfl⟩, fun h => hq _ _ ⟨rfl, by rw [h]; rfl⟩⟩) ?_
 rintro _ _ ⟨rfl, rfl⟩
 refine ⟨_, (scell hv).1, jnAnd (decide (s.id ≤ 65535)) (fun _ q hq => ⟨_, (scell hv).1, hq _ (.refl _ _)⟩) fun w10 hx10 => ?_⟩
 have hv10 := hv.ext hx10
 refine jnAnd s.addr.good (fun _ q hq => ⟨_, srd hv10, (ref12_Good s.addr w10).use ?_⟩) fun w17 hx17 => ?_
 · rintro _ w13 ⟨rfl, hx13⟩
   exact ⟨_, rfl, hq _ hx13⟩
 have hv17 := hv10.ext hx17
 refine jnAnd (decide (s.port > 0)) (fun _ q hq => ⟨_, (scell hv17).2.2.1, hq _ (.refl _ _)⟩) fun w21 hx21 => ?_
 have hv21 := hv17.ext hx21
 refine jnAnd ((s.proto == 6) || (s.proto == 17)) (fun _ q hq => ⟨_, (scell hv21).2.2.2.1, jnOr (s.proto == 17) (fun _ q hq => ⟨_, (scell hv21).2.2.2.1, hq _ (.refl _ _)⟩) fun w27 hx27 => hq _ hx27⟩) fun w29 hx29 => ?_
 have hv29 := hv21.ext hx29
 refine jnAnd (decide (s.bits ≥ 0)) (fun _ q hq => ⟨_, (scell hv29).2.2.2.2.1, hq _ (.refl _ _)⟩) fun w33 hx33 => ?_
 have hv33 := hv29.ext hx33
 refine jnAnd (decide (s.bits ≤ if s.addr.six then 128 else 32)) (fun _ q hq => ⟨_, (scell hv33).2.2.2.2.1, hq _ (.refl _ _)⟩) fun w37 hx37 => ?_
 have hv37 := hv33.ext hx37
 refine jnAnd (decide (s.lasts ≥ 1)) (fun _ q hq => ⟨_, (scell hv37).2.2.2.2.2.1, hq _ (.refl _ _)⟩) fun w41 hx41 => ?_
 have hv41 := hv37.ext hx41
 refine jnAnd (decide (s.lasts ≤ 1073741824)) (fun _ q hq => ⟨_, (scell hv41).2.2.2.2.2.1, hq _ (.refl _ _)⟩) fun w45 hx45 => ?_
 have hv45 := hv41.ext hx45
 have hX : Ext w w45 := Ext.trans hx1 (Ext.trans hx10 (Ext.trans hx17 (Ext.trans hx21 (Ext.trans hx29 (Ext.trans hx33 (Ext.trans hx37 (Ext.trans hx41 hx45)))))))
 exact jnAnd (((k.len : Nat) : Int) == 0) (fun _ q hq => ⟨k, (scell hv45).2.2.2.2.2.2, hq _ (.refl _ _)⟩) fun w49 hx49 => ⟨rfl, Ext.trans hX hx49⟩
theorem ref20_Can (s : Sv) (k : Sl) (b : Bk) (hp : 0 ≤ b.port) (w : World) : Ret Tryz.prog F.ref20_Can #[.agg (s.c k).toArray, .agg b.c.toArray] w (fun v w' => v = .bool (canB s b) ∧ Ext w w') := by
 refine W.ref20_Can_ok _ _ w _ ?_
 (delta W.ref20_Can r3 nA Br c9 r8 r7; dsimp only)
 refine nxVar (vs := s.c k) rfl fun w1 hs hx1 _ => nxVar (vs := b.c) rfl fun w2 hv hx2 _ => ?_
 have hs := hs.ext hx2
 refine ⟨_, (bcell hv).1, jnAnd (decide (b.id ≤ 65535)) (fun _ q hq => ⟨_, (bcell hv).1, hq _ (.refl _ _)⟩) fun w7 hx7 => ?_⟩
 have hv7 := hv.ext hx7
 refine jnAnd b.addr.good (fun _ q hq => ⟨_, brd hv7, (ref12_Good b.addr w7).use ?_⟩) fun w14 hx14 => ?_
 · rintro _ w13 ⟨rfl, hx13⟩
   exact ⟨_, rfl, hq _ hx13⟩
 have hv14 := hv7.ext hx14
 have hs14 := hs.ext (Ext.trans hx7 hx14)
 refine jnAnd (b.addr.six == s.addr.six) (fun _ q hq => ⟨_, (bcell hv14).2.1, _, (scell hs14).2.1, hq _ (.refl _ _)⟩) fun w19 hx19 => ?_
 have hv19 := hv14.ext hx19
 refine jnAnd (decide (b.port > 0)) (fun _ q hq => ⟨_, (bcell hv19).2.2.1, hq _ (.refl _ _)⟩) fun w23 hx23 => ?_
 have hv23 := hv19.ext hx23
 refine jnAnd (decide (b.weight ≥ 0)) (fun _ q hq => ⟨_, (bcell hv23).2.2.2.1, hq _ (.refl _ _)⟩) fun w27 hx27 => ?_
 have hv27 := hv23.ext hx27
 refine jnAnd (decide (b.weight ≤ 10)) (fun _ q hq => ⟨_, (bcell hv27).2.2.2.1, hq _ (.refl _ _)⟩) fun w31 hx31 => ?_
 have hv31 := hv27.ext hx31
 have hX : Ext w w31 := Ext.trans hx1 (Ext.trans hx2 (Ext.trans hx7 (Ext.trans hx14 (Ext.trans hx19 (Ext.trans hx23 (Ext.trans hx27 hx31))))))
 refine jnAnd (!b.drained) (fun _ q hq => ⟨_, (bcell hv31).2.2.2.2, hq _ (.refl _ _)⟩) fun w35 hx35 => ⟨?_, Ext.trans hX hx35⟩
 have e1 : decide (b.port > 0) = !(b.port == 0) := by
   rw [Bool.eq_iff_iff]; simp; omega
 rw [e1]
 unfold canB idOk weightOk
 simp only [Bool.and_assoc]
end Go.Proofs.YtgljoledlhmhnaaGreatDoor
