/- Numerals, read: ParseUint. -/
import Derived.Test.YtcjpgabpihkcjaaGreatDoorLibC
import Derived.Lib.ConvBytes
namespace Go.Proofs.YtcjpgabpihkcjaaGreatDoor
open Go Gx

theorem rdCells_of {w : World} {A : Addr} : ∀ (vs : List Value) (i : Nat), (∀ j v, vs[j]? = some v → w.cell? (A.add (i + j)) = some v) → rdCells w A i vs.length = some vs
  | [], _, _ => rfl
  | v :: vs, i, h => by
    have h0 := h 0 v rfl
    have ih := rdCells_of vs (i + 1) (fun j u hj => by rw [show i + 1 + j = i + (j + 1) by omega]; exact h (j + 1) u (by simpa using hj))
    rw [Nat.add_zero] at h0
    simp [rdCells, h0, ih]

/-- A text's bytes as cells. -/
def u8s (l : List UInt8) : List Value := l.map fun b => Value.int .u8 ((b.toNat : Nat) : Int)
theorem u8s_length (l : List UInt8) : (u8s l).length = l.length := by simp [u8s]
theorem u8s_get {l : List UInt8} {i : Nat} (h : i < l.length) : (u8s l)[i]? = some (.int .u8 ((l[i].toNat : Nat) : Int)) := by simp [u8s, h]

theorem conv_strB {src dst : TypeId} {w : World} (l : List UInt8) (hs : Tryz.prog.underlying src = some .string) (hd : Tryz.prog.underlying dst = some (.slice Ty.uint8)) :
    ∃ (s : Sl) (w' : World), Sem.run Tryz.prog (convert src dst (.string (S l))) w = .ok (.slice s.a s.len s.cap) w' ∧ s.len = l.length ∧ Src 1 w' s (u8s l) ∧ Ext w w' := by
  have h := Go.Lib.run_convert_string_bytes (P := Tryz.prog) w src dst Ty.uint8 (S l) hs hd (by kernel_rfl)
  refine ⟨⟨some ⟨w.heap.size, 0, none⟩, (S l).size, grownCap w (S l).size 0 Ty.uint8⟩, _, h, rfl, ⟨?_, (fun h => by cases h), fun a ha => ?_⟩, ?_⟩
  · rw [u8s_length, Nat.mul_one]; rfl
  · cases ha
    have := rdCells_of (w := Lib.bytesWorld w Ty.uint8 (S l)) (A := ⟨w.heap.size, 0, none⟩) (u8s l) 0 (fun j v hj => by
      rw [add_mk]
      have hj' : j < l.length := by have := (List.getElem?_eq_some_iff.1 hj).1; rwa [u8s_length] at this
      rw [u8s_get hj'] at hj
      have := Lib.bytesWorld_cell w Ty.uint8 (S l) j hj'
      simp only [Nat.zero_add]
      rw [this, ← hj]
      simp [S, List.getD, hj'])
    rw [u8s_length] at this
    rw [Nat.mul_one]
    exact this
  · refine ⟨?_, ?_, ?_, ?_, fun k hk _ => Lib.bytesWorld_at_old w _ _ k hk⟩
    · simp [Lib.bytesWorld, World.freeze, World.alloc, World.drew, -World.alloc_eq, -World.drew_eq]
    · simp [Lib.bytesWorld, World.freeze, World.alloc, World.drew, -World.alloc_eq, -World.drew_eq]
    · simp [Lib.bytesWorld, World.freeze, World.alloc, World.drew, -World.alloc_eq, -World.drew_eq]
    · rw [Lib.bytesWorld_size]; omega

/-! ### A digit, and a numeral's value -/
def dv (c : Nat) : Option Nat := if 48 ≤ c ∧ c ≤ 57 then some (c - 48) else if 97 ≤ c ||| 32 ∧ c ||| 32 ≤ 122 then some ((c ||| 32) - 97 + 10) else none
def pStep (b mx n : Nat) (c : UInt8) : Option Nat := match dv c.toNat with
  | some d => if d < b ∧ n * b + d ≤ mx then some (n * b + d) else none
  | none => none
def parseFrom (b mx : Nat) : Nat → List UInt8 → Option Nat
  | n, [] => some n
  | n, c :: cs => match pStep b mx n c with
    | some m => parseFrom b mx m cs
    | none => none
/-- The number that a text spells, if it is at most mx. -/
def parseB (b mx : Nat) (l : List UInt8) : Option Nat := if l = [] then none else parseFrom b mx 0 l

theorem parseFrom_append (b mx : Nat) : ∀ (l m : List UInt8) (n : Nat), parseFrom b mx n (l ++ m) = (parseFrom b mx n l).bind (fun k => parseFrom b mx k m)
  | [], _, _ => rfl
  | c :: l, m, n => by
    simp only [List.cons_append, parseFrom]
    cases pStep b mx n c with
    | none => rfl
    | some k => exact parseFrom_append b mx l m k

theorem dv_dig : ∀ d : Nat, d < 36 → dv (dig d).toNat = some d := by decide +kernel
theorem dv_lt : ∀ c : Nat, c < 256 → ∀ d, dv c = some d → d < 36 := by
  intro c hc d h
  unfold dv at h
  split at h
  · cases h; omega
  · split at h
    · cases h; omega
    · cases h

theorem parse_num (b mx : Nat) (hb : 2 ≤ b) (hb2 : b ≤ 36) (n : Nat) (hn : n ≤ mx) : parseFrom b mx 0 (numB b n) = some n := by
  induction n using Nat.strongRecOn with
  | ind n ih =>
    by_cases h : n < b
    · rw [numB_lt h]
      simp [parseFrom, pStep, dv_dig n (by omega), h, hn]
    · rw [numB_ge hb (by omega), parseFrom_append, ih (n / b) (Nat.div_lt_self (by omega) (by omega)) (Nat.le_trans (Nat.div_le_self _ _) hn)]
      have hm : n % b < b := Nat.mod_lt _ (by omega)
      have he : n / b * b + n % b = n := by rw [Nat.mul_comm]; exact Nat.div_add_mod n b
      simp [parseFrom, pStep, dv_dig (n % b) (by omega), hm, he, hn]
theorem parseB_num (b mx : Nat) (hb : 2 ≤ b) (hb2 : b ≤ 36) (n : Nat) (hn : n ≤ mx) : parseB b mx (numB b n) = some n := by
  unfold parseB
  rw [if_neg (numB_ne b n)]
  exact parse_num b mx hb hb2 n hn
theorem parseFrom_le {b mx : Nat} : ∀ {l : List UInt8} {n k : Nat}, n ≤ mx → parseFrom b mx n l = some k → k ≤ mx
  | [], n, k, h, e => by cases e; exact h
  | c :: l, n, k, h, e => by
    simp only [parseFrom] at e
    cases hp : pStep b mx n c with
    | none => rw [hp] at e; cases e
    | some m =>
      rw [hp] at e
      refine parseFrom_le ?_ e
      unfold pStep at hp
      split at hp
      · split at hp
        · rename_i h2; cases hp; exact h2.2
        · cases hp
      · cases hp
theorem parseB_le {b mx : Nat} {l : List UInt8} {k : Nat} (e : parseB b mx l = some k) : k ≤ mx := by
  unfold parseB at e
  split at e
  · cases e
  · exact parseFrom_le (Nat.zero_le _) e

theorem lower (c : Nat) (hc : c < 256) (w : World) : Ret Tryz.prog F.internal_strconv_lower #[.int .u8 c] w (fun v w' => v = .int .u8 ((c ||| 32 : Nat) : Int) ∧ w = w') := by
  refine W.internal_strconv_lower_ok c w _ ?_
  unfold W.internal_strconv_lower
  exact ⟨by rw [show (32 : Int) = ((32 : Nat) : Int) from rfl, bOr8 hc (by decide)], rfl⟩

/-- What the library's ParseUint tells: the number and no error, or an error of its own. -/
def PU (r : Option Nat) (v : Value) : Prop := match r with
  | some n => v = .tuple #[.int .u64 n, .nilIface]
  | none => ∃ m c : Int, v = .tuple #[.int .u64 m, .iface Ty.strconv_Error (.int .i64 c)] ∧ (c = 1 ∨ c = 2)

theorem ParseUint_in (l : List UInt8) (b k : Nat) (hl : l.length ≤ 1000000000000) (hb : b = 10 ∨ b = 16) (z : Nat) (hz : z = k ∨ z = 0 ∧ k = 64) (hk : 1 ≤ k ∧ k ≤ 64) (w : World) :
    Ret Tryz.prog F.internal_strconv_ParseUint #[.string (S l), .int .i64 b, .int .i64 z] w (fun v w' => PU (parseB b (2 ^ k - 1) l) v ∧ Ext w w') := by
  refine W.internal_strconv_ParseUint_ok (S l) b z w _ ?_
  unfold W.internal_strconv_ParseUint
  rw [S_toList, show ByteArray.toList (ByteArray.mk #[]) = [] from ByteArray.toList_mk []]
  unfold parseB
  refine ⟨fun h => ?_, fun h => ?_⟩
  · have h : l = [] := by simpa using h
    rw [if_pos h]
    exact ⟨⟨0, 2, rfl, .inr rfl⟩, .refl _ _⟩
  have h : l ≠ [] := by simpa using h
  rw [if_neg h]
  have hmx : 1 ≤ 2 ^ k := Nat.one_le_two_pow
  have hmx2 : 2 ^ k ≤ 2 ^ 64 := Nat.pow_le_pow_right (by omega) hk.2
  have hmx2 : 2 ^ k ≤ 18446744073709551616 := hmx2
  refine Jn2 (fun s n w1 => s = S l ∧ n = (b : Int) ∧ w = w1) (fun q hq => ⟨fun _ => hq _ _ _ ⟨rfl, rfl, rfl⟩, fun h => by rcases hb with rfl | rfl <;> simp at h⟩) ?_
  rintro _ _ _ ⟨rfl, rfl, rfl⟩
  refine Jn1 (fun n w1 => n = (k : Int) ∧ w = w1) (fun q hq => ⟨fun h => hq _ _ ⟨(by have h := eq_of_beq h; omega), rfl⟩, fun h0 => ⟨fun h => ?_, fun _ => hq _ _ ⟨(by have h0 := ne_of_beq_false h0; omega), rfl⟩⟩⟩) ?_
  · simp only [Bool.or_eq_true, decide_eq_true_eq] at h; omega
  rintro _ _ ⟨rfl, rfl⟩
  refine Jn1 (fun n w1 => (∃ cut : Nat, n = cut ∧ cut * b ≥ 18446744073709551616 ∧ ∀ x, x < cut → x * b < 18446744073709551616) ∧ w = w1) (fun q hq => ⟨fun h => ?_, fun h => ⟨fun h2 => ?_, fun h2 => ?_⟩⟩) ?_
  · obtain rfl : b = 10 := by have h := eq_of_beq h; omega
    exact hq _ _ ⟨⟨1844674407370955162, rfl, by decide, fun x hx => by omega⟩, rfl⟩
  · obtain rfl : b = 16 := by have h := eq_of_beq h2; omega
    exact hq _ _ ⟨⟨1152921504606846976, rfl, by decide, fun x hx => by omega⟩, rfl⟩
  · rcases hb with rfl | rfl
    · simp at h
    · simp at h2
  rintro _ _ ⟨⟨cut, rfl, hc1, hc2⟩, rfl⟩
  rw [wr64 (n := (k : Int)) (by omega) (by omega)]
  have emx : IntKind.wrap .u64 ((IntKind.wrap .u64 (1 * 2 ^ (min (Int.toNat (k : Int)) 64))) - 1) = ((2 ^ k - 1 : Nat) : Int) := by
    rw [show min (Int.toNat (k : Int)) 64 = k by simp; omega]
    have e1 : (1 * 2 ^ k : Int) = ((2 ^ k : Nat) : Int) := by simp
    rw [e1]
    rcases Nat.lt_or_ge (2 ^ k) 18446744073709551616 with hlt | hge
    · rw [wr64 (n := ((2 ^ k : Nat) : Int)) (by omega) (by omega), wr64 (by omega) (by omega)]; omega
    · have : 2 ^ k = 18446744073709551616 := by omega
      rw [this]; decide
  rw [emx]
  have hb8 : IntKind.wrap .u8 (b : Int) = b := by rw [wr8 (by omega) (by omega)]
  have hb64 : IntKind.wrap .u64 (b : Int) = b := by rw [wr64 (by omega) (by omega)]
  rw [hb8, hb64]
  obtain ⟨s, w2, hrun, hsl, hsrc, hx⟩ := conv_strB (src := Ty.string) (dst := Ty.Sl_uint8) (w := w) l (by kernel_rfl) (by kernel_rfl)
  refine ⟨by omega, s, w2, hrun, fun u n i w' => w2 = w' ∧ u = false ∧ ∃ m j : Nat, n = m ∧ i = j ∧ j ≤ l.length ∧ m ≤ 2 ^ k - 1 ∧ parseFrom b (2 ^ k - 1) 0 l = parseFrom b (2 ^ k - 1) m (l.drop j),
    fun _ _ i _ => (l.length - i).toNat, ⟨rfl, rfl, 0, 0, rfl, rfl, by omega, by omega, rfl⟩, ?_⟩
  rintro _ _ _ _ ⟨rfl, rfl, m, j, rfl, rfl, hj, hm, hP⟩
  refine ⟨fun hlt => ?_, fun hge => ?_⟩
  · have hlt : j < l.length := by have := of_decide_eq_true hlt; omega
    obtain ⟨A, hA, hb1, hcell⟩ := hsrc.at (u8s_get hlt)
    have hdrop : l.drop j = l[j] :: l.drop (j + 1) := List.drop_eq_getElem_cons hlt
    rw [hdrop] at hP
    have hc256 : (l[j]).toNat < 256 := UInt8.toNat_lt _
    generalize hc : (l[j]).toNat = c at *
    refine Jn2 (fun u n w' => u = false ∧ w2 = w' ∧ ∃ m' : Nat, n = m' ∧ pStep b (2 ^ k - 1) m l[j] = some m') (fun q hq => ⟨A, hA, hb1, _, hcell, ?_⟩) ?_
    · have hfail : pStep b (2 ^ k - 1) m l[j] = none → ∀ z c : Int, (c = 1 ∨ c = 2) → PU (parseFrom b (2 ^ k - 1) 0 l) (.tuple #[.int .u64 z, .iface Ty.strconv_Error (.int .i64 c)]) ∧ Ext w w2 := by
        intro hn z c' hc'
        have : parseFrom b (2 ^ k - 1) 0 l = none := by rw [hP]; simp [parseFrom, hn]
        rw [this]
        exact ⟨⟨z, c', rfl, hc'⟩, hx⟩
      refine Jn2 (fun u n w' => u = false ∧ w2 = w' ∧ ∃ d : Nat, n = d ∧ dv c = some d) (fun q2 hq2 => ⟨fun h => ?_, fun _ => ⟨fun h => ?_, fun h => ?_⟩⟩) ?_
      · simp only [Bool.and_eq_true, beq_iff_eq] at h; omega
      · have h : 48 ≤ c ∧ c ≤ 57 := by simp only [Bool.and_eq_true, decide_eq_true_eq] at h; omega
        exact hq2 _ _ _ ⟨rfl, rfl, c - 48, by rw [wr8 (by omega) (by omega)]; omega, by simp [dv, h]⟩
      · have h : ¬ (48 ≤ c ∧ c ≤ 57) := by
          intro h'
          simp only [Bool.and_eq_false_iff, decide_eq_false_iff_not] at h
          omega
        have hL : c ||| 32 < 256 := Nat.or_lt_two_pow (n := 8) hc256 (by decide)
        refine (lower c hc256 w2).use ?_
        rintro _ _ ⟨rfl, rfl⟩
        refine ⟨_, rfl, Jn1 (fun u w' => w2 = w' ∧ u = decide (97 ≤ c ||| 32 ∧ c ||| 32 ≤ 122)) (fun q3 hq3 => ⟨fun h1 => (lower c hc256 w2).use ?_, fun h1 => hq3 _ _ ⟨rfl, ?_⟩⟩) ?_⟩
        · rintro _ _ ⟨rfl, rfl⟩
          have h1 := of_decide_eq_true h1
          refine ⟨_, rfl, hq3 _ _ ⟨rfl, ?_⟩⟩
          rw [decide_eq_decide]
          omega
        · have h1 := of_decide_eq_false h1
          symm
          rw [decide_eq_false_iff_not]
          omega
        rintro _ _ ⟨rfl, rfl⟩
        refine ⟨fun h2 => ?_, fun h2 => ?_⟩
        · have h2 := of_decide_eq_true h2
          refine (lower c hc256 w2).use ?_
          rintro _ _ ⟨rfl, rfl⟩
          exact ⟨_, rfl, hq2 _ _ _ ⟨rfl, rfl, (c ||| 32) - 97 + 10, by rw [wr8 (n := ((c ||| 32 : Nat) : Int) - 97) (by omega) (by omega), wr8 (by omega) (by omega)]; omega, by simp [dv, h, h2]⟩⟩
        · have h2 := of_decide_eq_false h2
          exact hfail (by simp [pStep, hc, dv, h, h2]) _ _ (.inr rfl)
      rintro _ _ _ ⟨rfl, rfl, d, rfl, hd⟩
      have hd36 := dv_lt c hc256 d hd
      refine ⟨fun h => ?_, fun h => ⟨fun h2 => ?_, fun h2 => ?_⟩⟩
      · have h := of_decide_eq_true h
        exact hfail (by simp [pStep, hc, hd, show ¬ d < b by omega]) _ _ (.inr rfl)
      · have h := of_decide_eq_false h
        have h2 := of_decide_eq_true h2
        refine hfail ?_ _ _ (.inl rfl)
        have h3 : cut * b ≤ m * b := Nat.mul_le_mul_right _ (by omega)
        simp [pStep, hc, hd, show ¬ m * b + d ≤ 2 ^ k - 1 by omega]
      · have h := of_decide_eq_false h
        have h2 := of_decide_eq_false h2
        have h3 := hc2 m (by omega)
        have e1 : (m : Int) * (b : Int) = ((m * b : Nat) : Int) := by simp
        rw [wr64 (n := (d : Int)) (by omega) (by omega), e1, wr64 (n := ((m * b : Nat) : Int)) (by omega) (by omega), wr64m]
        refine ⟨fun h4 => ?_, fun h4 => ?_⟩
        · refine hfail ?_ _ _ (.inl rfl)
          simp only [Bool.or_eq_true, decide_eq_true_eq] at h4
          simp [pStep, hc, hd, show ¬ m * b + d ≤ 2 ^ k - 1 by omega]
        · simp only [Bool.or_eq_false_iff, decide_eq_false_iff_not] at h4
          exact hq _ _ _ ⟨rfl, rfl, m * b + d, by omega, by simp [pStep, hc, hd, show d < b by omega, show m * b + d ≤ 2 ^ k - 1 by omega]⟩
    rintro _ _ _ ⟨rfl, rfl, m', rfl, hstep⟩
    rw [wrapi (n := (j : Int) + 1) (by omega) (by have := hsl; have := hlt; omega)]
    refine ⟨⟨rfl, rfl, m', j + 1, rfl, by omega, by omega, ?_, by rw [hP]; simp [parseFrom, hstep]⟩, ?_⟩
    · unfold pStep at hstep
      split at hstep
      · split at hstep
        · rename_i h2; cases hstep; exact h2.2
        · cases hstep
      · cases hstep
    · show ((l.length : Int) - ((j : Int) + 1)).toNat < ((l.length : Int) - (j : Int)).toNat
      omega
  · have hge : j = l.length := by have := of_decide_eq_false hge; omega
    subst hge
    refine Jn1 (fun u w' => u = false ∧ w2 = w') (fun q hq => ⟨fun h => by simp at h, fun _ => hq _ _ ⟨rfl, rfl⟩⟩) ?_
    rintro _ _ ⟨rfl, rfl⟩
    refine ⟨fun h => by simp at h, fun _ => ⟨?_, hx⟩⟩
    rw [hP, List.drop_length]
    rfl

end Go.Proofs.YtcjpgabpihkcjaaGreatDoor
