/- What is shown is read; the law's small living call. -/
import Derived.Test.YtcjpgabpihkcjaaGreatDoorAddrF
import Derived.Test.YtcjpgabpihkcjaaGreatDoorWl
namespace Go.Proofs.YtcjpgabpihkcjaaGreatDoor
open Go Gx

/-! ### Plain laws -/
theorem split_app {c : UInt8} : ∀ {l : List UInt8} (m : List UInt8), c ∉ l → splitB c (l ++ c :: m) = l :: splitB c m
  | [], m, _ => by simp [splitB]
  | b :: l, m, h => by
    have h1 : ¬ b = c := fun e => h (by simp [e])
    have ih := split_app (c := c) (l := l) m (fun e => h (by simp [e]))
    simp [splitB, h1, ih]
theorem split_one {c : UInt8} {l : List UInt8} (h : c ∉ l) : splitB c l = [l] := splitB_none (idxB_none.2 h)
theorem split_join {c : UInt8} : ∀ {ls : List (List UInt8)}, ls ≠ [] → (∀ l ∈ ls, c ∉ l) → splitB c (joinB c ls) = ls
  | [], h, _ => absurd rfl h
  | [l], _, h => split_one (h l (by simp))
  | l :: m :: ls, _, h => by
    rw [joinB, split_app _ (h l (by simp)), split_join (by simp) (fun x hx => h x (by simp [hx]))]

theorem dig_sign : ∀ d : Nat, d < 16 → (48 ≤ (dig d).toNat ∧ (dig d).toNat ≤ 57) ∨ (97 ≤ (dig d).toNat ∧ (dig d).toNat ≤ 102) := by decide +kernel
theorem numB_sign {b : Nat} (hb : 2 ≤ b ∧ b ≤ 16) (n : Nat) : ∀ c ∈ numB b n, (48 ≤ c.toNat ∧ c.toNat ≤ 57) ∨ (97 ≤ c.toNat ∧ c.toNat ≤ 102) := by
  induction n using Nat.strongRecOn with
  | ind n ih =>
    by_cases h : n < b
    · rw [numB_lt h]
      intro c hc
      rw [List.mem_singleton.1 hc]
      exact dig_sign n (by omega)
    · rw [numB_ge hb.1 (by omega)]
      intro c hc
      rcases List.mem_append.1 hc with hc | hc
      · exact ih (n / b) (Nat.div_lt_self (by omega) (by omega)) c hc
      · rw [List.mem_singleton.1 hc]
        exact dig_sign _ (by have := Nat.mod_lt n (show 0 < b by omega); omega)
theorem numB_no {b : Nat} (hb : 2 ≤ b ∧ b ≤ 16) (n : Nat) {c : UInt8} (hc : c = 46 ∨ c = 58 ∨ c = 47 ∨ c = 32 ∨ c = 45 ∨ c = 10) : c ∉ numB b n := by
  intro h
  have := numB_sign hb n c h
  rcases hc with rfl | rfl | rfl | rfl | rfl | rfl <;> simp at this

theorem numsGo_all (b k : Nat) (hb : 2 ≤ b ∧ b ≤ 36) : ∀ (ns : List Nat) (acc : List UInt8), (∀ n ∈ ns, n ≤ 2 ^ (8 * k) - 1) → numsGo b k acc (ns.map (numB b)) = acc ++ ns.flatMap fun n => beB n k
  | [], acc, _ => by simp [numsGo]
  | n :: ns, acc, h => by
    simp only [List.map_cons, numsGo, parseB_num b _ hb.1 hb.2 n (h n (by simp)), numsGo_all b k hb ns _ (fun m hm => h m (by simp [hm])), List.flatMap_cons, List.append_assoc]

theorem beB1 (c : UInt8) : beB c.toNat 1 = [c] := by simp [beB]
theorem beB2 (x y : UInt8) : beB (beN [x, y]) 2 = [x, y] := by
  have hx := UInt8.toNat_lt x
  have hy := UInt8.toNat_lt y
  have e : beN [x, y] = x.toNat * 256 + y.toNat := by simp [beN]
  simp only [beB, e, show List.range 2 = [0, 1] from rfl, List.map_cons, List.map_nil]
  have e1 : (x.toNat * 256 + y.toNat) / 256 ^ (2 - 1 - 0) % 256 = x.toNat := by
    show (x.toNat * 256 + y.toNat) / 256 % 256 = _; omega
  have e2 : (x.toNat * 256 + y.toNat) / 256 ^ (2 - 1 - 1) % 256 = y.toNat := by
    show (x.toNat * 256 + y.toNat) / 1 % 256 = _; omega
  rw [e1, e2]; simp

theorem mem_joinB {c : UInt8} {x : UInt8} : ∀ {ls : List (List UInt8)}, x ∈ joinB c ls → x = c ∨ ∃ l ∈ ls, x ∈ l
  | [], h => by simp [joinB] at h
  | [l], h => .inr ⟨l, by simp, h⟩
  | l :: m :: ls, h => by
    simp only [joinB, List.mem_append, List.mem_cons] at h
    rcases h with h | h | h
    · exact .inr ⟨l, by simp, h⟩
    · exact .inl h
    · rcases mem_joinB h with h | ⟨y, hy, h⟩
      · exact .inl h
      · exact .inr ⟨y, by simp [hy], h⟩

theorem good_drop {a : Ad} (hg : a.good = true) (h6 : a.six = false) : zeros 12 ++ a.b.drop 12 = a.b := by
  have : a.b.take 12 = zeros 12 := by simpa [Ad.good, h6] using hg
  rw [← this, List.take_append_drop]

theorem pairs_of (b : List UInt8) (h : b.length = 16) : ((List.range 8).map fun i => beN ((b.drop (2 * i)).take 2)).flatMap (fun n => beB n 2) = b := by
  obtain ⟨x0, x1, x2, x3, x4, x5, x6, x7, x8, x9, x10, x11, x12, x13, x14, x15, rfl⟩ := list16 b h
  show beB (beN [x0, x1]) 2 ++ (beB (beN [x2, x3]) 2 ++ (beB (beN [x4, x5]) 2 ++ (beB (beN [x6, x7]) 2 ++ (beB (beN [x8, x9]) 2 ++ (beB (beN [x10, x11]) 2 ++ (beB (beN [x12, x13]) 2 ++ (beB (beN [x14, x15]) 2 ++ []))))))) = _
  simp only [beB2]
  rfl

theorem cand_show {a : Ad} (hg : a.good = true) : candA (showA a) = some a := by
  unfold candA showA
  rw [if_pos hg]
  cases h6 : a.six
  · simp only [Bool.false_eq_true, if_false]
    have hraw : a.raw = a.b.drop 12 := by simp [Ad.raw, h6]
    have hrl : a.raw.length = 4 := by rw [a.raw_length, h6]; rfl
    have hno : (58 : UInt8) ∉ joinB 46 (a.raw.map fun c => numB 10 c.toNat) := by
      intro h
      rcases mem_joinB h with h | ⟨l, hl, h⟩
      · exact absurd h (by decide)
      · obtain ⟨c, _, rfl⟩ := List.mem_map.1 hl
        exact numB_no (by decide) _ (.inr (.inl rfl)) h
    rw [if_neg hno]
    have hs : numsB 46 10 1 (joinB 46 (a.raw.map fun c => numB 10 c.toNat)) = a.raw := by
      unfold numsB
      rw [split_join (by intro e; have := congrArg List.length e; simp [hrl] at this) (fun l hl => by
        obtain ⟨c, _, rfl⟩ := List.mem_map.1 hl
        exact numB_no (by decide) _ (.inl rfl))]
      have e : (a.raw.map fun c => numB 10 c.toNat) = (a.raw.map fun c => c.toNat).map (numB 10) := by simp
      rw [e, numsGo_all 10 1 (by decide) _ _ (fun n hn => by
        obtain ⟨c, _, rfl⟩ := List.mem_map.1 hn
        have := UInt8.toNat_lt c
        show _ ≤ 255; omega)]
      simp only [List.nil_append]
      have : ∀ l : List UInt8, (l.map fun c => c.toNat).flatMap (fun n => beB n 1) = l := by
        intro l
        induction l with
        | nil => rfl
        | cons c l ih => rw [List.map_cons, List.flatMap_cons, ih, beB1]; rfl
      exact this _
    rw [hs]
    unfold ofB
    rw [dif_pos hrl]
    congr 1
    exact Ad.ext' h6.symm (by show zeros 12 ++ a.raw = a.b; rw [hraw]; exact good_drop hg h6)
  · simp only [if_true]
    have hwl : a.words.length = 8 := by simp [Ad.words]
    have hyes : (58 : UInt8) ∈ joinB 58 a.words := by
      match hw : a.words, hwl with
      | l :: m :: ls, _ => simp [joinB]
    rw [if_pos hyes]
    have hs : numsB 58 16 2 (joinB 58 a.words) = a.b := by
      unfold numsB
      rw [split_join (by intro e; rw [e] at hwl; simp at hwl) (fun l hl => by
        obtain ⟨i, _, rfl⟩ := List.mem_map.1 hl
        exact numB_no (by decide) _ (.inr (.inl rfl)))]
      have e : a.words = ((List.range 8).map fun i => beN ((a.b.drop (2 * i)).take 2)).map (numB 16) := by simp [Ad.words]
      rw [e, numsGo_all 16 2 (by decide) _ _ (fun n hn => by
        obtain ⟨i, hi, rfl⟩ := List.mem_map.1 hn
        have hi := List.mem_range.1 hi
        have := beN_lt 2 ((a.b.drop (2 * i)).take 2) (by simp [a.h]; omega)
        have : beN ((a.b.drop (2 * i)).take 2) < 65536 := this
        show _ ≤ 65535; omega), List.nil_append, pairs_of a.b a.h]
    rw [hs]
    unfold ofB
    rw [dif_neg (by rw [a.h]; decide), dif_pos a.h]
    congr 1
    exact Ad.ext' h6.symm rfl

theorem ofB_good {l : List UInt8} {a : Ad} (h : ofB l = some a) : a.good = true := by
  unfold ofB at h
  split at h
  · cases h; simp [ad4, Ad.good, zeros]
  · split at h
    · cases h; simp [Ad.good]
    · cases h

/-- A text is read as an address just where that address is shown so. -/
theorem parseA_iff {l : List UInt8} {a : Ad} : parseA l = some a ↔ a.good = true ∧ showA a = l := by
  constructor
  · intro h
    unfold parseA at h
    split at h
    · rename_i b hb
      split at h
      · rename_i h2
        cases h
        refine ⟨?_, h2⟩
        unfold candA at hb
        split at hb <;> exact ofB_good hb
      · cases h
    · cases h
  · rintro ⟨hg, rfl⟩
    unfold parseA
    rw [cand_show hg]
    simp

/-! ### The public functions -/
theorem addr_ShowPrefix (p : Pf) (w : World) (ht : Tab2 w) : Ret Tryz.prog F.addr_ShowPrefix #[.agg p.c.toArray] w (fun v w' => v = .string (S (showP p)) ∧ Ext w w') := by
  refine W.addr_ShowPrefix_ok _ w _ ?_
  unfold W.addr_ShowPrefix
  refine nxVar (vs := p.c) rfl fun w1 hv hx1 hz1 => ⟨p.c, hv.rd p.c_length, (addr_showPrefix p w1 (ht.ext hx1)).use ?_⟩
  rintro _ w2 ⟨rfl, hx2⟩
  exact ⟨_, rfl, rfl, Ext.trans hx1 hx2⟩
/-- "10.0.0.255" -/
def ten : List UInt8 := [49, 48, 46, 48, 46, 48, 46, 50, 53, 53]
theorem show_ten : showA (ad4 [10, 0, 0, 255] rfl) = ten := by
  have e0 : numB 10 0 = [48] := by rw [numB_lt (by omega)]; rfl
  have e1 : numB 10 10 = [49, 48] := by rw [numB_ge (by omega) (by omega), numB_lt (by omega)]; rfl
  have e2 : numB 10 255 = [50, 53, 53] := by rw [numB_ge (by omega) (by omega), numB_ge (by omega) (by omega), numB_lt (by omega)]; rfl
  have hg : (ad4 [10, 0, 0, 255] rfl).good = true := by decide
  have hr : (ad4 [10, 0, 0, 255] rfl).raw = [10, 0, 0, 255] := by decide
  unfold showA
  rw [if_pos hg, hr]
  show joinB 46 [numB 10 10, numB 10 0, numB 10 0, numB 10 255] = _
  rw [e0, e1, e2]; rfl

/-! ### The laws that need no more -/
end Go.Proofs.YtcjpgabpihkcjaaGreatDoor
