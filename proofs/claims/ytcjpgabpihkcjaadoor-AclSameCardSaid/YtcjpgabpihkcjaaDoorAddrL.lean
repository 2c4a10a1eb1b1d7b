/- ParsePrefix, the program's and the reference's. -/
import Derived.Test.YtcjpgabpihkcjaaDoorAddrK
namespace Go.Proofs.YtcjpgabpihkcjaaDoor
open Go Gx

def numP (l : List UInt8) : Nat := l.foldl (nStep 10 1000) 0
/-- A text's prefix. -/
def parseP (l : List UInt8) : Option Pf := match parseA (cutB 47 l).1 with
  | some x => if showP ⟨x, (numP (cutB 47 l).2.1 : Nat)⟩ = l then some ⟨x, (numP (cutB 47 l).2.1 : Nat)⟩ else none
  | none => none
theorem numP_lt (l : List UInt8) : numP l < 1000 := by
  unfold numP
  have h : ∀ (l : List UInt8) (n : Nat), n < 1000 → l.foldl (nStep 10 1000) n < 1000 := by
    intro l
    induction l with
    | nil => intro n h; exact h
    | cons c l ih => intro n h; exact ih _ (nStep_lt (by decide) h)
  exact h l 0 (by decide)
theorem idxB_app {c : UInt8} : ∀ {l : List UInt8} (m : List UInt8), c ∉ l → idxB c (l ++ c :: m) = some l.length
  | [], m, _ => by simp [idxB]
  | b :: l, m, h => by
    simp only [List.mem_cons, not_or] at h
    simp only [List.cons_append, idxB]
    rw [if_neg (fun e => h.1 e.symm), idxB_app m h.2]
    rfl
theorem cut_app {c : UInt8} {l : List UInt8} (m : List UInt8) (h : c ∉ l) : cutB c (l ++ c :: m) = (l, m, true) := by
  unfold cutB
  rw [idxB_app m h]
  simp
theorem show_no47 (a : Ad) : (47 : UInt8) ∉ showA a := by
  unfold showA
  split
  · split
    · intro h
      rcases mem_joinB h with h | ⟨l, hl, h⟩
      · exact absurd h (by decide)
      · obtain ⟨i, _, rfl⟩ := List.mem_map.1 hl
        exact numB_no (by decide) _ (.inr (.inr (.inl rfl))) h
    · intro h
      rcases mem_joinB h with h | ⟨l, hl, h⟩
      · exact absurd h (by decide)
      · obtain ⟨c, _, rfl⟩ := List.mem_map.1 hl
        exact numB_no (by decide) _ (.inr (.inr (.inl rfl))) h
  · intro h; cases h
theorem parseA_nil : parseA [] = none := by decide +kernel
theorem showP_ne {p : Pf} (h : showP p ≠ []) : maskP p.addr p.bits = some p ∧ showP p = showA p.addr ++ 47 :: numB 10 p.bits.toNat ∧ 0 ≤ p.bits ∧ p.bits ≤ 128 ∧ p.addr.good = true := by
  unfold showP at h ⊢
  split at h
  · rename_i h2
    rw [if_pos h2]
    have := maskP_bits h2
    exact ⟨h2, rfl, this⟩
  · exact absurd rfl h
theorem cut_ne {l : List UInt8} {x : Ad} (h : parseA (cutB 47 l).1 = some x) : l ≠ [] := by
  rintro rfl
  rw [show (cutB 47 ([] : List UInt8)).1 = [] from rfl, parseA_nil] at h
  cases h
theorem parseP_some {l : List UInt8} {x : Ad} {m : Int} (h : parseA (cutB 47 l).1 = some x) (hs : showP ⟨x, m⟩ = l) : parseP l = some ⟨x, m⟩ ∧ cutB 47 l = (showA x, numB 10 m.toNat, true) ∧ 0 ≤ m ∧ m ≤ 128 := by
  have hne := cut_ne h
  rw [← hs] at hne
  obtain ⟨_, h2, h3, h4, _⟩ := showP_ne hne
  simp only at h2 h3 h4
  have hc : cutB 47 l = (showA x, numB 10 m.toNat, true) := by rw [← hs, h2, cut_app _ (show_no47 x)]
  refine ⟨?_, hc, h3, h4⟩
  unfold parseP
  rw [h]
  simp only
  have hn : ((numP (cutB 47 l).2.1 : Nat) : Int) = m := by
    rw [hc]
    show ((numP (numB 10 m.toNat) : Nat) : Int) = m
    unfold numP
    rw [nStep_num 10 1000 (by decide) _ (by omega)]
    omega
  rw [hn, if_pos hs]
theorem parseP_of {l : List UInt8} {p : Pf} (h : parseP l = some p) : parseA (cutB 47 l).1 = some p.addr ∧ showP p = l := by
  unfold parseP at h
  cases hp : parseA (cutB 47 l).1 with
  | none => rw [hp] at h; cases h
  | some x =>
    rw [hp] at h
    simp only at h
    split at h
    · rename_i h2; cases h; exact ⟨rfl, h2⟩
    · cases h
theorem parseP_show {p : Pf} (h : showP p ≠ []) : parseP (showP p) = some p := by
  obtain ⟨_, h2, _, _, hg⟩ := showP_ne h
  refine (parseP_some (x := p.addr) (m := p.bits) ?_ rfl).1
  rw [h2, cut_app _ (show_no47 _)]
  exact parseA_iff.2 ⟨hg, rfl⟩
theorem parseP_nil : parseP [] = none := by
  unfold parseP
  rw [show (cutB 47 ([] : List UInt8)).1 = [] from rfl, parseA_nil]
theorem cut_len (l : List UInt8) : (cutB 47 l).1.length ≤ l.length ∧ (cutB 47 l).2.1.length ≤ l.length := by
  unfold cutB
  split
  · simp; omega
  · simp

theorem addr_ParsePrefix (l : List UInt8) (hl : l.length ≤ 10000) (w : World) (ht : Tabs w) : Ret Tryd.prog F.addr_ParsePrefix #[.string (S l)] w (fun v w' => v = .tuple #[.agg ((parseP l).getD Pf.zero).c.toArray, .bool (parseP l).isSome] ∧ Ext w w') := by
  refine W.addr_ParsePrefix_ok (S l) w _ ?_
  unfold W.addr_ParsePrefix
  have hcl := cut_len l
  refine nxVar (vs := Pf.zero.c) rfl fun w1 hr hx1 hz1 => (Cut1 l 47 (by omega) w1).use ?_
  rintro _ w2 ⟨rfl, hx2⟩
  have hX2 := Ext.trans hx1 hx2
  refine ⟨_, _, _, rfl, (addr_parse (cutB 47 l).1 (by omega) w2 (ht.ext hX2)).use ?_⟩
  rintro _ w7 ⟨rfl, hx7⟩
  have hX7 := Ext.trans hX2 hx7
  have hr7 := (hr.ext hx2).ext hx7
  obtain ⟨x, hx⟩ : ∃ x, x = (parseA (cutB 47 l).1).getD Ad.zero := ⟨_, rfl⟩
  rw [← hx]
  refine ⟨_, _, rfl, nxVar (vs := Ad.zero.c) rfl fun w11 ha hx11 hz11 => ⟨ha.storeOk (by simp [Ad.c_length]) (Ad.plain _), by simp [Ad.c_length], nxPut ha (us := x.c) (by simp [Ad.c_length]) rfl fun w12 ha12 hc12 hz12 => ?_⟩⟩
  have hX12 : Ext w w12 := Ext.of_chg (Ext.trans hX7 hx11) hc12 hX7.size
  have hr12 := (hr7.ext hx11).chg hc12 (by have := hr7.lt; omega)
  refine (Atoi (cutB 47 l).2.1 (by omega) w12 (ht.ext hX12).errs).use ?_
  rintro _ w13 ⟨⟨m, e, rfl, he, hat⟩, hx13⟩
  have hX13 := Ext.trans hX12 hx13
  have hr13 := hr12.ext hx13
  refine ⟨m, e, rfl, _, (ha12.ext hx13).rd (Ad.c_length _), _, mkPf _ _ m, nxVar (vs := Pf.zero.c) rfl fun w19 hp hx19 hz19 => ⟨hp.storeOk (by simp [Pf.c_length]) (Pf.plain _), by simp [Pf.c_length], nxPut hp (us := (Pf.mk x m).c) (by simp [Pf.c_length]) rfl fun w20 hp20 hc20 hz20 => ?_⟩⟩
  have hX20 : Ext w w20 := Ext.of_chg (Ext.trans hX13 hx19) hc20 hX13.size
  have hr20 := (hr13.ext hx19).chg hc20 (by have := hr13.lt; omega)
  refine Jn1 (fun b w' => w20 = w' ∧ (b = true → parseP l = none) ∧ (b = false → parseA (cutB 47 l).1 = some x)) (fun q hq => ⟨fun h => hq _ _ ⟨rfl, fun _ => ?_, fun h => by cases h⟩, fun h => ?_⟩) ?_
  · cases hp : parseP l with
    | none => rfl
    | some p => rw [(parseP_of hp).1] at h; cases h
  · have hx : parseA (cutB 47 l).1 = some x := by
      cases hp : parseA (cutB 47 l).1 with
      | none => rw [hp] at h; cases h
      | some y => rw [hp] at hx; rw [hx]; rfl
    rcases he with rfl | ⟨t, y, rfl⟩
    · exact ⟨true, rfl, hq _ _ ⟨rfl, fun h => (by cases h), fun _ => hx⟩⟩
    · refine ⟨false, rfl, hq _ _ ⟨rfl, fun _ => ?_, fun h => (by cases h)⟩⟩
      cases hp : parseP l with
      | none => rfl
      | some p =>
        obtain ⟨h1, h2⟩ := parseP_of hp
        obtain ⟨_, hc, h3, h4⟩ := parseP_some h1 h2
        have := (hat p.bits.toNat (by omega) (by rw [hc])).2
        cases this
  rintro b23 _ ⟨rfl, hb1, hb2⟩
  refine Jn1 (fun b w' => Ext w20 w' ∧ (b = true → parseP l = none) ∧ (b = false → parseP l = some ⟨x, m⟩)) (fun q hq => ⟨fun h => hq _ _ ⟨.refl _ _, fun _ => hb1 h, fun h => by cases h⟩, fun h => ?_⟩) ?_
  · have hx := hb2 h
    refine ⟨_, hp20.rd (Pf.c_length _), (addr_showPrefix ⟨x, m⟩ w20 (ht.ext hX20).tab).use ?_⟩
    rintro _ w27 ⟨rfl, hx27⟩
    refine ⟨_, rfl, hq _ _ ⟨hx27, fun h => ?_, fun h => ?_⟩⟩
    · have hne : showP ⟨x, m⟩ ≠ l := by intro e; rw [S_beq, e] at h; simp at h
      cases hp : parseP l with
      | none => rfl
      | some p =>
        obtain ⟨h1, h2⟩ := parseP_of hp
        obtain ⟨_, hc, h3, h4⟩ := parseP_some h1 h2
        have hm := (hat p.bits.toNat (by omega) (by rw [hc])).1
        rw [hx] at h1
        exfalso
        apply hne
        rw [← h2]
        congr 1
        cases h1
        rw [show m = p.bits by omega]
    · rw [S_beq] at h
      exact (parseP_some hx (by simpa using h)).1
  rintro b30 w31 ⟨hx31, hb3, hb4⟩
  have hX31 := Ext.trans hX20 hx31
  have hr31 := hr20.ext hx31
  refine ⟨fun h => ?_, fun h => ?_⟩
  · rw [hb3 h]
    exact ⟨_, mkPf0 _, hr31.storeOk rfl (Pf.plain _), rfl, nxPut hr31 (us := Pf.zero.c) rfl rfl fun w33 hr33 hc33 _ => ⟨_, hr33.rd (Pf.c_length _), rfl, Ext.of_chg hX31 hc33 (Nat.le_refl _)⟩⟩
  · rw [hb4 h]
    exact ⟨_, (hp20.ext hx31).rd (Pf.c_length _), hr31.storeOk (by simp [Pf.c_length]) (Pf.plain _), by simp [Pf.c_length], nxPut hr31 (us := (Pf.mk x m).c) (by simp [Pf.c_length]) rfl fun w33 hr33 hc33 _ => ⟨_, hr33.rd (Pf.c_length _), rfl, Ext.of_chg hX31 hc33 (Nat.le_refl _)⟩⟩

theorem ref12_ParsePrefix (l : List UInt8) (hl : l.length ≤ 10000) (w : World) : Ret Tryd.prog F.ref12_ParsePrefix #[.string (S l)] w (fun v w' => v = .tuple #[.agg ((parseP l).getD Pf.zero).c.toArray, .bool (parseP l).isSome] ∧ Ext w w') := by
  refine W.ref12_ParsePrefix_ok (S l) w _ ?_
  unfold W.ref12_ParsePrefix
  rw [S_size]
  have hcl := cut_len l
  refine nxVar (vs := Pf.zero.c) rfl fun w1 hr hx1 hz1 => ?_
  refine ⟨fun a n i w' => w1 = w' ∧ ∃ k : Nat, i = k ∧ k ≤ l.length ∧ ((a = -1 ∧ n = 0 ∧ 47 ∉ l.take k) ∨ (∃ j n' : Nat, a = j ∧ n = n' ∧ j < k ∧ idxB 47 l = some j ∧ n' < 1000 ∧ ((l.drop k).foldl (nStep 10 1000) n' = numP (l.drop (j + 1))))),
    fun _ _ i _ => (l.length - i).toNat, ⟨rfl, 0, rfl, Nat.zero_le _, .inl ⟨rfl, rfl, by simp⟩⟩, ?_⟩
  rintro a n _ _ ⟨rfl, k, rfl, hk, hst⟩
  refine ⟨fun h => ?_, fun h => ?_⟩
  · have hlt : (k : Int) < ((l.length : Nat) : Int) := of_decide_eq_true h
    have hlt : k < l.length := by omega
    have htk : l.take (k + 1) = l.take k ++ [l[k]] := by rw [List.take_add_one]; simp [hlt]
    have hdk := List.drop_eq_getElem_cons hlt
    have hms : (((l.length : Nat) : Int) - ((k : Int) + 1)).toNat < (((l.length : Nat) : Int) - (k : Int)).toNat := by omega
    refine Jn2 (fun a n w' => w1 = w' ∧ ((a = -1 ∧ n = 0 ∧ 47 ∉ l.take (k + 1)) ∨ (∃ j n' : Nat, a = j ∧ n = n' ∧ j < k + 1 ∧ idxB 47 l = some j ∧ n' < 1000 ∧ ((l.drop (k + 1)).foldl (nStep 10 1000) n' = numP (l.drop (j + 1)))))) (fun q hq => ⟨fun h => ?_, fun h => ?_⟩) ?_
    · have h : a ≥ 0 := of_decide_eq_true h
      rcases hst with ⟨rfl, _⟩ | ⟨j, n', rfl, rfl, hj, hij, hn, hf⟩
      · omega
      refine ⟨by omega, l[k], by rw [S_byteAt]; simp [hlt], (ref12_digit l[k] w1).use ?_⟩
      rintro _ _ ⟨rfl, rfl⟩
      rw [hdk, List.foldl_cons] at hf
      refine ⟨_, rfl, fun h => ?_, fun h => ?_⟩
      · cases hd : dgt l[k] with
        | none => rw [hd] at h; simp at h
        | some d =>
          rw [hd] at h
          simp only [Bool.and_eq_true] at h
          have hd1 : ((d : Nat) : Int) < 10 := of_decide_eq_true h.2
          have hstep : nStep 10 1000 n' l[k] = (n' * 10 + d) % 1000 := by
            unfold nStep; rw [hd]; simp only; rw [if_pos (by omega)]
          refine ⟨by decide, hq _ _ _ ⟨rfl, .inr ⟨j, (n' * 10 + d) % 1000, rfl, ?_, by omega, hij, Nat.mod_lt _ (by decide), by rw [← hstep]; exact hf⟩⟩⟩
          simp only
          rw [wrapi (n := (n' : Int) * 10) (by omega) (by omega), wrapi (n := (n' : Int) * 10 + (d : Int)) (by omega) (by omega), tmod_nn (by omega)]
          omega
      · refine hq _ _ _ ⟨rfl, .inr ⟨j, n', rfl, rfl, by omega, hij, hn, ?_⟩⟩
        have hstep : nStep 10 1000 n' l[k] = n' := by
          unfold nStep
          cases hd : dgt l[k] with
          | none => rfl
          | some d =>
            simp only
            rw [if_neg]
            intro hlt2
            rw [hd] at h
            simp at h
            omega
        rw [← hstep]; exact hf
    · have h : ¬ a ≥ 0 := of_decide_eq_false h
      obtain ⟨rfl, rfl, hno⟩ : a = -1 ∧ n = 0 ∧ 47 ∉ l.take k := by
        rcases hst with h | ⟨j, n', rfl, _⟩
        · exact h
        · omega
      refine ⟨by omega, l[k], by rw [S_byteAt]; simp [hlt], fun h => ?_, fun h => ?_⟩
      · have e47 : l[k] = 47 := by
          have h := eq_of_beq h
          apply UInt8.toNat_inj.1; show _ = 47; omega
        refine hq _ _ _ ⟨rfl, .inr ⟨k, 0, rfl, rfl, by omega, ?_, by decide, rfl⟩⟩
        have e : l = l.take k ++ 47 :: l.drop (k + 1) := by
          conv => lhs; rw [← List.take_append_drop k l, hdk, e47]
        rw [e, idxB_app _ hno]
        simp; omega
      · have e47 : l[k] ≠ 47 := by
          intro e; rw [e] at h; simp at h
        refine hq _ _ _ ⟨rfl, .inl ⟨rfl, rfl, ?_⟩⟩
        rw [htk, List.mem_append, List.mem_singleton]
        exact fun h => h.elim hno (fun e => e47 e.symm)
    · rintro a' n' _ ⟨rfl, hst'⟩
      rw [wrapi (n := (k : Int) + 1) (by omega) (by omega)]
      exact ⟨⟨rfl, k + 1, by omega, hlt, hst'⟩, hms⟩
  · have hge : ¬((k : Int) < ((l.length : Nat) : Int)) := of_decide_eq_false h
    have hkl : k = l.length := by omega
    subst hkl
    refine ⟨fun h => ?_, fun h => ?_⟩
    · have h : a < 0 := of_decide_eq_true h
      obtain ⟨rfl, rfl, hno⟩ : a = -1 ∧ n = 0 ∧ 47 ∉ l.take l.length := by
        rcases hst with h | ⟨j, n', rfl, _⟩
        · exact h
        · omega
      rw [List.take_length] at hno
      have hnone : parseP l = none := by
        cases hp : parseP l with
        | none => rfl
        | some p =>
          obtain ⟨h1, h2⟩ := parseP_of hp
          obtain ⟨_, hc, _⟩ := parseP_some h1 h2
          have : idxB 47 l = none := idxB_none.2 hno
          unfold cutB at hc
          rw [this] at hc
          have := congrArg (fun x => x.2.2) hc
          cases this
      rw [hnone]
      exact ⟨_, mkPf0 _, hr.storeOk rfl (Pf.plain _), rfl, nxPut hr (us := Pf.zero.c) rfl rfl fun w33 hr33 hc33 _ => ⟨_, hr33.rd (Pf.c_length _), rfl, Ext.of_chg hx1 hc33 (Nat.le_refl _)⟩⟩
    · have h : ¬ a < 0 := of_decide_eq_false h
      rcases hst with ⟨rfl, _⟩ | ⟨j, n', rfl, rfl, hj, hij, hn, hf⟩
      · omega
      rw [List.drop_length, List.foldl_nil] at hf
      have hcut : cutB 47 l = (l.take j, l.drop (j + 1), true) := by unfold cutB; rw [hij]
      have hjl := idxB_lt hij
      have hex : (S l).extract 0 (Int.toNat (j : Int)) = S (cutB 47 l).1 := by
        rw [S_extract, hcut]; simp
      rw [hex]
      refine ⟨⟨by omega, by omega⟩, (ref12_Parse (cutB 47 l).1 (by omega) w1).use ?_⟩
      rintro _ w20 ⟨rfl, hx20⟩
      have hX20 := Ext.trans hx1 hx20
      have hr20 := hr.ext hx20
      obtain ⟨x, hx⟩ : ∃ x, x = (parseA (cutB 47 l).1).getD Ad.zero := ⟨_, rfl⟩
      rw [← hx]
      refine ⟨_, _, rfl, nxVar (vs := Ad.zero.c) rfl fun w24 ha hx24 hz24 => ⟨ha.storeOk (by simp [Ad.c_length]) (Ad.plain _), by simp [Ad.c_length], nxPut ha (us := x.c) (by simp [Ad.c_length]) rfl fun w25 ha25 hc25 hz25 => ?_⟩⟩
      have hX25 : Ext w w25 := Ext.of_chg (Ext.trans hX20 hx24) hc25 hX20.size
      have hr25 := (hr20.ext hx24).chg hc25 (by have := hr20.lt; omega)
      refine ⟨_, ha25.rd (Ad.c_length _), _, mkPf _ _ n', nxVar (vs := Pf.zero.c) rfl fun w28 hp hx28 hz28 => ⟨hp.storeOk (by simp [Pf.c_length]) (Pf.plain _), by simp [Pf.c_length], nxPut hp (us := (Pf.mk x n').c) (by simp [Pf.c_length]) rfl fun w29 hp29 hc29 hz29 => ?_⟩⟩
      have hX29 : Ext w w29 := Ext.of_chg (Ext.trans hX25 hx28) hc29 hX25.size
      have hr29 := (hr25.ext hx28).chg hc29 (by have := hr25.lt; omega)
      refine Jn1 (fun b w' => Ext w29 w' ∧ (b = true → parseP l = none) ∧ (b = false → parseP l = some ⟨x, n'⟩)) (fun q hq => ⟨fun h => hq _ _ ⟨.refl _ _, fun _ => ?_, fun h => by cases h⟩, fun h => ?_⟩) ?_
      · cases hp : parseP l with
        | none => rfl
        | some p => rw [(parseP_of hp).1] at h; cases h
      · have hx : parseA (cutB 47 l).1 = some x := by
          cases hp : parseA (cutB 47 l).1 with
          | none => rw [hp] at h; cases h
          | some y => rw [hp] at hx; rw [hx]; rfl
        refine ⟨_, hp29.rd (Pf.c_length _), (ref12_ShowPrefix ⟨x, n'⟩ w29).use ?_⟩
        rintro _ w32 ⟨rfl, hx32⟩
        refine ⟨_, rfl, hq _ _ ⟨hx32, fun h => ?_, fun h => ?_⟩⟩
        · have hne : showP ⟨x, n'⟩ ≠ l := by intro e; rw [S_beq, e] at h; simp at h
          unfold parseP
          rw [hx]
          simp only
          rw [if_neg]
          rw [hcut]
          simp only
          rw [← hf]
          exact hne
        · rw [S_beq] at h
          exact (parseP_some hx (by simpa using h)).1
      rintro b35 w36 ⟨hx36, hb3, hb4⟩
      have hX36 := Ext.trans hX29 hx36
      have hr36 := hr29.ext hx36
      refine ⟨fun h => ?_, fun h => ?_⟩
      · rw [hb3 h]
        exact ⟨_, mkPf0 _, hr36.storeOk rfl (Pf.plain _), rfl, nxPut hr36 (us := Pf.zero.c) rfl rfl fun w38 hr38 hc38 _ => ⟨_, hr38.rd (Pf.c_length _), rfl, Ext.of_chg hX36 hc38 (Nat.le_refl _)⟩⟩
      · rw [hb4 h]
        exact ⟨_, (hp29.ext hx36).rd (Pf.c_length _), hr36.storeOk (by simp [Pf.c_length]) (Pf.plain _), by simp [Pf.c_length], nxPut hr36 (us := (Pf.mk x n').c) (by simp [Pf.c_length]) rfl fun w38 hr38 hc38 _ => ⟨_, hr38.rd (Pf.c_length _), rfl, Ext.of_chg hX36 hc38 (Nat.le_refl _)⟩⟩

end Go.Proofs.YtcjpgabpihkcjaaDoor
