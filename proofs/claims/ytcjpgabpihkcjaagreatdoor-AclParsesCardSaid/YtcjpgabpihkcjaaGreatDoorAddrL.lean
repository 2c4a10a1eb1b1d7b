/- ParsePrefix, the program's and the reference's. -/
import Derived.Test.YtcjpgabpihkcjaaGreatDoorAddrK
namespace Go.Proofs.YtcjpgabpihkcjaaGreatDoor
open Go Gx

def numP (l : List UInt8) : Nat := l.foldl (nStep 10 1000) 0
/-- A text's prefix. -/
def parseP (l : List UInt8) : Option Pf := match parseA (cutB 47 l).1 with
  | some x => if showP ⟨x, (numP (cutB 47 l).2.1 : Nat)⟩ = l then some ⟨x, (numP (cutB 47 l).2.1 : Nat)⟩ else none
  | none => none
theorem numP_lt (l : List UInt8) : numP l < 1000 := by
  unfold numP
  have h : ∀ (l : List UInt8) (n : Nat), n < 1000 → l.foldl (nStep 10 1000) n < 1000 := by
    intro l
    induction l with
    | nil => intro n h; exact h
    | cons c l ih => intro n h; exact ih _ (nStep_lt (by decide) h)
  exact h l 0 (by decide)
theorem idxB_app {c : UInt8} : ∀ {l : List UInt8} (m : List UInt8), c ∉ l → idxB c (l ++ c :: m) = some l.length
  | [], m, _ => by simp [idxB]
  | b :: l, m, h => by
    simp only [List.mem_cons, not_or] at h
    simp only [List.cons_append, idxB]
    rw [if_neg (fun e => h.1 e.symm), idxB_app m h.2]
    rfl
theorem cut_app {c : UInt8} {l : List UInt8} (m : List UInt8) (h : c ∉ l) : cutB c (l ++ c :: m) = (l, m, true) := by
  unfold cutB
  rw [idxB_app m h]
  simp
theorem show_no47 (a : Ad) : (47 : UInt8) ∉ showA a := by
  unfold showA
  split
  · split
    · intro h
      rcases mem_joinB h with h | ⟨l, hl, h⟩
      · exact absurd h (by decide)
      · obtain ⟨i, _, rfl⟩ := List.mem_map.1 hl
        exact numB_no (by decide) _ (.inr (.inr (.inl rfl))) h
    · intro h
      rcases mem_joinB h with h | ⟨l, hl, h⟩
      · exact absurd h (by decide)
      · obtain ⟨c, _, rfl⟩ := List.mem_map.1 hl
        exact numB_no (by decide) _ (.inr (.inr (.inl rfl))) h
  · intro h; cases h
theorem parseA_nil : parseA [] = none := by decide +kernel
theorem showP_ne {p : Pf} (h : showP p ≠ []) : maskP p.addr p.bits = some p ∧ showP p = showA p.addr ++ 47 :: numB 10 p.bits.toNat ∧ 0 ≤ p.bits ∧ p.bits ≤ 128 ∧ p.addr.good = true := by
  unfold showP at h ⊢
  split at h
  · rename_i h2
    rw [if_pos h2]
    have := maskP_bits h2
    exact ⟨h2, rfl, this⟩
  · exact absurd rfl h
theorem cut_ne {l : List UInt8} {x : Ad} (h : parseA (cutB 47 l).1 = some x) : l ≠ [] := by
  rintro rfl
  rw [show (cutB 47 ([] : List UInt8)).1 = [] from rfl, parseA_nil] at h
  cases h
theorem parseP_some {l : List UInt8} {x : Ad} {m : Int} (h : parseA (cutB 47 l).1 = some x) (hs : showP ⟨x, m⟩ = l) : parseP l = some ⟨x, m⟩ ∧ cutB 47 l = (showA x, numB 10 m.toNat, true) ∧ 0 ≤ m ∧ m ≤ 128 := by
  have hne := cut_ne h
  rw [← hs] at hne
  obtain ⟨_, h2, h3, h4, _⟩ := showP_ne hne
  simp only at h2 h3 h4
  have hc : cutB 47 l = (showA x, numB 10 m.toNat, true) := by rw [← hs, h2, cut_app _ (show_no47 x)]
  refine ⟨?_, hc, h3, h4⟩
  unfold parseP
  rw [h]
  simp only
  have hn : ((numP (cutB 47 l).2.1 : Nat) : Int) = m := by
    rw [hc]
    show ((numP (numB 10 m.toNat) : Nat) : Int) = m
    unfold numP
    rw [nStep_num 10 1000 (by decide) _ (by omega)]
    omega
  rw [hn, if_pos hs]
theorem parseP_of {l : List UInt8} {p : Pf} (h : parseP l = some p) : parseA (cutB 47 l).1 = some p.addr ∧ showP p = l := by
  unfold parseP at h
  cases hp : parseA (cutB 47 l).1 with
  | none => rw [hp] at h; cases h
  | some x =>
    rw [hp] at h
    simp only at h
    split at h
    · rename_i h2; cases h; exact ⟨rfl, h2⟩
    · cases h
theorem parseP_show {p : Pf} (h : showP p ≠ []) : parseP (showP p) = some p := by
  obtain ⟨_, h2, _, _, hg⟩ := showP_ne h
  refine (parseP_some (x := p.addr) (m := p.bits) ?_ rfl).1
  rw [h2, cut_app _ (show_no47 _)]
  exact parseA_iff.2 ⟨hg, rfl⟩
theorem parseP_nil : parseP [] = none := by
  unfold parseP
  rw [show (cutB 47 ([] : List UInt8)).1 = [] from rfl, parseA_nil]
theorem cut_len (l : List UInt8) : (cutB 47 l).1.length ≤ l.length ∧ (cutB 47 l).2.1.length ≤ l.length := by
  unfold cutB
  split
  · simp; omega
  · simp

theorem addr_ParsePrefix (l : List UInt8) (hl : l.length ≤ 10000) (w : World) (ht : Tabs w) : Ret Tryz.prog F.addr_ParsePrefix #[.string (S l)] w (fun v w' => v = .tuple #[.agg ((parseP l).getD Pf.zero).c.toArray, .bool (parseP l).isSome] ∧ Ext w w') := by
  refine W.addr_ParsePrefix_ok (S l) w _ ?_
  unfold W.addr_ParsePrefix
  have hcl := cut_len l
  refine nxVar (vs := Pf.zero.c) rfl fun w1 hr hx1 hz1 => (Cut1 l 47 (by omega) w1).use ?_
  rintro _ w2 ⟨rfl, hx2⟩
  have hX2 := Ext.trans hx1 hx2
  refine ⟨_, _, _, rfl, (addr_parse (cutB 47 l).1 (by omega) w2 (ht.ext hX2)).use ?_⟩
  rintro _ w7 ⟨rfl, hx7⟩
  have hX7 := Ext.trans hX2 hx7
  have hr7 := (hr.ext hx2).ext hx7
  obtain ⟨x, hx⟩ : ∃ x, x = (parseA (cutB 47 l).1).getD Ad.zero := ⟨_, rfl⟩
  rw [← hx]
  refine ⟨_, _, rfl, nxVar (vs := Ad.zero.c) rfl fun w11 ha hx11 hz11 => ⟨ha.storeOk (by simp [Ad.c_length]) (Ad.plain _), by simp [Ad.c_length], nxPut ha (us := x.c) (by simp [Ad.c_length]) rfl fun w12 ha12 hc12 hz12 => ?_⟩⟩
  have hX12 : Ext w w12 := Ext.of_chg (Ext.trans hX7 hx11) hc12 hX7.size
  have hr12 := (hr7.ext hx11).chg hc12 (by have := hr7.lt; omega)
  refine (Atoi (cutB 47 l).2.1 (by omega) w12 (ht.ext hX12).errs).use ?_
  rintro _ w13 ⟨⟨m, e, rfl, he, hat⟩, hx13⟩
  have hX13 := Ext.trans hX12 hx13
  have hr13 := hr12.ext hx13
  refine ⟨m, e, rfl, _, (ha12.ext hx13).rd (Ad.c_length _), _, mkPf _ _ m, nxVar (vs := Pf.zero.c) rfl fun w19 hp hx19 hz19 => ⟨hp.storeOk (by simp [Pf.c_length]) (Pf.plain _), by simp [Pf.c_length], nxPut hp (us := (Pf.mk x m).c) (by simp [Pf.c_length]) rfl fun w20 hp20 hc20 hz20 => ?_⟩⟩
  have hX20 : Ext w w20 := Ext.of_chg (Ext.trans hX13 hx19) hc20 hX13.size
  have hr20 := (hr13.ext hx19).chg hc20 (by have := hr13.lt; omega)
  refine Jn1 (fun b w' => w20 = w' ∧ (b = true → parseP l = none) ∧ (b = false → parseA (cutB 47 l).1 = some x)) (fun q hq => ⟨fun h => hq _ _ ⟨rfl, fun _ => ?_, fun h => by cases h⟩, fun h => ?_⟩) ?_
  · cases hp : parseP l with
    | none => rfl
    | some p => rw [(parseP_of hp).1] at h; cases h
  · have hx : parseA (cutB 47 l).1 = some x := by
      cases hp : parseA (cutB 47 l).1 with
      | none => rw [hp] at h; cases h
      | some y => rw [hp] at hx; rw [hx]; rfl
    rcases he with rfl | ⟨t, y, rfl⟩
    · exact ⟨true, rfl, hq _ _ ⟨rfl, fun h => (by cases h), fun _ => hx⟩⟩
    · refine ⟨false, rfl, hq _ _ ⟨rfl, fun _ => ?_, fun h => (by cases h)⟩⟩
      cases hp : parseP l with
      | none => rfl
      | some p =>
        obtain ⟨h1, h2⟩ := parseP_of hp
        obtain ⟨_, hc, h3, h4⟩ := parseP_some h1 h2
        have := (hat p.bits.toNat (by omega) (by rw [hc])).2
        cases this
  rintro b23 _ ⟨rfl, hb1, hb2⟩
  refine Jn1 (fun b w' => Ext w20 w' ∧ (b = true → parseP l = none) ∧ (b = false → parseP l = some ⟨x, m⟩)) (fun q hq => ⟨fun h => hq _ _ ⟨.refl _ _, fun _ => hb1 h, fun h => by cases h⟩, fun h => ?_⟩) ?_
  · have hx := hb2 h
    refine ⟨_, hp20.rd (Pf.c_length _), (addr_showPrefix ⟨x, m⟩ w20 (ht.ext hX20).tab).use ?_⟩
    rintro _ w27 ⟨rfl, hx27⟩
    refine ⟨_, rfl, hq _ _ ⟨hx27, fun h => ?_, fun h => ?_⟩⟩
    · have hne : showP ⟨x, m⟩ ≠ l := by intro e; rw [S_beq, e] at h; simp at h
      cases hp : parseP l with
      | none => rfl
      | some p =>
        obtain ⟨h1, h2⟩ := parseP_of hp
        obtain ⟨_, hc, h3, h4⟩ := parseP_some h1 h2
        have hm := (hat p.bits.toNat (by omega) (by rw [hc])).1
        rw [hx] at h1
        exfalso
        apply hne
        rw [← h2]
        congr 1
        cases h1
        rw [show m = p.bits by omega]
    · rw [S_beq] at h
      exact (parseP_some hx (by simpa using h)).1
  rintro b30 w31 ⟨hx31, hb3, hb4⟩
  have hX31 := Ext.trans hX20 hx31
  have hr31 := hr20.ext hx31
  refine ⟨fun h => ?_, fun h => ?_⟩
  · rw [hb3 h]
    exact ⟨_, mkPf0 _, hr31.storeOk rfl (Pf.plain _), rfl, nxPut hr31 (us := Pf.zero.c) rfl rfl fun w33 hr33 hc33 _ => ⟨_, hr33.rd (Pf.c_length _), rfl, Ext.of_chg hX31 hc33 (Nat.le_refl _)⟩⟩
  · rw [hb4 h]
    exact ⟨_, (hp20.ext hx31).rd (Pf.c_length _), hr31.storeOk (by simp [Pf.c_length]) (Pf.plain _), by simp [Pf.c_length], nxPut hr31 (us := (Pf.mk x m).c) (by simp [Pf.c_length]) rfl fun w33 hr33 hc33 _ => ⟨_, hr33.rd (Pf.c_length _), rfl, Ext.of_chg hX31 hc33 (Nat.le_refl _)⟩⟩

end Go.Proofs.YtcjpgabpihkcjaaGreatDoor
