/- The laws AddrParses and AddrShows. -/
import Derived.Test.YtcjpgabpihkcjaaDoorAddrL
namespace Go.Proofs.YtcjpgabpihkcjaaDoor
open Go Gx

theorem law_AddrParses (l0 : List UInt8) (w : World) (ht : Tabs w) : Ret Tryd.prog F.law12_AddrParses #[.string (S l0)] w (fun v w' => v = .bool true ∧ Ext w w') := by
  refine W.law12_AddrParses_ok (S l0) w _ ?_
  unfold W.law12_AddrParses
  rw [S_size]
  refine Jn1 (fun s w' => w = w' ∧ ∃ l, s = S l ∧ l.length ≤ 10000) (fun q hq => ⟨fun h => ?_, fun h => ?_⟩) ?_
  · have h : ((l0.length : Nat) : Int) > 60 := of_decide_eq_true h
    refine ⟨⟨by decide, by omega⟩, hq _ _ ⟨rfl, (l0.drop 0).take 60, ?_, by simp; omega⟩⟩
    rw [S_extract]; simp
  · have h : ¬ ((l0.length : Nat) : Int) > 60 := of_decide_eq_false h
    exact hq _ _ ⟨rfl, l0, rfl, by omega⟩
  rintro _ _ ⟨rfl, l, rfl, hl⟩
  refine (addr_Parse l hl w ht).use ?_
  rintro _ w4 ⟨rfl, hX4⟩
  refine ⟨_, _, rfl, nxVar (vs := Ad.zero.c) rfl fun w8 ha hx8 _ => ⟨ha.storeOk (by simp [Ad.c_length]) (Ad.plain _), by simp [Ad.c_length], nxPut ha (us := ((parseA l).getD Ad.zero).c) (by simp [Ad.c_length]) rfl fun w9 ha9 hc9 _ => ?_⟩⟩
  have hX9 : Ext w w9 := Ext.of_chg (Ext.trans hX4 hx8) hc9 hX4.size
  refine (ref12_Parse l hl w9).use ?_
  rintro _ w10 ⟨rfl, hx10⟩
  have hX10 := Ext.trans hX9 hx10
  have ha10 := ha9.ext hx10
  refine ⟨_, _, rfl, nxVar (vs := Ad.zero.c) rfl fun w14 hb hx14 _ => ⟨hb.storeOk (by simp [Ad.c_length]) (Ad.plain _), by simp [Ad.c_length], nxPut hb (us := ((parseA l).getD Ad.zero).c) (by simp [Ad.c_length]) rfl fun w15 hb15 hc15 _ => ?_⟩⟩
  have hX15 : Ext w w15 := Ext.of_chg (Ext.trans hX10 hx14) hc15 hX10.size
  have ha15 := (ha10.ext hx14).chg hc15 (by have := ha10.lt; omega)
  refine (addr_ParsePrefix l hl w15 (ht.ext hX15)).use ?_
  rintro _ w16 ⟨rfl, hx16⟩
  have hX16 := Ext.trans hX15 hx16
  have ha16 := ha15.ext hx16
  have hb16 := hb15.ext hx16
  refine ⟨_, _, rfl, nxVar (vs := Pf.zero.c) rfl fun w20 hp hx20 _ => ⟨hp.storeOk (by simp [Pf.c_length]) (Pf.plain _), by simp [Pf.c_length], nxPut hp (us := ((parseP l).getD Pf.zero).c) (by simp [Pf.c_length]) rfl fun w21 hp21 hc21 _ => ?_⟩⟩
  have hX21 : Ext w w21 := Ext.of_chg (Ext.trans hX16 hx20) hc21 hX16.size
  have ha21 := (ha16.ext hx20).chg hc21 (by have := ha16.lt; omega)
  have hb21 := (hb16.ext hx20).chg hc21 (by have := hb16.lt; omega)
  refine (ref12_ParsePrefix l hl w21).use ?_
  rintro _ w22 ⟨rfl, hx22⟩
  have hX22 := Ext.trans hX21 hx22
  have ha22 := ha21.ext hx22
  have hb22 := hb21.ext hx22
  have hp22 := hp21.ext hx22
  refine ⟨_, _, rfl, nxVar (vs := Pf.zero.c) rfl fun w26 hr hx26 _ => ⟨hr.storeOk (by simp [Pf.c_length]) (Pf.plain _), by simp [Pf.c_length], nxPut hr (us := ((parseP l).getD Pf.zero).c) (by simp [Pf.c_length]) rfl fun w27 hr27 hc27 _ => ?_⟩⟩
  have hX27 : Ext w w27 := Ext.of_chg (Ext.trans hX22 hx26) hc27 hX22.size
  have ha27 := (ha22.ext hx26).chg hc27 (by have := ha22.lt; omega)
  have hb27 := (hb22.ext hx26).chg hc27 (by have := hb22.lt; omega)
  have hp27 := (hp22.ext hx26).chg hc27 (by have := hp22.lt; omega)
  refine ⟨_, ha27.rd (Ad.c_length _), _, hb27.rd (Ad.c_length _), _, eqAd _ _, Jn1 (fun b w' => w27 = w' ∧ b = true) (fun q hq => ⟨fun _ => ⟨_, hp27.rd (Pf.c_length _), _, hr27.rd (Pf.c_length _), _, eqPf _ _, hq _ _ ⟨rfl, by simp⟩⟩, fun h => by simp at h⟩) ?_⟩
  rintro _ _ ⟨rfl, rfl⟩
  refine Jn1 (fun b w' => b = true ∧ Ext w w') (fun q hq => ⟨fun _ => (lives12 w27 (ht.ext hX27)).use ?_, fun h => by simp at h⟩) ?_
  · rintro _ w38 ⟨rfl, hx38⟩
    exact ⟨_, rfl, hq _ _ ⟨rfl, Ext.trans hX27 hx38⟩⟩
  · rintro _ w42 ⟨rfl, hx42⟩
    exact ⟨rfl, hx42⟩

theorem joinB_len {c : UInt8} {k : Nat} : ∀ {ls : List (List UInt8)}, (∀ l ∈ ls, l.length ≤ k) → (joinB c ls).length ≤ ls.length * (k + 1)
  | [], _ => by simp [joinB]
  | [l], h => by have := h l (by simp); simp [joinB]; omega
  | l :: m :: ls, h => by
    have h1 := h l (by simp)
    have h2 := joinB_len (c := c) (k := k) (ls := m :: ls) (fun x hx => h x (by simp [hx]))
    have e : joinB c (l :: m :: ls) = l ++ c :: joinB c (m :: ls) := by simp [joinB]
    rw [e, List.length_append, List.length_cons]
    rw [List.length_cons, Nat.succ_mul]
    omega
theorem numB_len_le {b : Nat} (hb : 2 ≤ b) : ∀ (k n : Nat), n < b ^ (k + 1) → (numB b n).length ≤ k + 1
  | 0, n, h => by rw [numB_lt (by simpa using h)]; simp
  | k + 1, n, h => by
    by_cases h2 : n < b
    · rw [numB_lt h2]; simp
    · rw [numB_ge hb (by omega), List.length_append]
      have := numB_len_le hb k (n / b) (by rw [Nat.div_lt_iff_lt_mul (by omega)]; rwa [Nat.pow_succ] at h)
      simp; omega
theorem showP_len (p : Pf) : (showP p).length ≤ 3000 := by
  rcases Classical.em (showP p = []) with h | h
  · rw [h]; simp
  · obtain ⟨_, h2, h3, h4, _⟩ := showP_ne h
    have := showA_len p.addr
    have := numB_len_le (b := 10) (by decide) 3 p.bits.toNat (by omega)
    rw [h2, List.length_append, List.length_cons]; omega
theorem show_shape (a : Ad) : (showA a = [] ∧ parseA (showA a) = none) ∨ (showA a ≠ [] ∧ parseA (showA a) = some a) := by
  rcases Classical.em (showA a = []) with h | h
  · left; rw [h]; exact ⟨rfl, parseA_nil⟩
  · right
    refine ⟨h, parseA_iff.2 ⟨?_, rfl⟩⟩
    cases hg : a.good
    · exfalso; apply h; unfold showA; rw [hg]; rfl
    · rfl
theorem showP_shape (p : Pf) : (showP p = [] ∧ parseP (showP p) = none) ∨ (showP p ≠ [] ∧ parseP (showP p) = some p) := by
  rcases Classical.em (showP p = []) with h | h
  · left; rw [h]; exact ⟨rfl, parseP_nil⟩
  · exact .inr ⟨h, parseP_show h⟩
theorem nilB : ByteArray.toList (ByteArray.mk #[]) = [] := S_toList []
theorem ne_nilB {l : List UInt8} (h : l ≠ []) : (l == ([] : List UInt8)) = false := by
  cases l with
  | nil => exact absurd rfl h
  | cons => rfl

theorem law_AddrShows (a : Ad) (p : Pf) (w : World) (ht : Tabs w) : Ret Tryd.prog F.law12_AddrShows #[.agg a.c.toArray, .agg p.c.toArray] w (fun v w' => v = .bool true ∧ Ext w w') := by
  refine W.law12_AddrShows_ok _ _ w _ ?_
  unfold W.law12_AddrShows
  refine nxVar (vs := a.c) rfl fun w1 ha hx1 hz1 => nxVar (vs := p.c) rfl fun w2 hp hx2 hz2 => ?_
  have ha2 := ha.ext hx2
  have hd : Ext w2 w2.drew := Chg.drew (.refl _ _)
  have ha3 := ha2.ext hd
  have hp3 := hp.ext hd
  have hX3 := Ext.trans (Ext.trans hx1 hx2) hd
  refine nx ⟨fun _ => False, id, _, ha3.rd (Ad.c_length _), id, _, hp3.rd (Pf.c_length _), (addr_Show a _ (ht.ext hX3).tab).use ?_⟩
  rintro _ w7 ⟨rfl, hx7⟩
  have hX7 := Ext.trans hX3 hx7
  refine ⟨_, rfl, hx7, (addr_ShowPrefix p w7 (ht.ext hX7).tab).use ?_⟩
  rintro _ w10 ⟨rfl, hx10⟩
  have hX10 := Ext.trans hX7 hx10
  have ha10 := (ha3.ext hx7).ext hx10
  have hp10 := (hp3.ext hx7).ext hx10
  refine ⟨_, rfl, _, ha10.rd (Ad.c_length _), (ref12_Show a w10).use ?_⟩
  rintro _ w14 ⟨rfl, hx14⟩
  have hX14 := Ext.trans hX10 hx14
  have ha14 := ha10.ext hx14
  have hp14 := hp10.ext hx14
  refine ⟨_, rfl, Jn1 (fun b w' => b = false ∧ Ext w14 w') (fun q hq => ⟨fun h => by simp at h, fun _ => ⟨_, hp14.rd (Pf.c_length _), (ref12_ShowPrefix p w14).use ?_⟩⟩) ?_⟩
  · rintro _ w19 ⟨rfl, hx19⟩
    exact ⟨_, rfl, hq _ _ ⟨by simp, hx19⟩⟩
  rintro _ w23 ⟨rfl, hx23⟩
  have hX23 := Ext.trans hX14 hx23
  have ha23 := ha14.ext hx23
  have hp23 := hp14.ext hx23
  refine ⟨fun h => (by cases h), fun _ => (addr_Parse (showA a) (by have := showA_len a; omega) w23 (ht.ext hX23)).use ?_⟩
  rintro _ w24 ⟨rfl, hx24⟩
  have hX24 := Ext.trans hX23 hx24
  have ha24 := ha23.ext hx24
  have hp24 := hp23.ext hx24
  refine ⟨_, _, rfl, nxVar (vs := Ad.zero.c) rfl fun w28 hb hx28 _ => ⟨hb.storeOk (by simp [Ad.c_length]) (Ad.plain _), by simp [Ad.c_length], nxPut hb (us := ((parseA (showA a)).getD Ad.zero).c) (by simp [Ad.c_length]) rfl fun w29 hb29 hc29 _ => ?_⟩⟩
  have hX29 : Ext w w29 := Ext.of_chg (Ext.trans hX24 hx28) hc29 hX24.size
  have ha29 := (ha24.ext hx28).chg hc29 (by have := ha24.lt; omega)
  have hp29 := (hp24.ext hx28).chg hc29 (by have := hp24.lt; omega)
  refine (addr_ParsePrefix (showP p) (by have := showP_len p; omega) w29 (ht.ext hX29)).use ?_
  rintro _ w30 ⟨rfl, hx30⟩
  have hX30 := Ext.trans hX29 hx30
  have ha30 := ha29.ext hx30
  have hb30 := hb29.ext hx30
  have hp30 := hp29.ext hx30
  refine ⟨_, _, rfl, nxVar (vs := Pf.zero.c) rfl fun w34 hr hx34 _ => ⟨hr.storeOk (by simp [Pf.c_length]) (Pf.plain _), by simp [Pf.c_length], nxPut hr (us := ((parseP (showP p)).getD Pf.zero).c) (by simp [Pf.c_length]) rfl fun w35 hr35 hc35 _ => ?_⟩⟩
  have hX35 : Ext w w35 := Ext.of_chg (Ext.trans hX30 hx34) hc35 hX30.size
  have ha35 := (ha30.ext hx34).chg hc35 (by have := ha30.lt; omega)
  have hb35 := (hb30.ext hx34).chg hc35 (by have := hb30.lt; omega)
  have hp35 := (hp30.ext hx34).chg hc35 (by have := hp30.lt; omega)
  rw [S_toList, S_toList, nilB]
  refine Jn1 (fun b w' => w35 = w' ∧ b = true) (fun q hq => ?_) ?_
  · rcases show_shape a with ⟨h1, h2⟩ | ⟨h1, h2⟩
    · rw [h2, h1]
      exact ⟨fun _ => hq _ _ ⟨rfl, rfl⟩, fun h => by simp at h⟩
    · rw [h2] at hb35 ⊢
      rw [ne_nilB h1]
      refine ⟨fun h => by simp at h, fun _ => Jn1 (fun b w' => w35 = w' ∧ b = true) (fun q2 hq2 => ⟨fun _ => ⟨_, hb35.rd (Ad.c_length _), _, ha35.rd (Ad.c_length _), _, eqAd _ _, hq2 _ _ ⟨rfl, by simp⟩⟩, fun h => by simp at h⟩) ?_⟩
      rintro _ _ ⟨rfl, rfl⟩
      exact hq _ _ ⟨rfl, rfl⟩
  rintro _ _ ⟨rfl, rfl⟩
  refine Jn1 (fun b w' => w35 = w' ∧ b = true) (fun q hq => ⟨fun _ => Jn1 (fun b w' => w35 = w' ∧ b = true) (fun q2 hq2 => ?_) ?_, fun h => (by cases h)⟩) ?_
  · rcases showP_shape p with ⟨h1, h2⟩ | ⟨h1, h2⟩
    · rw [h2, h1]
      exact ⟨fun _ => hq2 _ _ ⟨rfl, rfl⟩, fun h => by simp at h⟩
    · rw [h2] at hr35 ⊢
      rw [ne_nilB h1]
      refine ⟨fun h => by simp at h, fun _ => Jn1 (fun b w' => w35 = w' ∧ b = true) (fun q3 hq3 => ⟨fun _ => ⟨_, hr35.rd (Pf.c_length _), _, hp35.rd (Pf.c_length _), _, eqPf _ _, hq3 _ _ ⟨rfl, by simp⟩⟩, fun h => by simp at h⟩) ?_⟩
      rintro _ _ ⟨rfl, rfl⟩
      exact hq2 _ _ ⟨rfl, rfl⟩
  · rintro _ _ ⟨rfl, rfl⟩
    exact hq _ _ ⟨rfl, rfl⟩
  rintro _ _ ⟨rfl, rfl⟩
  refine Jn1 (fun b w' => b = true ∧ Ext w w') (fun q hq => ⟨fun _ => (lives12 w35 (ht.ext hX35)).use ?_, fun h => by cases h⟩) ?_
  · rintro _ w38 ⟨rfl, hx38⟩
    exact ⟨_, rfl, hq _ _ ⟨rfl, Ext.trans hX35 hx38⟩⟩
  · rintro _ w42 ⟨rfl, hx42⟩
    exact ⟨rfl, hx42⟩

end Go.Proofs.YtcjpgabpihkcjaaDoor
