/- The laws AddrMasks and AddrBytes. -/
import Derived.Test.YtcjpgabpihkcjaaDoorAddrH
namespace Go.Proofs.YtcjpgabpihkcjaaDoor
open Go Gx

theorem mb_mb : ∀ c : Nat, c < 256 → ∀ k : Nat, k < 9 → ∀ j : Nat, j ≤ k → mb (mb c k) j = mb c j := by decide +kernel
theorem kb_le {m n i : Nat} (h : m ≤ n) : kb m i ≤ kb n i := by unfold kb; omega
theorem maskB_maskB {m n : Nat} (h : m ≤ n) (l : List UInt8) : maskB m (maskB n l) = maskB m l := by
  apply List.ext_getElem
  · simp [maskB]
  · intro i h1 h2
    simp only [maskB, List.getElem_mapIdx]
    have e : ∀ c : UInt8, mbyte (mbyte c (kb n i)) (kb m i) = mbyte c (kb m i) := by
      intro c
      unfold mbyte
      rw [ofNat_val (by have := mb_le c.toNat (kb n i); have := UInt8.toNat_lt c; omega), mb_mb _ (UInt8.toNat_lt c) _ (by unfold kb; omega) _ (kb_le h)]
    exact e _
theorem ofB_raw {l : List UInt8} {a : Ad} (h : ofB l = some a) : a.raw = l ∧ (a.six = true ↔ l.length = 16) := by
  unfold ofB at h
  split at h
  · rename_i h4
    cases h
    refine ⟨?_, ?_⟩
    · show (zeros 12 ++ l).drop 12 = l
      exact List.drop_left' (by simp [zeros])
    · simp [ad4, h4]
  · split at h
    · rename_i h16; cases h; exact ⟨rfl, by simp [h16]⟩
    · cases h
theorem ofB_some {l : List UInt8} (h : l.length = 4 ∨ l.length = 16) : ∃ a, ofB l = some a := by
  unfold ofB
  rcases h with h | h
  · exact ⟨_, dif_pos h⟩
  · rw [dif_neg (by omega)]; exact ⟨_, dif_pos h⟩
theorem raw_len416 (a : Ad) : a.raw.length = 4 ∨ a.raw.length = 16 := by rw [a.raw_length]; split <;> simp

theorem maskP_addr {a : Ad} {n : Int} {p : Pf} (h : maskP a n = some p) : p.bits = n ∧ p.addr.good = true ∧ p.addr.raw = maskB n.toNat a.raw ∧ p.addr.raw.length = a.raw.length := by
  unfold maskP at h
  split at h
  · rename_i hc
    have hl : (maskB n.toNat a.raw).length = 4 ∨ (maskB n.toNat a.raw).length = 16 := by rw [maskB_length]; exact raw_len416 a
    obtain ⟨b, hb⟩ := ofB_some hl
    rw [hb] at h
    cases h
    have hr := ofB_raw hb
    exact ⟨rfl, ofB_good hb, hr.1, by show b.raw.length = _; rw [hr.1, maskB_length]⟩
  · cases h
theorem maskP_fewer {a : Ad} {n m : Int} {p : Pf} (h : maskP a n = some p) (h0 : 0 ≤ m) (h1 : m ≤ n) : ∃ r, maskP a m = some r ∧ maskP p.addr m = some r := by
  obtain ⟨e1, e2, e3, e4⟩ := maskP_addr h
  unfold maskP at h
  split at h
  · rename_i hc
    refine ⟨_, by unfold maskP; rw [if_pos ⟨hc.1, h0, by omega⟩], ?_⟩
    unfold maskP
    rw [if_pos ⟨e2, h0, by omega⟩, e3, maskB_maskB (by omega)]
  · cases h

theorem law_AddrMasks (a : Ad) (n m : Int) (w : World) (ht : Tabs w) : Ret Tryd.prog F.law12_AddrMasks #[.agg a.c.toArray, .int .i64 n, .int .i64 m] w (fun v w' => v = .bool true ∧ Ext w w') := by
  refine W.law12_AddrMasks_ok _ n m w _ ?_
  unfold W.law12_AddrMasks
  refine nxVar (vs := a.c) rfl fun w1 hv hx1 hz1 => ⟨a.c, hv.rd a.c_length, (addr_Mask a n w1).use ?_⟩
  rintro _ w3 ⟨rfl, hx3⟩
  have hX3 : Ext w w3 := Ext.trans hx1 hx3
  have hv3 := hv.ext hx3
  have hlt3 := hv3.lt
  refine ⟨_, _, rfl, nxVar (vs := Pf.zero.c) rfl fun w7 hp hx7 hz7 => ⟨hp.storeOk (by simp [Pf.c_length]) (Pf.plain _), by simp [Pf.c_length], nxPut hp (us := ((maskP a n).getD Pf.zero).c) (by simp [Pf.c_length]) rfl fun w8 hp8 hc8 hz8 => ?_⟩⟩
  have hX8 : Ext w w8 := Ext.of_chg (Ext.trans hX3 hx7) hc8 hX3.size
  have hv8 := (hv3.ext hx7).chg hc8 (by omega)
  refine ⟨_, hv8.rd (Ad.c_length _), (ref12_Mask a n w8).use ?_⟩
  rintro _ w10 ⟨rfl, hx10⟩
  have hX10 : Ext w w10 := Ext.trans hX8 hx10
  have hv10 := hv8.ext hx10
  have hp10 := hp8.ext hx10
  have hlt10 := hp10.lt
  refine ⟨_, _, rfl, nxVar (vs := Pf.zero.c) rfl fun w14 hq hx14 hz14 => ⟨hq.storeOk (by simp [Pf.c_length]) (Pf.plain _), by simp [Pf.c_length], nxPut hq (us := ((maskP a n).getD Pf.zero).c) (by simp [Pf.c_length]) rfl fun w15 hq15 hc15 hz15 => ?_⟩⟩
  have hX15 : Ext w w15 := Ext.of_chg (Ext.trans hX10 hx14) hc15 hX10.size
  have hv15 := (hv10.ext hx14).chg hc15 (by omega)
  have hp15 := (hp10.ext hx14).chg hc15 (by omega)
  refine ⟨_, hp15.rd (Pf.c_length _), _, hq15.rd (Pf.c_length _), _, eqPf _ _, fun h => by simp at h, fun _ => ⟨fun hno => ?_, fun hyes => ?_⟩⟩
  · have hnone : maskP a n = none := by
      cases hh : maskP a n with
      | none => rfl
      | some p => rw [hh] at hno; cases hno
    refine ⟨_, hv15.rd (Ad.c_length _), _, hv15.rd (Ad.c_length _), _, mkPf _ a n, (addr_In a ⟨a, n⟩ w15).use ?_⟩
    rintro _ w22 ⟨rfl, hx22⟩
    have hX22 := Ext.trans hX15 hx22
    refine ⟨_, rfl, Jn1 (fun b w' => b = true ∧ Ext w w') (fun q hq => ⟨fun _ => (lives12 w22 (ht.ext hX22)).use ?_, fun h => ?_⟩) ?_⟩
    · rintro _ w26 ⟨rfl, hx26⟩
      exact ⟨_, rfl, hq _ _ ⟨rfl, Ext.trans hX22 hx26⟩⟩
    · rw [show (Pf.mk a n).bits = n from rfl, hnone] at h; simp at h
    · rintro _ w' ⟨rfl, hx⟩
      exact ⟨rfl, hx⟩
  · obtain ⟨p, hp'⟩ : ∃ p, maskP a n = some p := by
      cases hh : maskP a n with
      | none => rw [hh] at hyes; cases hyes
      | some p => exact ⟨p, rfl⟩
    rw [hp'] at hp15
    have hpb := (maskP_addr hp').1
    refine ⟨_, hv15.rd (Ad.c_length _), (addr_Mask a m w15).use ?_⟩
    rintro _ w32 ⟨rfl, hx32⟩
    have hX32 := Ext.trans hX15 hx32
    have hv32 := hv15.ext hx32
    have hp32 := hp15.ext hx32
    have hlt32 := hp32.lt
    refine ⟨_, _, rfl, nxVar (vs := Pf.zero.c) rfl fun w36 hr hx36 hz36 => ⟨hr.storeOk (by simp [Pf.c_length]) (Pf.plain _), by simp [Pf.c_length], nxPut hr (us := ((maskP a m).getD Pf.zero).c) (by simp [Pf.c_length]) rfl fun w37 hr37 hc37 hz37 => ?_⟩⟩
    have hX37 : Ext w w37 := Ext.of_chg (Ext.trans hX32 hx36) hc37 hX32.size
    have hv37 := (hv32.ext hx36).chg hc37 (by omega)
    have hp37 := (hp32.ext hx36).chg hc37 (by omega)
    refine ⟨_, hv37.rd (Ad.c_length _), _, hp37.rd (Pf.c_length _), (addr_In a p w37).use ?_⟩
    rintro _ w40 ⟨rfl, hx40⟩
    have hX40 := Ext.trans hX37 hx40
    refine ⟨_, rfl, Jn1 (fun b w' => b = true ∧ Ext w w') (fun q hq => ⟨fun _ => Jn1 (fun b w' => b = true ∧ Ext w w') (fun q2 hq2 => ⟨fun _ => hq2 _ _ ⟨rfl, hX40⟩, fun hc => Jn1 (fun b w' => b = true ∧ Ext w w') (fun q3 hq3 => ⟨fun _ => ?_, fun hb => ?_⟩) ?_⟩) ?_, fun h => ?_⟩) ?_⟩
    · have hc : 0 ≤ m ∧ m ≤ n := by
        simp only [Bool.or_eq_false_iff, decide_eq_false_iff_not] at hc; omega
      obtain ⟨r, hr1, hr2⟩ := maskP_fewer hp' hc.1 hc.2
      have hrb := (maskP_addr hr1).1
      have hp40 := hp37.ext hx40
      have hr40 := hr37.ext hx40
      rw [hr1] at hr40
      refine ⟨p.addr.c, by rw [hp40.rdAt (by rw [Pf.c_length]; decide)]; simp [Pf.c, List.take_left' p.addr.c_length], _, hr40.rd (Pf.c_length _), (addr_In p.addr r w40).use ?_⟩
      rintro _ w48 ⟨rfl, hx48⟩
      refine ⟨_, rfl, hq3 _ _ ⟨?_, Ext.trans hX40 hx48⟩⟩
      rw [hrb, hr2]; simp
    · have hc : 0 ≤ m ∧ m ≤ n := by
        simp only [Bool.or_eq_false_iff, decide_eq_false_iff_not] at hc; omega
      obtain ⟨r, hr1, hr2⟩ := maskP_fewer hp' hc.1 hc.2
      rw [hr1] at hb; cases hb
    · rintro _ w' ⟨rfl, hx⟩
      exact hq2 _ _ ⟨rfl, hx⟩
    · rintro _ w' ⟨rfl, hx⟩
      exact hq _ _ ⟨rfl, hx⟩
    · rw [hpb, hp'] at h; simp at h
    · rintro _ w' ⟨rfl, hx⟩
      refine Jn1 (fun b w' => b = true ∧ Ext w w') (fun q hq => ⟨fun _ => (lives12 w' (ht.ext hx)).use ?_, fun h => by cases h⟩) ?_
      · rintro _ w58 ⟨rfl, hx58⟩
        exact ⟨_, rfl, hq _ _ ⟨rfl, Ext.trans hx hx58⟩⟩
      · rintro _ w'' ⟨rfl, hx⟩
        exact ⟨rfl, hx⟩

/-! ### AddrBytes -/
theorem conv8 {w : World} {s : Sl} {l : List UInt8} (h : Src 1 w s (u8s l)) : Sem.run Tryd.prog (convert Ty.Sl_uint8 Ty.string (.slice s.a s.len s.cap)) w = .ok (.string (S l)) w := by
  have e : u8s l = (l.map fun c => ((c.toNat : Nat) : Int)).map (Value.int .u8) := by simp [u8s]
  rw [e] at h
  rw [conv_byteS (by kernel_rfl) (by kernel_rfl) h]
  congr 3
  rw [List.map_map]
  simp [Function.comp_def]

theorem conv8' {w : World} {a : Option Addr} {s : Sl} {l : List UInt8} {n c : Nat} (h : Src 1 w s (u8s l)) (hn : n = s.len) (hc : c = s.cap) : s.a = a → Sem.run Tryd.prog (convert Ty.Sl_uint8 Ty.string (.slice a n c)) w = .ok (.string (S l)) w := by
  intro e; subst e; subst hn; subst hc; exact conv8 h

theorem addr_Of {s : Sl} {l : List UInt8} {w : World} (hs : Src 1 w s (u8s l)) : Ret Tryd.prog F.addr_Of #[.slice s.a s.len s.cap] w (fun v w' => v = .tuple #[.agg ((ofB l).getD Ad.zero).c.toArray, .bool (ofB l).isSome] ∧ Ext w w') := by
  refine W.addr_Of_ok s w _ ?_
  unfold W.addr_Of
  refine nxVar (vs := Ad.zero.c) rfl fun w1 hv hx1 hz1 => (addr_of (hs.ext hx1)).use ?_
  rintro _ w2 ⟨rfl, hx2⟩
  have hv2 := hv.ext hx2
  refine ⟨_, _, rfl, hv2.storeOk (by simp [Ad.c_length]) (Ad.plain _), by simp [Ad.c_length], nxPut hv2 (us := ((ofB l).getD Ad.zero).c) (by simp [Ad.c_length]) rfl fun w6 hv6 hc6 _ => ?_⟩
  exact ⟨_, hv6.rd (Ad.c_length _), rfl, Ext.of_chg (Ext.trans hx1 hx2) hc6 (Nat.le_refl _)⟩

/-- append([]byte{}, b...) -/
theorem copy8 {w : World} {s : Sl} {l : List UInt8} (h : Src 1 w s (u8s l)) (hl : l.length ≤ 1000000) :
    ∃ (s' : Sl) (w' : World), Sem.run Tryd.prog (Builtin.append_ #[Ty.Sl_uint8, Ty.Sl_uint8] Ty.Sl_uint8 #[.slice (some ⟨w.heap.size, 0, none⟩) 0 0, .slice s.a s.len s.cap]) (w.alloc (.cells #[] Ty.uint8)) = .ok (.slice s'.a s'.len s'.cap) w' ∧
      OwnS 1 Ty.uint8 w' s' (u8s l) ∧ s'.len = l.length ∧ Ext w w' := by
  have hsl : s.len = l.length := by have := h.len; rw [u8s_length] at this; omega
  obtain ⟨s', w', h1, h2, h3, h4, _, _⟩ := appByte.clone (oT := Ty.Sl_uint8) h (u8s_plain l) (by omega)
  exact ⟨s', w', h1, h2, by omega, h4⟩

theorem law01_Few {w : World} {s : Sl} {l : List UInt8} (h : Src 1 w s (u8s l)) (hc : s.len ≤ s.cap) (n : Nat) (hn : n ≤ 1000000) :
    Ret Tryd.prog F.law01_Few #[.slice s.a s.len s.cap, .int .i64 n] w (fun v w' => ∃ s' : Sl, v = .slice s'.a s'.len s'.cap ∧ OwnS 1 Ty.uint8 w' s' (u8s (l.take n)) ∧ s'.len = (l.take n).length ∧ Ext w w') := by
  have hsl : s.len = l.length := by have := h.len; rw [u8s_length] at this; omega
  refine W.law01_Few_ok s n w _ ?_
  unfold W.law01_Few
  refine Jn1 (fun t w' => w = w' ∧ Src 1 w t (u8s (l.take n))) (fun q hq => ⟨fun hgt => ⟨⟨by omega, by have := of_decide_eq_true hgt; omega⟩, hq _ _ ⟨rfl, ?_⟩⟩, fun hle => hq _ _ ⟨rfl, ?_⟩⟩) ?_
  · have hgt := of_decide_eq_true hgt
    have := Src.sub h hc (lo := 0) (hi := n) (by omega) (by omega)
    simpa [u8s, List.map_take] using this
  · have hle := of_decide_eq_false hle
    rw [List.take_of_length_le (by omega)]; exact h
  · rintro t _ ⟨rfl, hs⟩
    obtain ⟨s', w', h1, h2, h3, h4⟩ := copy8 hs (by simp; omega)
    exact nx ⟨s', w', h1, s', rfl, h2, h3, h4⟩

theorem good_raw {a : Ad} (hg : a.good = true) : ofB a.raw = some a := by
  have hl := raw_len416 a
  obtain ⟨b, hb⟩ := ofB_some hl
  rw [hb]
  congr 1
  obtain ⟨h1, h2⟩ := ofB_raw hb
  have hbg := ofB_good hb
  have h6 : b.six = a.six := by
    have h3 := a.raw_length
    rw [Bool.eq_iff_iff, h2, h3]
    cases a.six <;> simp
  refine Ad.ext' h6 ?_
  cases h7 : a.six
  · rw [h7] at h6
    rw [← good_drop hbg h6, ← good_drop hg h7]
    congr 1
    simpa [Ad.raw, h6, h7] using h1
  · rw [h7] at h6
    simpa [Ad.raw, h6, h7] using h1

theorem law_AddrBytes (a : Ad) {s : Sl} {l : List UInt8} (c : Fin 4 → UInt8) (w : World) (ht : Tabs w) (hs : Src 1 w s (u8s l)) (hc : s.len ≤ s.cap) :
    Ret Tryd.prog F.law12_AddrBytes #[.agg a.c.toArray, .slice s.a s.len s.cap, .agg (u8s [c 0, c 1, c 2, c 3]).toArray] w (fun v w' => v = .bool true ∧ Ext w w') := by
  refine W.law12_AddrBytes_ok _ s _ w _ ?_
  unfold W.law12_AddrBytes
  refine nxVar (vs := a.c) rfl fun w1 hv hx1 hz1 => nxVar (vs := u8s [c 0, c 1, c 2, c 3]) rfl fun w2 hv4 hx2 hz2 => ?_
  have hX2 := Ext.trans hx1 hx2
  have hv2 := hv.ext hx2
  refine (law01_Few (hs.ext hX2) hc 20 (by decide)).use ?_
  rintro _ w3 ⟨s5, rfl, ho5, hl5, hx3⟩
  have hX3 := Ext.trans hX2 hx3
  obtain ⟨m, hm⟩ : ∃ m, m = l.take 20 := ⟨_, rfl⟩
  rw [← hm] at ho5 hl5
  have hm20 : m.length ≤ 20 := by rw [hm]; simp; omega
  obtain ⟨s7, w8, hr7, ho7, hl7, hx8⟩ := copy8 ho5.src (by omega)
  refine ⟨s5, rfl, nx ⟨s7, w8, hr7, (addr_Of ho7.src).use ?_⟩⟩
  rintro _ w9 ⟨rfl, hx9⟩
  have hX9 := Ext.trans (Ext.trans hX3 hx8) hx9
  have hv9 := ((hv2.ext hx3).ext hx8).ext hx9
  have hv49 := ((hv4.ext hx3).ext hx8).ext hx9
  have ho59 := (ho5.ext hx8).ext hx9
  have hlt9 := hv49.lt
  refine ⟨_, _, rfl, nxVar (vs := Ad.zero.c) rfl fun w13 hq hx13 hz13 => ⟨hq.storeOk (by simp [Ad.c_length]) (Ad.plain _), by simp [Ad.c_length], nxPut hq (us := ((ofB m).getD Ad.zero).c) (by simp [Ad.c_length]) rfl fun w14 hq14 hc14 hz14 => ?_⟩⟩
  have hX14 : Ext w w14 := Ext.of_chg (Ext.trans hX9 hx13) hc14 hX9.size
  have hv14 := (hv9.ext hx13).chg hc14 (by omega)
  have hv414 := (hv49.ext hx13).chg hc14 (by omega)
  have ho514 := (ho59.ext hx13).chg hc14 (fun k hk e => by have := ho59.lt k hk; omega)
  rw [hl5]
  refine Jn0 (fun w' => Ext w14 w') (fun q hq0 => ⟨fun hno => ?_, fun hyes => ?_⟩) ?_
  · have hno : m.length ≠ 4 ∧ m.length ≠ 16 := by
      simp only [Bool.and_eq_true, bne_iff_ne, ne_eq] at hno; omega
    have hnone : ofB m = none := by unfold ofB; rw [dif_neg hno.1, dif_neg hno.2]
    rw [hnone] at hq14
    refine Jn1 (fun b w' => w14 = w' ∧ b = false) (fun q2 hq2 => ⟨fun h => (by rw [hnone] at h; cases h), fun _ => ⟨_, hq14.rd (Ad.c_length _), _, mkAd0 _, _, eqAd _ _, hq2 _ _ ⟨rfl, by simp⟩⟩⟩) ?_
    rintro _ _ ⟨rfl, rfl⟩
    exact ⟨fun h => (by cases h), fun _ => hq0 _ (.refl _ _)⟩
  · have hyes : m.length = 4 ∨ m.length = 16 := by
      rcases Classical.em (m.length = 4) with h | h
      · exact .inl h
      · rcases Classical.em (m.length = 16) with h2 | h2
        · exact .inr h2
        · exfalso
          have e1 : ((((m.length : Nat) : Int) != 4) && (((m.length : Nat) : Int) != 16)) = true := by
            simp only [Bool.and_eq_true, bne_iff_ne, ne_eq]; omega
          rw [e1] at hyes; cases hyes
    obtain ⟨b, hb⟩ := ofB_some hyes
    have hbr := ofB_raw hb
    rw [hb] at hq14
    have hd : Ext w14 w14.drew := Chg.drew (.refl _ _)
    have hq22 := hq14.drew
    have h6 : w14.drew.cell? ⟨w9.heap.size, 0, none⟩ = some (.bool b.six) := by rw [hq22.cell]; rfl
    refine nx ⟨fun _ => False, fun h => (by rw [hb] at h; cases h), fun _ => ⟨id, b.six, h6, fun h => ?_, fun _ => ⟨id, _, hq22.rd (Ad.c_length _), (ref12_Good b _).use ?_⟩⟩⟩
    · exfalso
      have e : b.six = (((m.length : Nat) : Int) == 16) := by
        rw [Bool.eq_iff_iff, hbr.2, beq_iff_eq]; omega
      rw [e] at h; simp at h
    rintro _ w26 ⟨rfl, hx26⟩
    refine ⟨_, rfl, hx26, fun h => (by rw [ofB_good hb] at h; cases h), fun _ => ⟨id, _, (hq22.ext hx26).rd (Ad.c_length _), S m, fun w30 hc30 => ?_, (ref12_Bytes b w26).use ?_⟩⟩
    · have := conv8 (((ho514.ext hd).ext hx26).ext hc30).src
      rwa [hl5] at this
    rintro _ w32 ⟨s34, rfl, ho34, hl34, hx32⟩
    rw [hbr.1] at ho34
    refine ⟨s34, rfl, hx32, S m, fun w35 hc35 => conv8 (ho34.ext hc35).src, fun h => ?_, fun _ => hq0 _ (Ext.trans (Ext.trans hd hx26) hx32)⟩
    rw [S_beq] at h; simp at h
  rintro w37 hx37
  have hX37 := Ext.trans hX14 hx37
  have hv437 := hv414.ext hx37
  have hv37 := hv14.ext hx37
  have eA : ∀ j : Nat, Addr.add ⟨w1.heap.size, 0, none⟩ (Int.toNat (j : Int) * 1) = ⟨w1.heap.size, j, none⟩ := by intro j; rw [add_mk]; simp
  refine ⟨⟨by decide, by decide⟩, _, by rw [show (0 : Int) = ((0 : Nat) : Int) from rfl, eA, hv437.cell]; rfl, ⟨by decide, by decide⟩, _, by rw [show (1 : Int) = ((1 : Nat) : Int) from rfl, eA, hv437.cell]; rfl, ⟨by decide, by decide⟩, _, by rw [show (2 : Int) = ((2 : Nat) : Int) from rfl, eA, hv437.cell]; rfl, ⟨by decide, by decide⟩, _, by rw [show (3 : Int) = ((3 : Nat) : Int) from rfl, eA, hv437.cell]; rfl, (addr_Four c w37).use ?_⟩
  rintro _ w42 ⟨rfl, hx42⟩
  have hX42 := Ext.trans hX37 hx42
  obtain ⟨f, hf⟩ : ∃ f, f = ad4 [c 0, c 1, c 2, c 3] rfl := ⟨_, rfl⟩
  have hfo : ofB [c 0, c 1, c 2, c 3] = some f := by rw [hf]; exact dif_pos (c := ([c 0, c 1, c 2, c 3] : List UInt8).length = 4) rfl
  have hf6 : f.six = false := by rw [hf]; rfl
  have hfr := (ofB_raw hfo).1
  have hfg := ofB_good hfo
  rw [← hf]
  have hv42 := hv37.ext hx42
  have hv442 := hv437.ext hx42
  have hlt42 := hv442.lt
  refine ⟨_, rfl, nxVar (vs := Ad.zero.c) rfl fun w45 hg hx45 hz45 => ⟨hg.storeOk (by simp [Ad.c_length]) (Ad.plain _), by simp [Ad.c_length], nxPut hg (us := f.c) (by simp [Ad.c_length]) rfl fun w46 hg46 hc46 hz46 => ?_⟩⟩
  have hX46 : Ext w w46 := Ext.of_chg (Ext.trans hX42 hx45) hc46 hX42.size
  have hv46 := (hv42.ext hx45).chg hc46 (by omega)
  have hv446 := (hv442.ext hx45).chg hc46 (by omega)
  have hd : Ext w46 w46.drew := Chg.drew (.refl _ _)
  have hg47 := hg46.drew
  refine nx ⟨fun _ => False, id, f.six, by rw [hg47.cell]; rfl, fun h => (by rw [hf6] at h; cases h), fun _ => ⟨id, _, hg47.rd (Ad.c_length _), (ref12_Good f _).use ?_⟩⟩
  rintro _ w120 ⟨rfl, hx120⟩
  have hX120 := Ext.trans (Ext.trans hX46 hd) hx120
  have hv120 := (hv46.ext hd).ext hx120
  have hv4120 := (hv446.ext hd).ext hx120
  have e4 : cutA (some ⟨w1.heap.size, 0, none⟩) 1 0 4 = some ⟨w1.heap.size, 0, none⟩ := by rw [cut_some (by decide)]
  have hs4 : ∀ w', Ext w120 w' → Src 1 w' ⟨some ⟨w1.heap.size, 0, none⟩, 4, 4⟩ (u8s [c 0, c 1, c 2, c 3]) := fun w' hx => (hv4120.ext hx).src8 (by simp [u8s]) (by simp [u8s])
  refine ⟨_, rfl, hx120, fun h => (by rw [hfg] at h; cases h), fun _ => ⟨id, _, (hg47.ext hx120).rd (Ad.c_length _), S [c 0, c 1, c 2, c 3], fun w193 hc193 => by rw [e4]; exact conv8' (hs4 w193 hc193) rfl rfl rfl, (ref12_Bytes f w120).use ?_⟩⟩
  rintro _ w195 ⟨s197, rfl, ho197, hl197, hx195⟩
  rw [hfr] at ho197
  have hX195 := Ext.trans hX120 hx195
  have hv195 := hv120.ext hx195
  refine ⟨s197, rfl, hx195, S [c 0, c 1, c 2, c 3], fun w198 hc198 => conv8 (ho197.ext hc198).src, fun h => (by rw [S_beq] at h; simp at h), fun _ => ⟨_, hv195.rd (Ad.c_length _), (addr_Bytes a w195).use ?_⟩⟩
  rintro _ w201 ⟨s203, rfl, ho203, hl203, hx201, _⟩
  have hX201 := Ext.trans hX195 hx201
  have hv201 := hv195.ext hx201
  refine ⟨s203, rfl, (addr_Of ho203.src).use ?_⟩
  rintro _ w204 ⟨rfl, hx204⟩
  have hX204 := Ext.trans hX201 hx204
  have hv204 := hv201.ext hx204
  have hlt204 := hv204.lt
  refine ⟨_, _, rfl, nxVar (vs := Ad.zero.c) rfl fun w208 hy hx208 hz208 => ⟨hy.storeOk (by simp [Ad.c_length]) (Ad.plain _), by simp [Ad.c_length], nxPut hy (us := ((ofB a.raw).getD Ad.zero).c) (by simp [Ad.c_length]) rfl fun w209 hy209 hc209 hz209 => ?_⟩⟩
  have hX209 : Ext w w209 := Ext.of_chg (Ext.trans hX204 hx208) hc209 hX204.size
  have hv209 := (hv204.ext hx208).chg hc209 (by omega)
  have hd2 : Ext w209 w209.drew := Chg.drew (.refl _ _)
  refine nx ⟨fun _ => False, id, _, (hv209.ext hd2).rd (Ad.c_length _), id, _, (hv209.ext hd2).rd (Ad.c_length _), (addr_Good a _).use ?_⟩
  rintro _ w214 ⟨rfl, hx214⟩
  refine ⟨_, rfl, hx214, (ref12_Good a w214).use ?_⟩
  rintro _ w217 ⟨rfl, hx217⟩
  have hE217 := Ext.trans hx214 hx217
  have hv217 := (hv209.ext hd2).ext hE217
  have hX217 := Ext.trans (Ext.trans hX209 hd2) hE217
  refine ⟨_, rfl, hx217, fun _ => ⟨id, _, hv217.rd (Ad.c_length _), id, _, hv217.rd (Ad.c_length _), (addr_Bytes a w217).use ?_⟩, fun h => by simp at h⟩
  rintro _ w222 ⟨s224, rfl, ho224, hl224, hx222, _⟩
  refine ⟨s224, rfl, hx222, S a.raw, fun w225 hc225 => conv8 (ho224.ext hc225).src, (ref12_Bytes a w222).use ?_⟩
  rintro _ w227 ⟨s229, rfl, ho229, hl229, hx227⟩
  have hE227 := Ext.trans hx222 hx227
  have hv227 := hv217.ext hE227
  have hX227 := Ext.trans hX217 hE227
  have hy227 := ((hy209.ext hd2).ext hE217).ext hE227
  refine ⟨s229, rfl, hx227, S a.raw, fun w230 hc230 => conv8 (ho229.ext hc230).src, fun _ => ⟨id, _, hv227.rd (Ad.c_length _), (ref12_Good a w227).use ?_⟩, fun h => by rw [S_beq] at h; simp at h⟩
  rintro _ w233 ⟨rfl, hx233⟩
  have hX233 := Ext.trans hX227 hx233
  refine ⟨_, rfl, hx233, fun _ => ?_, fun hg => ?_⟩
  · refine Jn1 (fun b w' => b = true ∧ Ext w w') (fun q hq => ⟨fun _ => (lives12 w233 (ht.ext hX233)).use ?_, fun h => by cases h⟩) ?_
    · rintro _ w' ⟨rfl, hx⟩
      exact ⟨_, rfl, hq _ _ ⟨rfl, Ext.trans hX233 hx⟩⟩
    · rintro _ w' ⟨rfl, hx⟩
      exact ⟨rfl, hx⟩
  · have hg : a.good = true := by simpa using hg
    have hra := good_raw hg
    rw [hra] at hy227
    refine ⟨fun _ => ⟨id, _, (hy227.ext hx233).rd (Ad.c_length _), id, _, (hv227.ext hx233).rd (Ad.c_length _), _, eqAd _ _, ?_⟩, fun h => by rw [hra] at h; cases h⟩
    refine Jn1 (fun b w' => b = true ∧ Ext w w') (fun q hq => ⟨fun _ => (lives12 w233 (ht.ext hX233)).use ?_, fun h => by simp at h⟩) ?_
    · rintro _ w' ⟨rfl, hx⟩
      exact ⟨_, rfl, hq _ _ ⟨rfl, Ext.trans hX233 hx⟩⟩
    · rintro _ w' ⟨rfl, hx⟩
      exact ⟨rfl, hx⟩

set_option maxRecDepth 100000 in
theorem n4_of {w : World} {v : Value} (h : OkV Tryd.prog w Ty.n4_uint8 v) : ∃ c : Fin 4 → UInt8, v = .agg (u8s [c 0, c 1, c 2, c 3]).toArray := by
  obtain ⟨cs, rfl, h2⟩ := okV_flat h (d := (Tryd.prog.underlying Ty.n4_uint8).get (by kernel_rfl)) (ls := bytesL 4) (Option.some_get _).symm (by kernel_rfl) (by kernel_rfl) (by kernel_rfl)
  obtain ⟨l, hl, rfl⟩ := okRs_bytes h2
  refine ⟨fun i => l[i.val]'(by have := i.isLt; omega), ?_⟩
  congr 2
  match l, hl with
  | [a, b, c, d], _ => rfl
theorem u8s_of {w : World} {s : Sl} (h : IntsAt .u8 w s) : ∃ l : List UInt8, Src 1 w s (u8s l) := by
  obtain ⟨ns, _, h2, h3⟩ := h.src
  refine ⟨ns.map fun n => UInt8.ofNat n.toNat, ?_⟩
  have e : u8s (ns.map fun n => UInt8.ofNat n.toNat) = ns.map (.int .u8) := by
    unfold u8s
    rw [List.map_map]
    refine List.map_congr_left fun n hn => ?_
    have h4 := h2 n hn
    have e1 : IntKind.min .u8 = 0 := rfl
    have e2 : IntKind.max .u8 = 255 := rfl
    rw [e1, e2] at h4
    simp only [Function.comp]
    congr 1
    simp
    omega
  rw [e]; exact h3

end Go.Proofs.YtcjpgabpihkcjaaDoor
