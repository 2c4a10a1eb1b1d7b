/- The laws AddrMasks and AddrBytes. -/
import Derived.Test.YtcjpgabpihkcjaaGreatDoorAddrH
namespace Go.Proofs.YtcjpgabpihkcjaaGreatDoor
open Go Gx

theorem mb_mb : ∀ c : Nat, c < 256 → ∀ k : Nat, k < 9 → ∀ j : Nat, j ≤ k → mb (mb c k) j = mb c j := by decide +kernel
theorem kb_le {m n i : Nat} (h : m ≤ n) : kb m i ≤ kb n i := by unfold kb; omega
theorem maskB_maskB {m n : Nat} (h : m ≤ n) (l : List UInt8) : maskB m (maskB n l) = maskB m l := by
  apply List.ext_getElem
  · simp [maskB]
  · intro i h1 h2
    simp only [maskB, List.getElem_mapIdx]
    have e : ∀ c : UInt8, mbyte (mbyte c (kb n i)) (kb m i) = mbyte c (kb m i) := by
      intro c
      unfold mbyte
      rw [ofNat_val (by have := mb_le c.toNat (kb n i); have := UInt8.toNat_lt c; omega), mb_mb _ (UInt8.toNat_lt c) _ (by unfold kb; omega) _ (kb_le h)]
    exact e _
theorem ofB_raw {l : List UInt8} {a : Ad} (h : ofB l = some a) : a.raw = l ∧ (a.six = true ↔ l.length = 16) := by
  unfold ofB at h
  split at h
  · rename_i h4
    cases h
    refine ⟨?_, ?_⟩
    · show (zeros 12 ++ l).drop 12 = l
      exact List.drop_left' (by simp [zeros])
    · simp [ad4, h4]
  · split at h
    · rename_i h16; cases h; exact ⟨rfl, by simp [h16]⟩
    · cases h
theorem ofB_some {l : List UInt8} (h : l.length = 4 ∨ l.length = 16) : ∃ a, ofB l = some a := by
  unfold ofB
  rcases h with h | h
  · exact ⟨_, dif_pos h⟩
  · rw [dif_neg (by omega)]; exact ⟨_, dif_pos h⟩
theorem raw_len416 (a : Ad) : a.raw.length = 4 ∨ a.raw.length = 16 := by rw [a.raw_length]; split <;> simp

theorem maskP_addr {a : Ad} {n : Int} {p : Pf} (h : maskP a n = some p) : p.bits = n ∧ p.addr.good = true ∧ p.addr.raw = maskB n.toNat a.raw ∧ p.addr.raw.length = a.raw.length := by
  unfold maskP at h
  split at h
  · rename_i hc
    have hl : (maskB n.toNat a.raw).length = 4 ∨ (maskB n.toNat a.raw).length = 16 := by rw [maskB_length]; exact raw_len416 a
    obtain ⟨b, hb⟩ := ofB_some hl
    rw [hb] at h
    cases h
    have hr := ofB_raw hb
    exact ⟨rfl, ofB_good hb, hr.1, by show b.raw.length = _; rw [hr.1, maskB_length]⟩
  · cases h
theorem maskP_fewer {a : Ad} {n m : Int} {p : Pf} (h : maskP a n = some p) (h0 : 0 ≤ m) (h1 : m ≤ n) : ∃ r, maskP a m = some r ∧ maskP p.addr m = some r := by
  obtain ⟨e1, e2, e3, e4⟩ := maskP_addr h
  unfold maskP at h
  split at h
  · rename_i hc
    refine ⟨_, by unfold maskP; rw [if_pos ⟨hc.1, h0, by omega⟩], ?_⟩
    unfold maskP
    rw [if_pos ⟨e2, h0, by omega⟩, e3, maskB_maskB (by omega)]
  · cases h

/-! ### AddrBytes -/
theorem conv8 {w : World} {s : Sl} {l : List UInt8} (h : Src 1 w s (u8s l)) : Sem.run Tryz.prog (convert Ty.Sl_uint8 Ty.string (.slice s.a s.len s.cap)) w = .ok (.string (S l)) w := by
  have e : u8s l = (l.map fun c => ((c.toNat : Nat) : Int)).map (Value.int .u8) := by simp [u8s]
  rw [e] at h
  rw [conv_byteS (by kernel_rfl) (by kernel_rfl) h]
  congr 3
  rw [List.map_map]
  simp [Function.comp_def]

theorem conv8' {w : World} {a : Option Addr} {s : Sl} {l : List UInt8} {n c : Nat} (h : Src 1 w s (u8s l)) (hn : n = s.len) (hc : c = s.cap) : s.a = a → Sem.run Tryz.prog (convert Ty.Sl_uint8 Ty.string (.slice a n c)) w = .ok (.string (S l)) w := by
  intro e; subst e; subst hn; subst hc; exact conv8 h

/-- append([]byte{}, b...) -/
theorem copy8 {w : World} {s : Sl} {l : List UInt8} (h : Src 1 w s (u8s l)) (hl : l.length ≤ 1000000) :
    ∃ (s' : Sl) (w' : World), Sem.run Tryz.prog (Builtin.append_ #[Ty.Sl_uint8, Ty.Sl_uint8] Ty.Sl_uint8 #[.slice (some ⟨w.heap.size, 0, none⟩) 0 0, .slice s.a s.len s.cap]) (w.alloc (.cells #[] Ty.uint8)) = .ok (.slice s'.a s'.len s'.cap) w' ∧
      OwnS 1 Ty.uint8 w' s' (u8s l) ∧ s'.len = l.length ∧ Ext w w' := by
  have hsl : s.len = l.length := by have := h.len; rw [u8s_length] at this; omega
  obtain ⟨s', w', h1, h2, h3, h4, _, _⟩ := appByte.clone (oT := Ty.Sl_uint8) h (u8s_plain l) (by omega)
  exact ⟨s', w', h1, h2, by omega, h4⟩

theorem good_raw {a : Ad} (hg : a.good = true) : ofB a.raw = some a := by
  have hl := raw_len416 a
  obtain ⟨b, hb⟩ := ofB_some hl
  rw [hb]
  congr 1
  obtain ⟨h1, h2⟩ := ofB_raw hb
  have hbg := ofB_good hb
  have h6 : b.six = a.six := by
    have h3 := a.raw_length
    rw [Bool.eq_iff_iff, h2, h3]
    cases a.six <;> simp
  refine Ad.ext' h6 ?_
  cases h7 : a.six
  · rw [h7] at h6
    rw [← good_drop hbg h6, ← good_drop hg h7]
    congr 1
    simpa [Ad.raw, h6, h7] using h1
  · rw [h7] at h6
    simpa [Ad.raw, h6, h7] using h1

theorem u8s_of {w : World} {s : Sl} (h : IntsAt .u8 w s) : ∃ l : List UInt8, Src 1 w s (u8s l) := by
  obtain ⟨ns, _, h2, h3⟩ := h.src
  refine ⟨ns.map fun n => UInt8.ofNat n.toNat, ?_⟩
  have e : u8s (ns.map fun n => UInt8.ofNat n.toNat) = ns.map (.int .u8) := by
    unfold u8s
    rw [List.map_map]
    refine List.map_congr_left fun n hn => ?_
    have h4 := h2 n hn
    have e1 : IntKind.min .u8 = 0 := rfl
    have e2 : IntKind.max .u8 = 255 := rfl
    rw [e1, e2] at h4
    simp only [Function.comp]
    congr 1
    simp
    omega
  rw [e]; exact h3

end Go.Proofs.YtcjpgabpihkcjaaGreatDoor
