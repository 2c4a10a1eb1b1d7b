/- The reference's Mask. -/
import Derived.Test.YtcjpgabpihkcjaaGreatDoorAddrB
namespace Go.Proofs.YtcjpgabpihkcjaaGreatDoor
open Go Gx

theorem kb_at (i : Nat) : kb i (i / 8) = i % 8 := by unfold kb; omega
theorem kb_next (i : Nat) : kb (i + 1) (i / 8) = i % 8 + 1 := by unfold kb; omega
theorem kb_other {i j : Nat} (h : j ≠ i / 8) : kb (i + 1) j = kb i j := by unfold kb; omega

theorem maskB_next {i : Nat} {l : List UInt8} (h : i / 8 < l.length) : maskB (i + 1) l = (maskB i l).set (i / 8) (mbyte l[i / 8] (i % 8 + 1)) := by
  apply List.ext_getElem
  · simp [maskB]
  · intro j h1 h2
    simp only [maskB, List.getElem_mapIdx, List.getElem_set]
    by_cases e : i / 8 = j
    · subst e; rw [if_pos rfl, kb_next]
    · rw [if_neg e, kb_other (fun h => e h.symm)]
theorem maskB_same {i : Nat} {l : List UInt8} (h : i / 8 < l.length) (hb : mbyte l[i / 8] (i % 8) = mbyte l[i / 8] (i % 8 + 1)) : maskB (i + 1) l = maskB i l := by
  rw [maskB_next h, ← hb]
  apply List.ext_getElem
  · simp
  · intro j h1 h2
    simp only [List.getElem_set]
    by_cases e : i / 8 = j
    · subst e; rw [if_pos rfl]; simp only [maskB, List.getElem_mapIdx, kb_at]
    · rw [if_neg e]
theorem maskB_zero (l : List UInt8) : maskB 0 l = zeros l.length := by
  apply List.ext_getElem
  · simp [maskB, zeros]
  · intro j h1 h2
    simp only [maskB, List.getElem_mapIdx, zeros, List.getElem_replicate]
    have : kb 0 j = 0 := by unfold kb; omega
    rw [this]
    unfold mbyte
    rw [mb_zero _ (UInt8.toNat_lt _)]; rfl

theorem mkAd1 (w : World) (six : Bool) : Sem.run Tryz.prog (Instr.build Ty.api_Addr #[(0, .bool six)]) w = .ok (.agg (Ad.mk six (zeros 16) (by simp [zeros])).c.toArray) w := by kernel_rfl

/-- The reference's bytes behind so many bits. -/
def refB (a : Ad) (k : Nat) : List UInt8 := zeros a.from' ++ maskB k a.raw
theorem refB_length (a : Ad) (k : Nat) : (refB a k).length = 16 := by
  unfold refB
  rw [List.length_append, maskB_length, a.raw_length]
  unfold Ad.from'
  split <;> simp [zeros]
theorem refB_zero (a : Ad) : refB a 0 = zeros 16 := by
  unfold refB
  rw [maskB_zero, a.raw_length]
  unfold Ad.from'
  split <;> simp [zeros]

theorem refB_next (a : Ad) {k : Nat} (h : k / 8 < a.raw.length) : (refB a k).set (a.from' + k / 8) (mbyte a.raw[k / 8] (k % 8 + 1)) = refB a (k + 1) := by
  unfold refB
  rw [List.set_append_right (h := by simp [zeros]), maskB_next h]
  simp [zeros]

theorem Var.setC {w : World} {b : Nat} {vs : List Value} {T : TypeId} (h : Var w b vs T) (i : Nat) (v : Value) : Var (w.setCell ⟨b, i, none⟩ v) b (vs.set i v) T := by
  have := Blk.set h i v
  simpa [Var] using this

theorem raw_at (a : Ad) {j : Nat} (h : j < a.raw.length) : a.from' + j < 16 ∧ ∀ h2, a.b[a.from' + j]'h2 = a.raw[j] := by
  have hl := a.raw_length
  have hf : a.from' = if a.six then 0 else 12 := rfl
  refine ⟨?_, fun h2 => ?_⟩
  · rw [hf]; rw [hl] at h; split at h <;> simp_all <;> omega
  · unfold Ad.raw
    simp only [hf]
    split <;> simp

theorem ref12_Mask (a : Ad) (n : Int) (w : World) : Ret Tryz.prog F.ref12_Mask #[.agg a.c.toArray, .int .i64 n] w (fun v w' => v = .tuple #[.agg ((maskP a n).getD Pf.zero).c.toArray, .bool (maskP a n).isSome] ∧ Ext w w') := by
  refine W.ref12_Mask_ok _ n w _ ?_
  unfold W.ref12_Mask
  refine nxVar (vs := a.c) rfl fun w1 hv hx1 hz1 => nxVar (vs := Pf.zero.c) rfl fun w2 hp hx2 hz2 => ?_
  have hv := hv.ext hx2
  have hx2 := Ext.trans hx1 hx2
  have hsz1 : w.heap.size ≤ w1.heap.size := hx1.size
  refine ⟨a.c, hv.rd a.c_length, (ref12_From a w2).use ?_⟩
  rintro _ w4 ⟨rfl, hx4⟩
  have hv4 := hv.ext hx4
  refine ⟨_, rfl, a.c, hv4.rd a.c_length, (ref12_Good a w4).use ?_⟩
  rintro _ w8 ⟨rfl, hx8⟩
  have hv8 := hv4.ext hx8
  have hp8 := (hp.ext hx4).ext hx8
  have hX8 : Ext w w8 := Ext.trans (Ext.trans hx2 hx4) hx8
  have hf12 : a.from' ≤ 12 := by unfold Ad.from'; split <;> omega
  have hrl : a.raw.length = 16 - a.from' := by rw [a.raw_length]; unfold Ad.from'; split <;> rfl
  obtain ⟨hc1, hc2⟩ := mask_cond a n
  refine ⟨a.good, rfl, ?_⟩
  rw [wrapi (n := 16 - ((a.from' : Nat) : Int)) (by omega) (by omega), wrapi (n := 8 * (16 - ((a.from' : Nat) : Int))) (by omega) (by omega), show 16 - ((a.from' : Nat) : Int) = ((a.raw.length : Nat) : Int) by omega]
  refine ⟨fun h => ?_, fun h => ?_⟩
  · rw [hc1 h]
    refine ⟨_, mkPf0 _, hp8.storeOk rfl (Pf.plain _), rfl, nxPut hp8 rfl rfl fun w9 hp9 hc9 _ => ?_⟩
    exact ⟨_, hp9.rd (Pf.c_length _), rfl, Ext.of_chg hX8 hc9 hsz1⟩
  · obtain ⟨hg, hn0, hn1⟩ := hc2 h
    refine ⟨a.six, hv8.cell, _, mkAd1 _ _, _, mkPf _ _ n, nxVar (vs := Pf.zero.c) rfl fun w17 hq hx17 hz17 => ⟨hq.storeOk (by simp [Pf.c_length]) (Pf.plain _), by simp [Pf.c_length], nxPut hq (us := (Pf.mk (Ad.mk a.six (refB a 0) (refB_length a 0)) n).c) (by simp [Pf.c_length]) (by simp [refB_zero]) fun w18 hq18 hc18 hz18 => ?_⟩⟩
    have hv18 := (hv8.ext hx17).chg hc18 (by have := hv8.lt; omega)
    have hp18 := (hp8.ext hx17).chg hc18 (by have := hp8.lt; omega)
    have hX18 : Ext w w18 := Ext.of_chg (Ext.trans hX8 hx17) hc18 hX8.size
    refine ⟨fun i w' => ∃ k : Nat, i = k ∧ (k : Int) ≤ n ∧ Chg (fun q => q = w8.heap.size) w18 w' ∧ Var w' w8.heap.size (Pf.mk (Ad.mk a.six (refB a k) (refB_length a k)) n).c Ty.api_Prefix, fun i _ => (n - i).toNat, ⟨0, rfl, by omega, .refl _ _, hq18⟩, ?_⟩
    rintro _ w22 ⟨k, rfl, hk, hc22, hq22⟩
    have hv22 := hv18.chg hc22 (by have := hv8.lt; omega)
    have hp22 := hp18.chg hc22 (by have := hp8.lt; omega)
    refine ⟨fun hlt => ?_, fun hge => ?_⟩
    · have hlt : (k : Int) < n := of_decide_eq_true hlt
      have hq8 : k / 8 < a.raw.length := by omega
      obtain ⟨hfq, hbq⟩ := raw_at a hq8
      have hcv := a.cB (i := a.from' + k / 8) hfq
      rw [hbq] at hcv
      have hc256 : (a.raw[k / 8]).toNat < 256 := UInt8.toNat_lt _
      obtain ⟨hs1, hs2⟩ := mb_step (a.raw[k / 8]).toNat hc256 (k % 8) (Nat.mod_lt _ (by omega))
      have ediv : Int.tdiv (k : Int) 8 = ((k / 8 : Nat) : Int) := by rw [tdiv_nn (by omega)]; rfl
      have emod : Int.tmod (k : Int) 8 = ((k % 8 : Nat) : Int) := by rw [tmod_nn (by omega)]; rfl
      rw [ediv, emod, wrapi (n := ((k / 8 : Nat) : Int)) (by omega) (by omega), wrapi (n := ((a.from' : Nat) : Int) + ((k / 8 : Nat) : Int)) (by omega) (by omega), wrapi (n := 7 - ((k % 8 : Nat) : Int)) (by omega) (by omega), wr64 (n := 7 - ((k % 8 : Nat) : Int)) (by omega) (by omega), show 7 - ((k % 8 : Nat) : Int) = ((7 - k % 8 : Nat) : Int) by omega]
      have eA : ∀ b : Nat, Addr.add (Addr.add ⟨b, 0, none⟩ 1) (Int.toNat (((a.from' : Nat) : Int) + ((k / 8 : Nat) : Int)) * 1) = ⟨b, 1 + (a.from' + k / 8), none⟩ := by
        intro b; rw [add_mk, add_mk]; congr 1; omega
      rw [eA, eA]
      have hcq : (Pf.mk (Ad.mk a.six (refB a k) (refB_length a k)) n).c[1 + (a.from' + k / 8)]? = some (.int .u8 ((mb (a.raw[k / 8]).toNat (k % 8) : Nat) : Int)) := by
        rw [Pf.c, List.getElem?_append_left (by rw [Ad.c_length]; omega), Ad.cB _ hfq]
        have : (refB a k)[a.from' + k / 8]'(by rw [refB_length]; exact hfq) = mbyte a.raw[k / 8] (k % 8) := by
          unfold refB
          rw [List.getElem_append_right (by simp [zeros])]
          simp only [zeros, List.length_replicate, Nat.add_sub_cancel_left, maskB, List.getElem_mapIdx, kb_at]
        simp only [this, mbyte_val]
      have hmeas : ((n - ((k : Int) + 1)).toNat) < (n - (k : Int)).toNat := by omega
      refine Jn0 (fun w' => Chg (fun q => q = w8.heap.size) w18 w' ∧ Var w' w8.heap.size (Pf.mk (Ad.mk a.six (refB a (k + 1)) (refB_length a (k + 1))) n).c Ty.api_Prefix) (fun q hq => ⟨by decide, ⟨by omega, by omega⟩, _, by rw [hv22.cell]; exact hcv, by decide, by omega, by decide, fun hb => ?_, fun hb => ?_⟩) ?_
      · refine ⟨by decide, by decide, ⟨by omega, by omega⟩, _, by rw [hq22.cell]; exact hcq, by decide, by omega, ⟨by omega, by omega⟩, ⟨_, by rw [hq22.cell]; exact hcq⟩, Blk.frozen hq22 _ rfl, nx (hq _ ⟨Chg.cellB hc22 _, ?_⟩)⟩
        rw [hs1 hb]
        have := hq22.setC (1 + (a.from' + k / 8)) (.int .u8 ((mb (a.raw[k / 8]).toNat (k % 8 + 1) : Nat) : Int))
        have e : (Pf.mk (Ad.mk a.six (refB a k) (refB_length a k)) n).c.set (1 + (a.from' + k / 8)) (.int .u8 ((mb (a.raw[k / 8]).toNat (k % 8 + 1) : Nat) : Int)) = (Pf.mk (Ad.mk a.six (refB a (k + 1)) (refB_length a (k + 1))) n).c := by
          rw [Pf.c, List.set_append_left (h := by rw [Ad.c_length]; omega), Pf.c]
          congr 1
          rw [Ad.c, Nat.add_comm 1, List.set_cons_succ, Ad.c]
          congr 1
          show (u8s (refB a k)).set _ _ = u8s (refB a (k + 1))
          rw [← mbyte_val, u8s_set, refB_next a hq8]
        rwa [e] at this
      · refine hq _ ⟨hc22, ?_⟩
        have hbb : mbyte a.raw[k / 8] (k % 8) = mbyte a.raw[k / 8] (k % 8 + 1) := by unfold mbyte; rw [hs2 hb]
        have e : refB a (k + 1) = refB a k := by unfold refB; rw [maskB_same hq8 hbb]
        simp only [e]
        exact hq22
      · rintro w27 ⟨hc27, hq27⟩
        rw [wrapi (n := (k : Int) + 1) (by omega) (by omega)]
        exact ⟨⟨k + 1, by omega, by omega, hc27, hq27⟩, hmeas⟩
    · have hge : n = (k : Int) := by have := of_decide_eq_false hge; omega
      have hres : maskP a n = some ⟨Ad.mk a.six (refB a k) (refB_length a k), n⟩ := by
        unfold maskP
        rw [if_pos ⟨hg, hn0, hn1⟩]
        congr 2
        have hkn : n.toNat = k := by omega
        rw [hkn]
        apply Ad.ext'
        · cases h6 : a.six
          · have : (maskB k a.raw).length = 4 := by rw [maskB_length, a.raw_length, h6]; rfl
            simp [ofB, this, ad4]
          · have : (maskB k a.raw).length = 16 := by rw [maskB_length, a.raw_length, h6]; rfl
            simp [ofB, this]
        · cases h6 : a.six
          · have : (maskB k a.raw).length = 4 := by rw [maskB_length, a.raw_length, h6]; rfl
            simp [ofB, this, ad4, refB, Ad.from', h6]
          · have : (maskB k a.raw).length = 16 := by rw [maskB_length, a.raw_length, h6]; rfl
            simp [ofB, this, refB, Ad.from', h6, zeros]
      refine ⟨_, hq22.rd (Pf.c_length _), hp22.storeOk (by simp [Pf.c_length]) (Pf.plain _), by simp [Pf.c_length], nxPut hp22 (us := (Pf.mk (Ad.mk a.six (refB a k) (refB_length a k)) n).c) (by simp [Pf.c_length]) rfl fun w29 hp29 hc29 _ => ?_⟩
      have hX22 : Ext w w22 := Ext.of_chg hX18 hc22 hX8.size
      refine ⟨_, hp29.rd (Pf.c_length _), ?_, Ext.of_chg hX22 hc29 hsz1⟩
      rw [hres]
      rfl

end Go.Proofs.YtcjpgabpihkcjaaGreatDoor
