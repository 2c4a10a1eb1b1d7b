/- mask, In; the reference's From, Good, Bytes, Mask. -/
import Derived.Test.YtcjpgabpihkcjaaGreatDoorAddrA
import Derived.Test.YtcjpgabpihkcjaaGreatDoorWr
namespace Go.Proofs.YtcjpgabpihkcjaaGreatDoor
open Go Gx

/-- The first k bits of a byte. -/
def mb (c k : Nat) : Nat := c / 2 ^ (8 - k) * 2 ^ (8 - k)
theorem mb_le (c k : Nat) : mb c k ≤ c := Nat.div_mul_le_self _ _
def mbyte (c : UInt8) (k : Nat) : UInt8 := UInt8.ofNat (mb c.toNat k)
theorem mbyte_val (c : UInt8) (k : Nat) : (mbyte c k).toNat = mb c.toNat k := by
  have := mb_le c.toNat k
  have := UInt8.toNat_lt c
  exact ofNat_val (by omega)
theorem mb_zero (c : Nat) (h : c < 256) : mb c 0 = 0 := by
  have : c / 2 ^ 8 = 0 := Nat.div_eq_of_lt h
  simp [mb]; omega
theorem mb_and : ∀ c : Nat, c < 256 → ∀ k : Nat, k < 9 → bAnd .u8 (c : Int) (IntKind.wrap .u8 (255 * 2 ^ (min (Int.toNat (8 - (k : Int))) 8))) = ((mb c k : Nat) : Int) := by decide +kernel
theorem mb_step : ∀ c : Nat, c < 256 → ∀ m : Nat, m < 8 → ((Int.tmod (Int.fdiv (c : Int) (2 ^ (min (Int.toNat ((7 - m : Nat) : Int)) 8))) 2 == 1) = true → IntKind.wrap .u8 (((mb c m : Nat) : Int) + IntKind.wrap .u8 (1 * 2 ^ (min (Int.toNat ((7 - m : Nat) : Int)) 8))) = ((mb c (m + 1) : Nat) : Int)) ∧
    ((Int.tmod (Int.fdiv (c : Int) (2 ^ (min (Int.toNat ((7 - m : Nat) : Int)) 8))) 2 == 1) = false → mb c m = mb c (m + 1)) := by decide +kernel

/-- How many bits count of the byte at a place. -/
def kb (n i : Nat) : Nat := min (n - 8 * i) 8
def maskB (n : Nat) (l : List UInt8) : List UInt8 := l.mapIdx fun i c => mbyte c (kb n i)
theorem maskB_length (n : Nat) (l : List UInt8) : (maskB n l).length = l.length := by simp [maskB]
theorem maskB_get {n : Nat} {l : List UInt8} {i : Nat} (h : i < l.length) : (maskB n l)[i]? = some (mbyte l[i] (kb n i)) := by
  simp [maskB, h]
/-- .. up to a place. -/
def maskTo (n : Nat) (l : List UInt8) (k : Nat) : List UInt8 := l.mapIdx fun i c => if i < k then mbyte c (kb n i) else c
theorem maskTo_length (n : Nat) (l : List UInt8) (k : Nat) : (maskTo n l k).length = l.length := by simp [maskTo]
theorem maskTo_zero (n : Nat) (l : List UInt8) : maskTo n l 0 = l := by
  apply List.ext_getElem
  · simp [maskTo]
  · intro i h1 h2; simp [maskTo]
theorem maskTo_all (n : Nat) (l : List UInt8) : maskTo n l l.length = maskB n l := by
  apply List.ext_getElem
  · simp [maskTo, maskB]
  · intro i h1 h2
    have : i < l.length := by simpa [maskB] using h2
    simp [maskTo, maskB, this]
theorem maskTo_succ {n : Nat} {l : List UInt8} {k : Nat} (h : k < l.length) : maskTo n l (k + 1) = (maskTo n l k).set k (mbyte l[k] (kb n k)) := by
  apply List.ext_getElem
  · simp [maskTo]
  · intro i h1 h2
    simp only [maskTo, List.getElem_mapIdx, List.getElem_set]
    by_cases e : k = i
    · subst e; simp
    · rw [if_neg e]
      by_cases h3 : i < k
      · simp [h3, show i < k + 1 by omega]
      · simp [h3, show ¬ i < k + 1 by omega]
theorem maskTo_get {n : Nat} {l : List UInt8} {k : Nat} (h : k < l.length) : (maskTo n l k)[k]? = some l[k] := by simp [maskTo, h]

theorem u8s_set {l : List UInt8} {i : Nat} {x : UInt8} : (u8s l).set i (.int .u8 ((x.toNat : Nat) : Int)) = u8s (l.set i x) := by simp [u8s, List.map_set]
theorem u8s_get' {l : List UInt8} {i : Nat} {x : UInt8} (h : l[i]? = some x) : (u8s l)[i]? = some (.int .u8 ((x.toNat : Nat) : Int)) := by simp [u8s, h]

/-- An address's prefix of so many bits. -/
def maskP (a : Ad) (n : Int) : Option Pf := if a.good = true ∧ 0 ≤ n ∧ n ≤ 8 * (a.raw.length : Int) then some ⟨(ofB (maskB n.toNat a.raw)).getD Ad.zero, n⟩ else none

theorem mask_cond (a : Ad) (n : Int) : ((((!a.good) || (decide (n < 0))) || (decide (n > 8 * (a.raw.length : Int)))) = true → maskP a n = none) ∧ ((((!a.good) || (decide (n < 0))) || (decide (n > 8 * (a.raw.length : Int)))) = false → a.good = true ∧ 0 ≤ n ∧ n ≤ 8 * (a.raw.length : Int)) := by
  unfold maskP
  cases hg : a.good
  · simp
  · simp; omega

theorem addr_mask (a : Ad) (n : Int) (w : World) : Ret Tryz.prog F.addr_mask #[.agg a.c.toArray, .int .i64 n] w (fun v w' => v = .tuple #[.agg ((maskP a n).getD Pf.zero).c.toArray, .bool (maskP a n).isSome] ∧ Ext w w') := by
  refine W.addr_mask_ok _ n w _ ?_
  unfold W.addr_mask
  refine nxVar (vs := a.c) rfl fun w1 hv hx1 hz1 => nxVar (vs := Pf.zero.c) rfl fun w2 hp hx2 hz2 => ?_
  have hv := hv.ext hx2
  have hx2 := Ext.trans hx1 hx2
  have hsz1 : w.heap.size ≤ w1.heap.size := hx1.size
  have hlt2 : w1.heap.size < w2.heap.size := by omega
  refine ⟨a.c, hv.rd a.c_length, (addr_Bytes a w2).use ?_⟩
  rintro _ w4 ⟨s, rfl, ho, hsl, hx4, hf⟩
  have hv4 := hv.ext hx4
  refine ⟨s, rfl, a.c, hv4.rd a.c_length, (addr_good a w4).use ?_⟩
  rintro _ w8 ⟨rfl, hx8⟩
  have hp8 := (hp.ext hx4).ext hx8
  have ho8 := ho.ext hx8
  have hX8 : Ext w w8 := Ext.trans (Ext.trans hx2 hx4) hx8
  have hrl := a.raw_length
  have hrl16 : a.raw.length ≤ 16 := by rw [hrl]; split <;> omega
  obtain ⟨hc1, hc2⟩ := mask_cond a n
  refine ⟨a.good, rfl, ?_⟩
  rw [wrapi (n := 8 * ((s.len : Nat) : Int)) (by omega) (by omega)]
  refine ⟨fun h => ?_, fun h => ?_⟩
  · rw [hsl] at h
    rw [hc1 h]
    refine ⟨_, mkPf0 _, hp8.storeOk rfl (Pf.plain _), rfl, nxPut hp8 rfl rfl fun w9 hp9 hc9 _ => ?_⟩
    exact ⟨_, hp9.rd (Pf.c_length _), rfl, Ext.of_chg hX8 hc9 hsz1⟩
  · rw [hsl] at h
    obtain ⟨hg, hn0, hn1⟩ := hc2 h
    refine ⟨fun i w' => ∃ k : Nat, i = k ∧ k ≤ a.raw.length ∧ Chg (ownB s) w8 w' ∧ OwnS 1 Ty.uint8 w' s (u8s (maskTo n.toNat a.raw k)), fun i _ => ((a.raw.length : Int) - i).toNat, ⟨0, rfl, Nat.zero_le _, .refl _ _, by rw [maskTo_zero]; exact ho8⟩, ?_⟩
    rintro _ w17 ⟨k, rfl, hk, hc17, ho17⟩
    refine ⟨fun hlt => ?_, fun hge => ?_⟩
    · have hlt : k < a.raw.length := by have := of_decide_eq_true hlt; omega
      have ho22 := ho17.ext (Chg.drew (.refl _ _) : Ext w17 w17.drew)
      obtain ⟨A, hA, hb, hcell, hfr, hoB, hset⟩ := ho22.at (u8s_get' (maskTo_get (n := n.toNat) hlt))
      have hc256 : (a.raw[k]).toNat < 256 := UInt8.toNat_lt _
      have hk8 : (8 : Int) * (k : Int) = ((8 * k : Nat) : Int) := by omega
      refine ⟨_, w17, run_max_int2 .., _, w17, run_min_int2 .., nx ⟨A, hA, hb, id, _, hcell, ?_⟩⟩
      rw [wrapi (n := 8 * (k : Int)) (by omega) (by omega), wrapi (n := n - 8 * (k : Int)) (by omega) (by omega)]
      have ekb : (if (8 : Int) < (if (0 : Int) > n - 8 * (k : Int) then 0 else n - 8 * (k : Int)) then (8 : Int) else (if (0 : Int) > n - 8 * (k : Int) then 0 else n - 8 * (k : Int))) = ((kb n.toNat k : Nat) : Int) := by
        unfold kb
        split <;> split <;> omega
      rw [ekb]
      have hkb : kb n.toNat k < 9 := by unfold kb; omega
      rw [wrapi (n := 8 - ((kb n.toNat k : Nat) : Int)) (by omega) (by omega), mb_and _ hc256 _ hkb, wrapi (n := (k : Int) + 1) (by omega) (by omega)]
      refine ⟨by omega, A, hA, hb, ⟨_, hcell⟩, hfr, nx ⟨⟨k + 1, by omega, by omega, ?_, ?_⟩, ?_⟩⟩
      · exact Chg.set (Chg.drew hc17) (fun _ => hoB) _
      · have := hset (.int .u8 ((mbyte a.raw[k] (kb n.toNat k)).toNat : Nat))
        rw [u8s_set, ← maskTo_succ hlt, mbyte_val] at this
        exact this
      · show ((a.raw.length : Int) - ((k : Int) + 1)).toNat < ((a.raw.length : Int) - (k : Int)).toNat
        omega
    · have hge : k = a.raw.length := by have := of_decide_eq_false hge; omega
      subst hge
      rw [maskTo_all] at ho17
      have hnB : ∀ b, b < w2.heap.size → ¬ ownB s b := fun b hb ho => by have := hf b ho; omega
      have hp17 := hp8.chg hc17 (hnB _ hlt2)
      have hX17 : Ext w w17 := Ext.of_new hX8 hc17 (fun k hk => by have := hf k hk; have := hx2.size; omega)
      refine (addr_of ho17.src).use ?_
      rintro _ w27 ⟨rfl, hx27⟩
      have hX27 : Ext w w27 := Ext.trans hX17 hx27
      have hp27 := hp17.ext hx27
      obtain ⟨m, hm⟩ : ∃ m, m = (ofB (maskB n.toNat a.raw)).getD Ad.zero := ⟨_, rfl⟩
      have hres : maskP a n = some ⟨m, n⟩ := by unfold maskP; rw [if_pos ⟨hg, hn0, hn1⟩, hm]
      rw [← hm]
      refine ⟨_, _, rfl, nxVar (vs := Ad.zero.c) rfl fun w31 hvv hx31 hz31 => ⟨hvv.storeOk (by simp [Ad.c_length]) (Ad.plain _), by simp [Ad.c_length], nxPut hvv (us := m.c) (by simp [Ad.c_length]) rfl fun w32 hvv2 hc32 _ => ?_⟩⟩
      have hp32 := (hp27.ext hx31).chg hc32 (by have := hp27.lt; omega)
      have hX32 : Ext w w32 := Ext.of_chg (Ext.trans hX27 hx31) hc32 hX27.size
      refine ⟨m.c, hvv2.rd (Ad.c_length _), _, mkPf _ m n, hp32.storeOk (by simp [Pf.c_length]) (Pf.plain _), by simp [Pf.c_length], nxPut hp32 (us := (Pf.mk m n).c) (by simp [Pf.c_length]) rfl fun w35 hp35 hc35 _ => ?_⟩
      refine ⟨_, hp35.rd (Pf.c_length _), ?_, Ext.of_chg hX32 hc35 hsz1⟩
      rw [hres]
      rfl

theorem addr_In (a : Ad) (p : Pf) (w : World) : Ret Tryz.prog F.addr_In #[.agg a.c.toArray, .agg p.c.toArray] w (fun v w' => v = .bool (decide (maskP a p.bits = some p)) ∧ Ext w w') := by
  refine W.addr_In_ok _ _ w _ ?_
  unfold W.addr_In
  refine nxVar (vs := a.c) rfl fun w1 hv hx1 hz1 => nxVar (vs := p.c) rfl fun w2 hp hx2 hz2 => ?_
  have hv2 := hv.ext hx2
  have hbits : w2.cell? (Addr.add ⟨w1.heap.size, 0, none⟩ 17) = some (.int .i64 p.bits) := by
    rw [add_mk, hp.cell, Pf.c, List.getElem?_append_right (by simp [Ad.c_length])]
    simp [Ad.c_length]
  refine ⟨a.c, hv2.rd a.c_length, _, hbits, (addr_mask a p.bits _).use ?_⟩
  rintro _ w5 ⟨rfl, hx5⟩
  have hX5 : Ext w w5 := Ext.trans (Ext.trans hx1 hx2) hx5
  have hp5 := hp.ext hx5
  refine ⟨_, _, rfl, nxVar (vs := Pf.zero.c) rfl fun w9 hm hx9 hz9 => ⟨hm.storeOk (by simp [Pf.c_length]) (Pf.plain _), by simp [Pf.c_length], nxPut hm (us := ((maskP a p.bits).getD Pf.zero).c) (by simp [Pf.c_length]) rfl fun w10 hm2 hc10 _ => ?_⟩⟩
  have hX10 : Ext w w10 := Ext.of_chg (Ext.trans hX5 hx9) hc10 hX5.size
  have hp10 := (hp5.ext hx9).chg hc10 (by have := hp5.lt; omega)
  refine Jn1 (fun b w' => b = decide (maskP a p.bits = some p) ∧ Ext w w') (fun q hq => ⟨fun h => ?_, fun h => ?_⟩) ?_
  · refine ⟨_, hm2.rd (Pf.c_length _), _, hp10.rd (Pf.c_length _), _, eqPf _ _, hq _ _ ⟨?_, hX10⟩⟩
    cases hmm : maskP a p.bits with
    | none => rw [hmm] at h; cases h
    | some m => simp
  · refine hq _ _ ⟨?_, hX10⟩
    cases hmm : maskP a p.bits with
    | none => simp
    | some m => rw [hmm] at h; cases h
  · rintro _ w' ⟨rfl, hx⟩
    exact ⟨rfl, hx⟩

/-! ### The reference -/
def Ad.from' (a : Ad) : Nat := if a.six then 0 else 12
theorem ref12_From (a : Ad) (w : World) : Ret Tryz.prog F.ref12_From #[.agg a.c.toArray] w (fun v w' => v = .int .i64 ((a.from' : Nat) : Int) ∧ Ext w w') := by
  refine W.ref12_From_ok _ w _ ?_
  unfold W.ref12_From Nx
  have hv := Var.new w a.c Ty.api_Addr
  have hx : Ext w (w.alloc (.cells a.c.toArray Ty.api_Addr)) := Chg.alloc (.refl _ _) _
  exact ⟨a.six, hv.cell, fun h => ⟨by simp [Ad.from', h], hx⟩, fun h => ⟨by simp [Ad.from', h], hx⟩⟩

theorem good_zeros (l : List UInt8) (h : l.length = 12) : l = zeros 12 ↔ ∀ i, (hi : i < 12) → l[i] = 0 := by
  constructor
  · rintro rfl i hi; simp only [zeros, List.getElem_replicate]
  · intro h2
    apply List.ext_getElem
    · simp [zeros, h]
    · intro i h3 h4
      rw [h2 i (by omega)]; simp only [zeros, List.getElem_replicate]

theorem Ad.cB (a : Ad) {i : Nat} (h : i < 16) : a.c[1 + i]? = some (.int .u8 (((a.b[i]'(by rw [a.h]; exact h)).toNat : Nat) : Int)) := by
  rw [Nat.add_comm]
  show (u8s a.b)[i]? = _
  exact u8s_get (by rw [a.h]; exact h)

theorem ref12_Good (a : Ad) (w : World) : Ret Tryz.prog F.ref12_Good #[.agg a.c.toArray] w (fun v w' => v = .bool a.good ∧ Ext w w') := by
  refine W.ref12_Good_ok _ w _ ?_
  unfold W.ref12_Good Nx
  have hv := Var.new w a.c Ty.api_Addr
  have hx : Ext w (w.alloc (.cells a.c.toArray Ty.api_Addr)) := Chg.alloc (.refl _ _) _
  obtain ⟨w1, hw1⟩ : ∃ w1, w1 = w.alloc (.cells a.c.toArray Ty.api_Addr) := ⟨_, rfl⟩
  rw [← hw1] at hv hx ⊢
  refine ⟨fun i w' => w1 = w' ∧ ∃ k : Nat, i = k ∧ k ≤ 12 ∧ (a.six = false → ∀ j, (hj : j < k) → (hj2 : j < 16) → a.b[j]'(by rw [a.h]; exact hj2) = 0), fun i _ => ((12 : Int) - i).toNat, ⟨rfl, 0, rfl, by omega, fun _ j hj => by omega⟩, ?_⟩
  rintro _ _ ⟨rfl, k, rfl, hk, hz⟩
  refine ⟨fun hlt => ?_, fun hge => ?_⟩
  · have hlt : k < 12 := by have := of_decide_eq_true hlt; omega
    have hcell := a.cB (i := k) (by omega)
    have eA : Addr.add (Addr.add ⟨w.heap.size, 0, none⟩ 1) (Int.toNat (k : Int) * 1) = ⟨w.heap.size, 1 + k, none⟩ := by rw [add_mk, add_mk]; simp
    refine ⟨a.six, hv.cell, Jn1 (fun b w' => w1 = w' ∧ (b = true ↔ a.six = false ∧ a.b[k]'(by rw [a.h]; omega) ≠ 0)) (fun q hq => ⟨fun h => ⟨⟨by omega, by omega⟩, _, by rw [eA, hv.cell]; exact hcell, hq _ _ ⟨rfl, ?_⟩⟩, fun h => hq _ _ ⟨rfl, ?_⟩⟩) ?_⟩
    · have h6 : a.six = false := by simpa using h
      simp only [h6, true_and, bne_iff_ne, ne_eq]
      refine not_congr ?_
      constructor
      · intro h; exact UInt8.toNat_inj.1 (by exact_mod_cast h)
      · intro h; rw [h]; rfl
    · have h6 : a.six = true := by simpa using h
      simp [h6]
    · rintro b _ ⟨rfl, hb⟩
      refine ⟨fun h => ?_, fun h => ?_⟩
      · obtain ⟨h6, hne⟩ := hb.1 h
        refine ⟨?_, hx⟩
        have : ¬ a.b.take 12 = zeros 12 := by
          rw [good_zeros _ (by simp [a.h])]
          intro hall
          have := hall k hlt
          simp at this
          exact hne this
        simp [Ad.good, h6, this]
      · rw [wrapi (by omega) (by omega)]
        refine ⟨⟨rfl, k + 1, by omega, by omega, fun h6 j hj hj2 => ?_⟩, ?_⟩
        · by_cases e : j = k
          · subst e
            rcases Classical.em (a.b[j]'(by rw [a.h]; omega) = 0) with h0 | h0
            · exact h0
            · have := hb.2 ⟨h6, h0⟩; rw [h] at this; cases this
          · exact hz h6 j (by omega) hj2
        · show ((12 : Int) - ((k : Int) + 1)).toNat < ((12 : Int) - (k : Int)).toNat
          omega
  · have hge : k = 12 := by have := of_decide_eq_false hge; omega
    subst hge
    refine ⟨?_, hx⟩
    cases h6 : a.six
    · have : a.b.take 12 = zeros 12 := by
        rw [good_zeros _ (by simp [a.h])]
        intro i hi
        have := hz h6 i hi (by omega)
        simpa using this
      simp [Ad.good, h6, this]
    · simp [Ad.good, h6]

end Go.Proofs.YtcjpgabpihkcjaaGreatDoor
