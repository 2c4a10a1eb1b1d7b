/- The reference's Parse, walked. -/
import Derived.Test.YtcjpgabpihkcjaaDoorAddrJ
namespace Go.Proofs.YtcjpgabpihkcjaaDoor
open Go Gx

/-- One byte of an address, set. -/
theorem Var.setB {w : World} {b : Nat} {six : Bool} {B : List UInt8} {hB : B.length = 16} (h : Var w b (Ad.mk six B hB).c Ty.api_Addr) {i : Nat} {A : Addr} (hA : A = ⟨b, 1 + i, none⟩) {v : Value} {x : UInt8} (hv : v = .int .u8 ((x.toNat : Nat) : Int)) :
    Var (w.setCell A v) b (Ad.mk six (B.set i x) (by simp [hB])).c Ty.api_Addr := by
  subst hA hv
  have := h.setC (1 + i) (.int .u8 ((x.toNat : Nat) : Int))
  rw [Ad.c, Nat.add_comm 1, List.set_cons_succ, u8s_set] at this
  rw [Nat.add_comm 1]
  exact this
theorem nat_u8 {n : Nat} (h : n < 256) : ((n : Nat) : Int) = (((UInt8.ofNat n).toNat : Nat) : Int) := by
  simp; omega
theorem c_some {six : Bool} {B : List UInt8} {hB : B.length = 16} {i : Nat} (h : i < 16) : ∃ u, (Ad.mk six B hB).c[1 + i]? = some u := ⟨_, Ad.cB _ h⟩

set_option maxHeartbeats 1000000 in
theorem ref12_Parse (l : List UInt8) (hl : l.length ≤ 10000) (w : World) : Ret Tryd.prog F.ref12_Parse #[.string (S l)] w (fun v w' => v = .tuple #[.agg ((parseA l).getD Ad.zero).c.toArray, .bool (parseA l).isSome] ∧ Ext w w') := by
  refine W.ref12_Parse_ok (S l) w _ ?_
  unfold W.ref12_Parse
  rw [S_size]
  refine nxVar (vs := Ad.zero.c) rfl fun w1 hr hx1 hz1 => ⟨_, mkAd0 _, nxVar (vs := Ad.zero.c) rfl fun w3 ha hx3 hz3 => ⟨ha.storeOk rfl (Ad.plain _), rfl, nxPut ha (us := Ad.zero.c) rfl rfl fun w4 ha4 hc4 hz4 => ?_⟩⟩
  have hX4 : Ext w w4 := Ext.of_chg (Ext.trans hx1 hx3) hc4 hx1.size
  have hr4 := (hr.ext hx3).chg hc4 (by omega)
  clear ha hc4
  generalize hA : w1.heap.size = A at ha4
  have hwA : w.heap.size < A := by omega
  have z16 : (zeros 16).length = 16 := by simp [zeros]
  refine ⟨fun b i w' => ∃ k : Nat, i = k ∧ k ≤ l.length ∧ b = (baseOf (decide (58 ∈ l.take k)) : Nat) ∧ Chg (fun q => q = A) w4 w' ∧ Var w' A (Ad.mk (decide (58 ∈ l.take k)) (zeros 16) z16).c Ty.api_Addr, fun _ i _ => (l.length - i).toNat, ⟨0, rfl, Nat.zero_le _, by simp [baseOf], .refl _ _, by simp only [List.take_zero]; exact ha4⟩, ?_⟩
  rintro _ _ w9 ⟨k, rfl, hk, rfl, hc9, ha9⟩
  refine ⟨fun h => ?_, fun h => ?_⟩
  · have hlt : (k : Int) < ((l.length : Nat) : Int) := of_decide_eq_true h
    have hlt : k < l.length := by omega
    have htk : l.take (k + 1) = l.take k ++ [l[k]] := by rw [List.take_add_one]; simp [hlt]
    refine Jn1 (fun b w' => b = ((baseOf (decide (58 ∈ l.take (k + 1))) : Nat) : Int) ∧ Chg (fun q => q = A) w4 w' ∧ Var w' A (Ad.mk (decide (58 ∈ l.take (k + 1))) (zeros 16) z16).c Ty.api_Addr) (fun q hq => ⟨by omega, l[k], by rw [S_byteAt]; simp [hlt], fun h => ?_, fun h => ?_⟩) ?_
    · have e58 : l[k] = 58 := by
        have h := eq_of_beq h
        apply UInt8.toNat_inj.1; show _ = 58; omega
      have hm : decide (58 ∈ l.take (k + 1)) = true := by rw [htk, e58]; simp
      simp only [hm] at hq
      refine ⟨⟨_, ha9.cell⟩, Blk.frozen ha9 _ rfl, nx (hq _ _ ⟨rfl, hc9.cellB _, ?_⟩)⟩
      exact ha9.setC 0 (.bool true)
    · have e58 : l[k] ≠ 58 := by
        intro e; rw [e] at h; simp at h
      have hm : decide (58 ∈ l.take (k + 1)) = decide (58 ∈ l.take k) := by
        rw [htk, decide_eq_decide, List.mem_append, List.mem_singleton]
        exact ⟨fun h => h.elim id (fun e => absurd e.symm e58), .inl⟩
      simp only [hm] at hq
      exact hq _ _ ⟨rfl, hc9, ha9⟩
    · rintro _ w16 ⟨rfl, hc16, ha16⟩
      rw [wrapi (n := (k : Int) + 1) (by omega) (by omega)]
      have hms : (((l.length : Nat) : Int) - ((k : Int) + 1)).toNat < (((l.length : Nat) : Int) - (k : Int)).toNat := by omega
      exact ⟨⟨k + 1, by omega, hlt, rfl, hc16, ha16⟩, hms⟩
  · have hge : ¬((k : Int) < ((l.length : Nat) : Int)) := of_decide_eq_false h
    have hkl : k = l.length := by omega
    subst hkl
    rw [List.take_length] at ha9
    simp only [List.take_length]
    obtain ⟨C, hC⟩ : ∃ C, C = refGo (decide (58 ∈ l)) l 0 0 (zeros 16) := ⟨_, rfl⟩
    have hcand : refCand l = ⟨decide (58 ∈ l), C, by rw [hC, refGo_length]; exact z16⟩ := by subst hC; rfl
    generalize decide (58 ∈ l) = six at *
    refine ⟨fun n j i w' => ∃ (n' j' i' : Nat) (B : List UInt8) (hB : B.length = 16), n = n' ∧ j = j' ∧ i = i' ∧ n' < 65536 ∧ j' ≤ i' ∧ i' ≤ l.length + 1 ∧ Chg (fun q => q = A) w4 w' ∧ Var w' A (Ad.mk six B hB).c Ty.api_Addr ∧ ((i' ≤ l.length ∧ refGo six (l.drop i') n' j' B = C) ∨ (i' = l.length + 1 ∧ B = C)),
      fun _ _ i _ => (l.length + 1 - i).toNat, ⟨0, 0, 0, zeros 16, z16, rfl, rfl, rfl, by decide, Nat.zero_le _, Nat.zero_le _, hc9, ha9, .inl ⟨Nat.zero_le _, hC.symm⟩⟩, ?_⟩
    rintro _ _ _ w20 ⟨n, j, i, B, hB, rfl, rfl, rfl, hn, hj, hi, hc20, ha20, hgo⟩
    refine ⟨fun h => ?_, fun h => ?_⟩
    · have hle : (i : Int) ≤ ((l.length : Nat) : Int) := of_decide_eq_true h
      have hgo : refGo six (l.drop i) n j B = C := by
        rcases hgo with h | h
        · exact h.2
        · omega
      have hile : i ≤ l.length := by omega
      refine Jn2 (fun n2 j2 w' => ∃ (n' j' : Nat) (B' : List UInt8) (hB' : B'.length = 16), n2 = n' ∧ j2 = j' ∧ n' < 65536 ∧ j' ≤ i + 1 ∧ Chg (fun q => q = A) w4 w' ∧ Var w' A (Ad.mk six B' hB').c Ty.api_Addr ∧ ((i < l.length ∧ refGo six (l.drop (i + 1)) n' j' B' = C) ∨ (i = l.length ∧ B' = C))) (fun q hq => ?_) ?_
      · refine Jn1 (fun b w' => w20 = w' ∧ (b = true ↔ (i = l.length ∨ l[i]? = some 58))) (fun q2 hq2 => ⟨fun h => hq2 _ _ ⟨rfl, by have := eq_of_beq h; simp; omega⟩, fun h => ?_⟩) ?_
        · have hne : i ≠ l.length := by intro e; subst e; simp at h
          have hlt : i < l.length := by omega
          refine ⟨by omega, l[i], by rw [S_byteAt]; simp [hlt], hq2 _ _ ⟨rfl, ?_⟩⟩
          rw [beq_iff_eq, List.getElem?_eq_getElem hlt, Option.some.injEq, ← UInt8.toNat_inj]
          show _ ↔ i = l.length ∨ _ = 58
          omega
        rintro b24 _ ⟨rfl, hb24⟩
        refine Jn1 (fun b w' => w20 = w' ∧ (b = true ↔ (i = l.length ∨ l[i]? = some 58 ∨ l[i]? = some 46))) (fun q2 hq2 => ⟨fun h => hq2 _ _ ⟨rfl, ?_⟩, fun h => ?_⟩) ?_
        · have := hb24.1 h
          simp only [true_iff]
          rcases this with h | h
          · exact .inl h
          · exact .inr (.inl h)
        · have hn24 : ¬(i = l.length ∨ l[i]? = some 58) := fun e => by rw [hb24.2 e] at h; cases h
          have hlt : i < l.length := by
            rcases Nat.lt_or_ge i l.length with h | h
            · exact h
            · exact absurd (Or.inl (by omega)) hn24
          refine ⟨by omega, l[i], by rw [S_byteAt]; simp [hlt], hq2 _ _ ⟨rfl, ?_⟩⟩
          have h2 : l[i]? ≠ some 58 := fun e => hn24 (.inr e)
          have h3 : i ≠ l.length := by omega
          have e1 : (l[i]? = some 46) ↔ (l[i].toNat : Int) = 46 := by
            rw [List.getElem?_eq_getElem hlt, Option.some.injEq, ← UInt8.toNat_inj]
            show _ = 46 ↔ _
            omega
          rw [beq_iff_eq, ← e1]
          simp [h2, h3]
        rintro b28 _ ⟨rfl, hb28⟩
        refine ⟨fun h => ?_, fun h => ?_⟩
        · have hsep := hb28.1 h
          refine Jn0 (fun w' => Chg (fun q => q = A) w4 w' ∧ Var w' A (Ad.mk six (if six then putN six j n B else B) (by split <;> simp [putN_length, hB])).c Ty.api_Addr) (fun q2 hq2 => ⟨six, ha20.cell, fun h => ?_, fun h => ?_⟩) ?_
          · simp only [Bool.and_eq_true] at h
            have h6 := h.1; subst h6
            have hj8 : (j : Int) < 8 := of_decide_eq_true h.2
            have hj8 : j < 8 := by omega
            have ediv : Int.tdiv (n : Int) 256 = ((n / 256 : Nat) : Int) := by rw [tdiv_nn (by omega)]; rfl
            have emod : Int.tmod (n : Int) 256 = ((n % 256 : Nat) : Int) := by rw [tmod_nn (by omega)]; rfl
            rw [ediv, emod, wrapi (n := 2 * (j : Int)) (by omega) (by omega), wrapi (n := 2 * (j : Int) + 1) (by omega) (by omega), wrapi (n := ((n / 256 : Nat) : Int)) (by omega) (by omega), wr8 (n := ((n / 256 : Nat) : Int)) (by omega) (by omega)]
            have eA : Addr.add (Addr.add ⟨A, 0, none⟩ 1) (Int.toNat (2 * (j : Int)) * 1) = ⟨A, 1 + 2 * j, none⟩ := by
              rw [add_mk, add_mk]; congr 1; omega
            have eA2 : Addr.add (Addr.add ⟨A, 0, none⟩ 1) (Int.toNat (2 * (j : Int) + 1) * 1) = ⟨A, 1 + (2 * j + 1), none⟩ := by
              rw [add_mk, add_mk]; congr 1; omega
            rw [eA, eA2]
            have hs1 := ha20.setB (i := 2 * j) rfl (congrArg (Value.int .u8) (nat_u8 (n := n / 256) (by omega)))
            refine ⟨by decide, by decide, ⟨by omega, by omega⟩, by rw [ha20.cell]; exact c_some (by omega), Blk.frozen ha20 _ rfl, nx ⟨⟨by omega, by omega⟩, by rw [hs1.cell]; exact c_some (by omega), Blk.frozen hs1 _ rfl, ?_⟩⟩
            rw [wr8 (n := ((n % 256 : Nat) : Int)) (by omega) (by omega)]
            refine nx (hq2 _ ⟨(hc20.cellB _).cellB _, ?_⟩)
            have hs2 := hs1.setB (i := 2 * j + 1) rfl (congrArg (Value.int .u8) (nat_u8 (n := n % 256) (by omega)))
            simpa [putN, hj8] using hs2
          · refine hq2 _ ⟨hc20, ?_⟩
            have e : (if six then putN six j n B else B) = B := by
              cases six
              · rfl
              · have : ¬ (j : Int) < 8 := by simpa using h
                simp [putN, show ¬ j < 8 by omega]
            simp only [e]
            exact ha20
          · rintro w34 ⟨hc34, ha34⟩
            refine Jn0 (fun w' => Chg (fun q => q = A) w4 w' ∧ Var w' A (Ad.mk six (putN six j n B) (by simp [putN_length, hB])).c Ty.api_Addr) (fun q2 hq2 => ⟨six, ha34.cell, fun h => ?_, fun h => ?_⟩) ?_
            · have h6 : six = false := by cases six <;> simp_all
              subst h6
              have hj4 : (j : Int) < 4 := by simpa using h
              have hj4 : j < 4 := by omega
              have emod : Int.tmod (n : Int) 256 = ((n % 256 : Nat) : Int) := by rw [tmod_nn (by omega)]; rfl
              rw [emod, wrapi (n := 12 + (j : Int)) (by omega) (by omega), wr8 (n := ((n % 256 : Nat) : Int)) (by omega) (by omega)]
              have eA : Addr.add (Addr.add ⟨A, 0, none⟩ 1) (Int.toNat (12 + (j : Int)) * 1) = ⟨A, 1 + (12 + j), none⟩ := by
                rw [add_mk, add_mk]; congr 1; omega
              rw [eA]
              refine ⟨by decide, ⟨by omega, by omega⟩, by rw [ha34.cell]; exact c_some (by omega), Blk.frozen ha34 _ rfl, nx (hq2 _ ⟨hc34.cellB _, ?_⟩)⟩
              have hs2 := ha34.setB (i := 12 + j) rfl (congrArg (Value.int .u8) (nat_u8 (n := n % 256) (by omega)))
              simpa [putN, hj4] using hs2
            · refine hq2 _ ⟨hc34, ?_⟩
              have e : (if six then putN six j n B else B) = putN six j n B := by
                cases six
                · have : ¬ (j : Int) < 4 := by simpa using h
                  simp [putN, show ¬ j < 4 by omega]
                · rfl
              simp only [e] at ha34
              exact ha34
            · rintro w38 ⟨hc38, ha38⟩
              rw [wrapi (n := (j : Int) + 1) (by omega) (by omega)]
              refine hq _ _ _ ⟨0, j + 1, putN six j n B, _, rfl, by omega, by decide, by omega, hc38, ha38, ?_⟩
              rcases Nat.lt_or_ge i l.length with hlt | hge
              · left
                refine ⟨hlt, ?_⟩
                rw [List.drop_eq_getElem_cons hlt] at hgo
                rw [List.getElem?_eq_getElem hlt] at hsep
                have hc : l[i] = 58 ∨ l[i] = 46 := by
                  rcases hsep with h | h | h
                  · omega
                  · exact .inl (Option.some.inj h)
                  · exact .inr (Option.some.inj h)
                unfold refGo at hgo
                rwa [if_pos hc] at hgo
              · right
                refine ⟨by omega, ?_⟩
                rw [List.drop_eq_nil_of_le hge] at hgo
                exact hgo
        · have hsep : ¬(i = l.length ∨ l[i]? = some 58 ∨ l[i]? = some 46) := fun e => by rw [hb28.2 e] at h; cases h
          have hlt : i < l.length := by
            rcases Nat.lt_or_ge i l.length with h | h
            · exact h
            · exact absurd (Or.inl (by omega)) hsep
          have hc : ¬(l[i] = 58 ∨ l[i] = 46) := by
            rw [List.getElem?_eq_getElem hlt] at hsep
            intro e
            exact hsep (.inr (e.elim (fun e => .inl (by rw [e])) (fun e => .inr (by rw [e]))))
          rw [List.drop_eq_getElem_cons hlt] at hgo
          unfold refGo at hgo
          rw [if_neg hc] at hgo
          refine ⟨by omega, l[i], by rw [S_byteAt]; simp [hlt], (ref12_digit l[i] w20).use ?_⟩
          rintro _ _ ⟨rfl, rfl⟩
          have hb := baseOf_ok six
          refine ⟨_, rfl, fun h => ?_, fun h => ?_⟩
          · cases hd : dgt l[i] with
            | none => rw [hd] at h; simp at h
            | some d =>
              rw [hd] at h
              simp only [Bool.and_eq_true] at h
              have hd1 : ((d : Nat) : Int) < ((baseOf six : Nat) : Int) := of_decide_eq_true h.2
              have hstep : nStep (baseOf six) 65536 n l[i] = (n * baseOf six + d) % 65536 := by
                unfold nStep; rw [hd]; simp only; rw [if_pos (by omega)]
              have hmul : n * baseOf six ≤ 65535 * 16 := Nat.mul_le_mul (by omega) hb.2
              have e1 : (n : Int) * ((baseOf six : Nat) : Int) = ((n * baseOf six : Nat) : Int) := by simp
              generalize n * baseOf six = nb at *
              refine ⟨by decide, hq _ _ _ ⟨(nb + d) % 65536, j, B, hB, ?_, rfl, by omega, by omega, hc20, ha20, .inl ⟨hlt, by rw [← hstep]; exact hgo⟩⟩⟩
              simp only
              rw [e1, wrapi (n := (nb : Int)) (by omega) (by omega), wrapi (n := (nb : Int) + (d : Int)) (by omega) (by omega), tmod_nn (by omega)]
              omega
          · refine hq _ _ _ ⟨n, j, B, hB, rfl, rfl, hn, by omega, hc20, ha20, .inl ⟨hlt, ?_⟩⟩
            have hstep : nStep (baseOf six) 65536 n l[i] = n := by
              unfold nStep
              cases hd : dgt l[i] with
              | none => rfl
              | some d =>
                simp only
                rw [if_neg]
                intro hlt2
                rw [hd] at h
                simp at h
                omega
            rw [← hstep]; exact hgo
      · rintro _ _ w45 ⟨n', j', B', hB', rfl, rfl, hn', hj', hc45, ha45, hgo'⟩
        rw [wrapi (n := (i : Int) + 1) (by omega) (by omega)]
        have hms : (((l.length : Nat) : Int) + 1 - ((i : Int) + 1)).toNat < (((l.length : Nat) : Int) + 1 - (i : Int)).toNat := by omega
        refine ⟨⟨n', j', i + 1, B', hB', rfl, rfl, by omega, hn', hj', by omega, hc45, ha45, ?_⟩, hms⟩
        rcases hgo' with h | h
        · exact .inl ⟨by omega, h.2⟩
        · exact .inr ⟨by omega, h.2⟩
    · have hgt : ¬((i : Int) ≤ ((l.length : Nat) : Int)) := of_decide_eq_false h
      have hBC : B = C := by
        rcases hgo with h | h
        · omega
        · exact h.2
      subst hBC
      rw [← hcand] at ha20
      have hX20 : Ext w w20 := Ext.of_chg hX4 hc20 (by omega)
      have hr20 := hr4.chg hc20 (by omega)
      refine ⟨_, ha20.rd (Ad.c_length _), (ref12_Show (refCand l) w20).use ?_⟩
      rintro _ w47 ⟨rfl, hx47⟩
      have hX47 := Ext.trans hX20 hx47
      have hr47 := hr20.ext hx47
      have ha47 := ha20.ext hx47
      rw [parse_ref l]
      refine ⟨_, rfl, fun h => ?_, fun h => ?_⟩
      · have hne : showA (refCand l) ≠ l := by
          intro e; rw [S_beq, e] at h; simp at h
        rw [if_neg hne]
        exact ⟨_, mkAd0 _, hr47.storeOk rfl (Ad.plain _), rfl, nxPut hr47 (us := Ad.zero.c) rfl rfl fun w51 hr51 hc51 _ => ⟨_, hr51.rd (Ad.c_length _), rfl, Ext.of_chg hX47 hc51 (Nat.le_refl _)⟩⟩
      · have he : showA (refCand l) = l := by
          rw [S_beq] at h; simpa using h
        rw [if_pos he]
        exact ⟨_, ha47.rd (Ad.c_length _), hr47.storeOk (by simp [Ad.c_length]) (Ad.plain _), by simp [Ad.c_length], nxPut hr47 (us := (refCand l).c) (by simp [Ad.c_length]) rfl fun w51 hr51 hc51 _ => ⟨_, hr51.rd (Ad.c_length _), rfl, Ext.of_chg hX47 hc51 (Nat.le_refl _)⟩⟩

end Go.Proofs.YtcjpgabpihkcjaaDoor
