/- Contracts of the functions that the statement reaches, and the plain laws over them; each theorem stands with its conditions. -/
import Derived.Lib.AppendStr
import Derived.Test.YtgljoledlhmhnaaGreatDoorBDiffs3
namespace Go.Proofs.YtgljoledlhmhnaaGreatDoor
open Go Gx
variable {w w' : World}
theorem ref39_alike (s t : Sv) (k k' : Sl) (w : World) : Ret Tryz.prog F.ref39_alike #[.agg (s.c k).toArray, .agg (t.c k').toArray] w (fun v w' => v = .bool (decide (s = t)) ∧ Ext w w') := by
 refine W.ref39_alike_ok _ _ w _ ?_
 (delta W.ref39_alike T6 r3 nA Br T28 r7 r4 r5; dsimp only)
 refine nxVar (vs := s.c k) rfl fun w1 hs hx1 _ => nxVar (vs := t.c k') rfl fun w2 ht hx2 _ => ?_
 have hs := hs.ext hx2
 have hX2 := Ext.trans hx1 hx2
 refine ⟨_, (scell hs).1, _, (scell ht).1, jnAnd (decide (s.addr = t.addr)) (fun _ q hq => ⟨_, srd hs, _, srd ht, _, eqAd _ _, hq _ (.refl _ _)⟩) fun w3 hx3 => ?_⟩
 have hs3 := hs.ext hx3; have ht3 := ht.ext hx3
 refine jnAnd (s.port == t.port) (fun _ q hq => ⟨_, (scell hs3).2.2.1, _, (scell ht3).2.2.1, hq _ (.refl _ _)⟩) fun w4 hx4 => ?_
 have hs4 := hs3.ext hx4; have ht4 := ht3.ext hx4
 refine jnAnd (s.proto == t.proto) (fun _ q hq => ⟨_, (scell hs4).2.2.2.1, _, (scell ht4).2.2.2.1, hq _ (.refl _ _)⟩) fun w5 hx5 => ?_
 have hs5 := hs4.ext hx5; have ht5 := ht4.ext hx5
 refine jnAnd (s.bits == t.bits) (fun _ q hq => ⟨_, (scell hs5).2.2.2.2.1, _, (scell ht5).2.2.2.2.1, hq _ (.refl _ _)⟩) fun w6 hx6 => ?_
 have hs6 := hs5.ext hx6; have ht6 := ht5.ext hx6
 refine jnAnd (s.lasts == t.lasts) (fun _ q hq => ⟨_, (scell hs6).2.2.2.2.2.1, _, (scell ht6).2.2.2.2.2.1, hq _ (.refl _ _)⟩) fun w7 hx7 => ?_
 exact ⟨by rw [Sv.eq_chain], Ext.trans hX2 (Ext.trans hx3 (Ext.trans hx4 (Ext.trans hx5 (Ext.trans hx6 hx7))))⟩
theorem SvIn.len {t : Sl} {X : List SM} (h : SvIn w t X) : t.len = X.length := by have := h.src.len; rw [smC_length] at this; omega
theorem ref39_find {t : Sl} {X : List SM} (hX : SvIn w t X) (hn : X.length ≤ 100000) (s : Sv) (k : Sl) : Ret Tryz.prog F.ref39_find #[.slice t.a t.len t.cap, .agg (s.c k).toArray] w (fun v w' => v = .int .i64 (idxG (fun x : SM => decide (s = x.s)) X) ∧ Ext w w') := by
 refine W.ref39_find_ok t _ w _ ?_
 (delta W.ref39_find Br bd nA c9 wI; dsimp only)
 have hl := hX.len
 refine nxVar (vs := s.c k) rfl fun w1 hs hx1 _ => ⟨fun n w' => ∃ i : Nat, n = i ∧ i ≤ X.length ∧ Ext w1 w' ∧ ∀ (j : Nat) (hj : j < i) (h2 : j < X.length), decide (s = (X[j]).s) = false, fun n _ => ((X.length : Int) - n).toNat, ⟨0, rfl, Nat.zero_le _, .refl _ _, fun j hj => by omega⟩, ?_⟩
 rintro _ w5 ⟨i, rfl, hi, hx5, hno⟩
 have hX5 := Ext.trans hx1 hx5
 refine ⟨fun hlt => nx ?_, fun hge => ⟨?_, hX5⟩⟩
 · have hlt : i < X.length := by have := of_decide_eq_true hlt; omega
   have hd : Ext w5 w5.drew := Chg.drew (.refl _ _)
   have hx6 := Ext.trans hx5 hd
   obtain ⟨A, hA, hbd, hrd⟩ := (hX.ext (Ext.trans hx1 hx6)).get hlt
   refine ⟨A, hA, hbd, id, _, hrd, id, _, (hs.ext hx6).rd (Sv.c_length _ _), (ref39_alike _ _ _ _ _).use ?_⟩
   rintro _ w10 ⟨rfl, hx10⟩
   have hX10 := Ext.trans hx1 (Ext.trans hx6 hx10)
   have ew : IntKind.wrap .i64 ((i : Int) + 1) = ((i + 1 : Nat) : Int) := by rw [wrapi (by omega) (by omega)]; rfl
   have hms : ((X.length : Int) - ((i + 1 : Nat) : Int)).toNat < ((X.length : Int) - (i : Int)).toNat := by omega
   refine ⟨_, rfl, fun hb => ⟨?_, hX10⟩, fun hb => ?_⟩
   · rw [idxG_some (k := i) hlt (by rw [← of_decide_eq_true hb]; simp) (fun j hj => hno j hj (by omega))]
   · rw [ew]
     refine ⟨⟨i + 1, rfl, hlt, Ext.trans hx6 hx10, fun j hj h2 => ?_⟩, hms⟩
     rcases Nat.lt_or_ge j i with h3 | h3
     · exact hno j h3 h2
     · obtain rfl : j = i := by omega
       exact decide_eq_false fun e => of_decide_eq_false hb e.symm
 · have hi : i = X.length := by have := of_decide_eq_false hge; omega
   rw [idxG_none (fun j hj => hno j (by omega) hj)]
theorem bkrow {A : Addr} {b : Bk} (h : rdCells w A 0 21 = some b.c) : w.cell? A = some (.int .i64 b.id) ∧ rdCells w (A.add 1) 0 17 = some b.addr.c ∧ w.cell? (A.add 18) = some (.int .u16 b.port) := by
 refine ⟨?_, ?_, ?_⟩
 · have := rdGet (i := 0) h (j := 0) (v := .int .i64 b.id) rfl
   rwa [Nat.add_zero, add_zero'] at this
 · rw [rdPart h (k := 1) (m := 17) (by omega)]
   show some ((b.addr.c ++ _).take 17) = _
   rw [List.take_append_of_le_length (by rw [Ad.c_length]; decide), List.take_of_length_le (by rw [Ad.c_length]; decide)]
 · have := rdGet (i := 0) h (j := 18) (v := .int .u16 b.port) (by simp [Bk.c, Ad.c_length])
   rwa [Nat.zero_add] at this
theorem ref39_at {t : Sl} {l : List Bk} (hl : BR w t l) (hn : l.length ≤ 100000) (b : Bk) : Ret Tryz.prog F.ref39_at #[.slice t.a t.len t.cap, .agg b.c.toArray] w (fun v w' => v = .int .i64 (idxG (fun c => sameAt c b) l) ∧ Ext w w') := by
 refine W.ref39_at_ok t _ w _ ?_
 (delta W.ref39_at Br bd r3 nA r7 wI; dsimp only)
 have hll := BR.len hl
 refine nxVar (vs := b.c) rfl fun w1 hb hx1 _ => ⟨fun n w' => ∃ i : Nat, n = i ∧ i ≤ l.length ∧ Ext w1 w' ∧ ∀ (j : Nat) (hj : j < i) (h2 : j < l.length), sameAt l[j] b = false, fun n _ => ((l.length : Int) - n).toNat, ⟨0, rfl, Nat.zero_le _, .refl _ _, fun j hj => by omega⟩, ?_⟩
 rintro _ w5 ⟨i, rfl, hi, hx5, hno⟩
 have hX5 := Ext.trans hx1 hx5
 refine ⟨fun hlt => nx ?_, fun hge => ⟨?_, hX5⟩⟩
 · have hlt : i < l.length := by have := of_decide_eq_true hlt; omega
   have hd : Ext w5 w5.drew := Chg.drew (.refl _ _)
   have hx6 := Ext.trans hx5 hd
   have hX6 := Ext.trans hx1 hx6
   obtain ⟨A, hA, hbd, hrd⟩ := BR.get (hl.ext hX6) hlt
   obtain ⟨r1, r2, r3⟩ := bkrow hrd
   have hb6 := hb.ext hx6
   have ew : IntKind.wrap .i64 ((i : Int) + 1) = ((i + 1 : Nat) : Int) := by rw [wrapi (by omega) (by omega)]; rfl
   have hms : ((l.length : Int) - ((i + 1 : Nat) : Int)).toNat < ((l.length : Int) - (i : Int)).toNat := by omega
   rw [ew]
   have nxt : sameAt l[i] b = false → (∃ i_1 : Nat, ((i + 1 : Nat) : Int) = i_1 ∧ i_1 ≤ l.length ∧ Ext w1 w5.drew ∧ ∀ (j : Nat) (hj : j < i_1) (h2 : j < l.length), sameAt l[j] b = false) := fun h => ⟨i + 1, rfl, hlt, hx6, fun j hj h2 => by
     rcases Nat.lt_or_ge j i with h3 | h3
     · exact hno j h3 h2
     · obtain rfl : j = i := by omega
       exact h⟩
   have yes : sameAt l[i] b = true → Value.int .i64 (i : Int) = .int .i64 (idxG (fun c => sameAt c b) l) := fun h => by rw [idxG_some (k := i) hlt h (fun j hj => hno j hj (by omega))]
   refine ⟨A, hA, hbd, id, _, r1, id, _, (bcell hb6).1, fun h1 => ⟨A, hA, hbd, id, _, r2, id, _, brd hb6, _, eqAd _ _, fun h2 => ⟨A, hA, hbd, id, _, r3, id, _, (bcell hb6).2.2.1, fun h3 => ⟨yes ?_, hX6⟩, fun h3 => ⟨nxt ?_, hms⟩⟩, fun h2 => ⟨fun h => (by cases h), fun _ => ⟨nxt ?_, hms⟩⟩⟩, fun h1 => ⟨fun h => (by cases h), fun _ => ⟨nxt ?_, hms⟩⟩⟩
   · unfold sameAt; rw [h1, h2, h3]; rfl
   · unfold sameAt; rw [h3, Bool.and_false]
   · unfold sameAt; rw [h2, Bool.and_false, Bool.false_and]
   · unfold sameAt; rw [h1, Bool.false_and, Bool.false_and]
 · have hi : i = l.length := by have := of_decide_eq_false hge; omega
   rw [idxG_none (fun j hj => hno j (by omega) hj)]
theorem EqualBk {t u : Sl} {l m : List Bk} (hl : BR w t l) (hm : BR w u m) (hn : l.length ≤ 100000) : Ret Tryz.prog F.slices_Equal_Sl_api_Backend_api_Backend #[.slice t.a t.len t.cap, .slice u.a u.len u.cap] w (fun v w' => v = .bool (decide (l = m)) ∧ Ext w w') := by
 refine W.slices_Equal_Sl_api_Backend_api_Backend_ok t u w _ ?_
 delta W.slices_Equal_Sl_api_Backend_api_Backend Br bd wI
 have hll := BR.len hl; have hml := BR.len hm
 refine ⟨fun hne => ⟨?_, .refl _ _⟩, fun heq => ?_⟩
 · simp only [bne_iff_ne] at hne
   have : l ≠ m := fun e => hne (by subst e; omega)
   rw [decide_eq_false this]
 simp only [bne_eq_false_iff_eq] at heq
 have hlm : l.length = m.length := by omega
 refine ⟨fun n w' => ∃ i : Nat, n = i ∧ i ≤ l.length ∧ Ext w w' ∧ ∀ (j : Nat) (h1 : j < l.length) (h2 : j < m.length), j < i → l[j] = m[j], fun n _ => ((l.length : Int) - n).toNat, ⟨0, rfl, Nat.zero_le _, .refl _ _, fun j _ _ h => by omega⟩, ?_⟩
 rintro _ w4 ⟨i, rfl, hi, hx4, hno⟩
 refine ⟨fun hlt => nx ?_, fun hge => ⟨?_, hx4⟩⟩
 · have hlt : i < l.length := by have := of_decide_eq_true hlt; omega
   have hlt' : i < m.length := by omega
   have hx5 : Ext w w4.drew := Chg.drew hx4
   obtain ⟨A, hA, hbd, hrd⟩ := BR.get (hl.ext hx5) hlt
   obtain ⟨B, hB, hbd', hrd'⟩ := BR.get (hm.ext hx5) hlt'
   have ew : IntKind.wrap .i64 ((i : Int) + 1) = ((i + 1 : Nat) : Int) := by rw [wrapi (by omega) (by omega)]; rfl
   have hms : ((l.length : Int) - ((i + 1 : Nat) : Int)).toNat < ((l.length : Int) - (i : Int)).toNat := by omega
   rw [ew]
   refine ⟨A, hA, hbd, id, _, hrd, B, hB, hbd', id, _, hrd', _, eqBk _ _, fun hne => ⟨?_, hx5⟩, fun he => ⟨⟨i + 1, rfl, hlt, hx5, fun j h1 h2 hj => ?_⟩, hms⟩⟩
   · have hne : l[i] ≠ m[i] := by simpa using hne
     have : l ≠ m := fun e => hne (by subst e; rfl)
     rw [decide_eq_false this]
   · rcases Nat.lt_or_ge j i with h3 | h3
     · exact hno j h1 h2 h3
     · obtain rfl : j = i := by omega
       simpa using he
 · have hi : i = l.length := by have := of_decide_eq_false hge; omega
   rw [decide_eq_true (List.ext_getElem hlm fun j h1 h2 => hno j h1 h2 (by omega))]
theorem conf_Same_1 (s t : Sv) {k k' : Sl} {l m : List Bk} (hl : BR w k l) (hm : BR w k' m) (hn : l.length ≤ 100000) : Ret Tryz.prog F.conf_Same_1 #[.agg (s.c k).toArray, .agg (t.c k').toArray] w (fun v w' => v = .bool (decide (s = t) && decide (l = m)) ∧ Ext w w') := by
 refine W.conf_Same_1_ok _ _ w _ ?_
 (delta W.conf_Same_1 nA c9 Br r1; dsimp only)
 refine nxVar (vs := s.c k) rfl fun w1 hs hx1 _ => nxVar (vs := t.c k') rfl fun w2 ht hx2 _ => ?_
 have hs := hs.ext hx2
 have hX2 := Ext.trans hx1 hx2
 refine ⟨_, hs.rd (Sv.c_length _ _), _, ht.rd (Sv.c_length _ _), (conf_alike s t k k' w2).use ?_⟩
 rintro _ w5 ⟨rfl, hx5⟩
 have hs5 := hs.ext hx5; have ht5 := ht.ext hx5
 have hX5 := Ext.trans hX2 hx5
 refine ⟨_, rfl, jnAnd (decide (l = m)) (fun _ q hq => ⟨k, (scell hs5).2.2.2.2.2.2, k', (scell ht5).2.2.2.2.2.2, (EqualBk (hl.ext hX5) (hm.ext hX5) hn).use ?_⟩) fun w15 hx15 => ⟨rfl, Ext.trans hX5 hx15⟩⟩
 rintro _ w11 ⟨rfl, hx11⟩
 exact ⟨_, rfl, hq _ hx11⟩
theorem conf_Same {t u : Sl} {X Y : List SM} (hX : SvIn w t X) (hY : SvIn w u Y) (hn : X.length ≤ 100000) (hb : ∀ x ∈ X, x.bs.length ≤ 100000) : Ret Tryz.prog F.conf_Same #[.slice t.a t.len t.cap, .slice u.a u.len u.cap] w (fun v w' => v = .bool (decide (X.map SM.ab = Y.map SM.ab)) ∧ Ext w w') := by
 refine W.conf_Same_ok t u w _ ?_
 (delta W.conf_Same c9; dsimp only)
 have hl := hX.len; have hl' := hY.len
 refine Calls.mono (W.slices_EqualFunc_Sl_api_Service_Sl_api_Service_api_Service_a_ok t u ⟨F.conf_Same_1, #[], #[]⟩ w (fun v w' => v = .bool (decide (X.map SM.ab = Y.map SM.ab)) ∧ Ext w w') ?_) ?_
 · (delta W.slices_EqualFunc_Sl_api_Service_Sl_api_Service_api_Service_a Br ix al z1 nA wI; dsimp only)
   refine ⟨fun hne => ⟨?_, .refl _ _⟩, fun heq => ?_⟩
   · simp only [bne_iff_ne] at hne
     have : X.map SM.ab ≠ Y.map SM.ab := fun e => hne (by have := congrArg List.length e; simp only [List.length_map] at this; omega)
     rw [decide_eq_false this]
   simp only [bne_eq_false_iff_eq] at heq
   have hll : X.length = Y.length := by omega
   refine ⟨fun n w' => ∃ i : Nat, n = i ∧ i ≤ X.length ∧ Ext w w' ∧ ∀ (j : Nat) (h1 : j < X.length) (h2 : j < Y.length), j < i → (X[j]).ab = (Y[j]).ab, fun n _ => ((X.length : Int) - n).toNat, ⟨0, rfl, Nat.zero_le _, .refl _ _, fun j _ _ h => by omega⟩, ?_⟩
   rintro _ w4 ⟨i, rfl, hi, hx4, hno⟩
   refine ⟨fun hlt => ?_, fun hge => ⟨?_, hx4⟩⟩
   · have hlt : i < X.length := by have := of_decide_eq_true hlt; omega
     have hlt' : i < Y.length := by omega
     obtain ⟨A, hA, hbd, hrd⟩ := (hX.ext hx4).get hlt
     refine ⟨A, hA, hbd, _, hrd, nxVar (vs := Sv.zero.c nilS) (by kernel_rfl) fun w7 hz7 hx7 _ => ⟨hz7.storeOk (by simp [Sv.c_length]) (by simpa using Sv.plain _ _), by simp [Sv.c_length], nxPut hz7 (us := (X[i]).s.c (X[i]).k) (by simp [Sv.c_length]) (by simp) fun w8 hv8 hc8 _ => ?_⟩⟩
     have hx8 : Ext w4 w8 := Ext.of_chg hx7 hc8 (Nat.le_refl _)
     obtain ⟨B, hB, hbd', hrd'⟩ := (hY.ext (Ext.trans hx4 hx8)).get hlt'
     refine ⟨B, hB, hbd', _, hrd', nxVar (vs := Sv.zero.c nilS) (by kernel_rfl) fun w11 hz11 hx11 _ => ⟨hz11.storeOk (by simp [Sv.c_length]) (by simpa using Sv.plain _ _), by simp [Sv.c_length], nxPut hz11 (us := (Y[i]).s.c (Y[i]).k) (by simp [Sv.c_length]) (by simp) fun w12 hv12 hc12 _ => ?_⟩⟩
     have hx12 : Ext w8 w12 := Ext.of_chg hx11 hc12 (Nat.le_refl _)
     have hX12 := Ext.trans hx4 (Ext.trans hx8 hx12)
     have hXi := (hX.ext hX12).bk _ (List.getElem_mem hlt)
     have hYi := (hY.ext hX12).bk _ (List.getElem_mem hlt')
     refine ⟨_, (hv8.ext hx12).rd (Sv.c_length _ _), _, hv12.rd (Sv.c_length _ _), ⟨_, (Option.some_get (show (Tryz.prog.funcs[F.conf_Same_1]?).isSome = true by kernel_rfl)).symm, by kernel_rfl, by kernel_rfl⟩, (conf_Same_1 (X[i]).s (Y[i]).s hXi.1 hYi.1 (hb _ (List.getElem_mem hlt))).use ?_⟩
     rintro _ w15 ⟨rfl, hx15⟩
     have hX15 := Ext.trans hX12 hx15
     have ew : IntKind.wrap .i64 ((i : Int) + 1) = ((i + 1 : Nat) : Int) := by rw [wrapi (by omega) (by omega)]; rfl
     have hms : ((X.length : Int) - ((i + 1 : Nat) : Int)).toNat < ((X.length : Int) - (i : Int)).toNat := by omega
     have e : (decide ((X[i]).s = (Y[i]).s) && decide ((X[i]).bs = (Y[i]).bs)) = decide ((X[i]).ab = (Y[i]).ab) := by
       rw [Bool.eq_iff_iff]; simp [SM.ab]
     rw [ew, e]
     refine ⟨_, rfl, fun hne => ⟨?_, hX15⟩, fun he => ⟨⟨i + 1, rfl, hlt, hX15, fun j h1 h2 hj => ?_⟩, hms⟩⟩
     · have hne : (X[i]).ab ≠ (Y[i]).ab := by simpa using hne
       have : X.map SM.ab ≠ Y.map SM.ab := fun e2 => hne (by
         have h1 : (X.map SM.ab)[i]? = (Y.map SM.ab)[i]? := by rw [e2]
         rw [List.getElem?_map, List.getElem?_map, List.getElem?_eq_getElem hlt, List.getElem?_eq_getElem hlt'] at h1
         simpa using h1)
       rw [decide_eq_false this]
     · rcases Nat.lt_or_ge j i with h3 | h3
       · exact hno j h1 h2 h3
       · obtain rfl : j = i := by omega
         simpa using he
   · have hi : i = X.length := by have := of_decide_eq_false hge; omega
     have : X.map SM.ab = Y.map SM.ab := List.ext_getElem (by simp [hll]) fun j h1 h2 => by
       rw [List.length_map] at h1 h2
       rw [List.getElem_map, List.getElem_map]
       exact hno j h1 h2 (by omega)
     rw [decide_eq_true this]
 · rintro _ w1 ⟨_, rfl, rfl, hx⟩
   exact ⟨_, rfl, rfl, hx⟩
theorem conf_Good' {t : Sl} {X : List SM} (hl : SvL w t X) : Ret Tryz.prog F.conf_Good #[.slice t.a t.len t.cap] w (fun v w' => v = .bool (goodL (X.map SM.ab)) ∧ Ext w w') := by
 refine W.conf_Good_ok t w _ ?_
 (delta W.conf_Good c9; dsimp only)
 refine (conf_good hl).use ?_
 rintro _ w1 ⟨rfl, hx⟩
 exact ⟨_, rfl, rfl, hx⟩
end Go.Proofs.YtgljoledlhmhnaaGreatDoor
namespace Go.Proofs.YtgljoledlhmhnaaGreatDoor
open Go Gx
variable {w w' : World}
theorem strCells_S (m : List UInt8) : Lib.strCells (S m) = u8s m := rfl
set_option maxRecDepth 100000 in
theorem append_str_own {oT : TypeId} {s : Sl} {l : List UInt8} (m : List UInt8) (hown : OwnS 1 Ty.uint8 w s (u8s l)) (hsmall : l.length + m.length ≤ 1000000000) :
   ∃ (s' : Sl) (w' : World), Sem.run Tryz.prog (Builtin.append_ #[Ty.Sl_uint8, Ty.string] oT #[.slice s.a s.len s.cap, .string (S m)]) w = .ok (.slice s'.a s'.len s'.cap) w' ∧ OwnS 1 Ty.uint8 w' s' (u8s (l ++ m)) ∧ Chg (ownB s) w w' ∧ ∀ k, ownB s' k → ownB s k ∨ w.heap.size ≤ k := by
 obtain ⟨g1, g2, g3, g4⟩ := hown
 have hown : OwnS 1 Ty.uint8 w s (u8s l) := ⟨g1, g2, g3, g4⟩
 have hsl : s.len = l.length := by rw [u8s_length, Nat.mul_one] at g1; exact g1.symm
 by_cases hfit : s.len + m.length ≤ s.cap
 · have hst : ∀ a, s.a = some a → StoreOk w (a.add s.len) (u8s m) := by
     intro a ha
     rcases g4 with ⟨hn, _⟩ | ⟨b, c, hbb, hblk, hcs, hv⟩
     · rw [hn] at ha; cases ha
     · rw [hbb] at ha
       cases ha
       rw [add_mk]
       exact hblk.storeOk _ _ (by rw [hcs, u8s_length]; omega) (u8s_plain m)
   have hrun := append_str_fit (oT := oT) (w := w) (s := s) m hfit hst
   refine ⟨⟨s.a, s.len + m.length, s.cap⟩, _, hrun, ?_, ?_, fun k hk => .inl hk⟩
   · rcases g4 with ⟨hn2, hc0⟩ | ⟨b, c, hbb, hblk, hcs, hv⟩
     · exact ⟨by rw [u8s_length, List.length_append]; show _ = (s.len + m.length) * 1; omega, hfit, g3, .inl ⟨hn2, hc0⟩⟩
     · simp only [hbb, add_mk, Nat.zero_add]
       have hblk2 := Blk.sets (T := Ty.uint8) (u8s m) s.len 0 hblk
       refine ⟨by rw [u8s_length, List.length_append]; show _ = (s.len + m.length) * 1; omega, hfit, g3, .inr ⟨b, _, rfl, hblk2, by rw [spl_size]; exact hcs, ?_⟩⟩
       have := take_spl (u8s m) c s.len (by rw [hcs, u8s_length]; omega)
       rw [u8s_length] at this
       rw [u8s_append]
       show List.take ((s.len + m.length) * 1) _ = _
       rw [Nat.mul_one, Nat.add_zero, this, ← hv, Nat.mul_one]
   · cases hsa : s.a with
     | none => exact .refl _ _
     | some a =>
       refine Chg.setCells (fun _ => ?_) (u8s m) 0 (.refl _ _)
       exact ⟨a, hsa, by unfold Addr.add; split <;> rfl⟩
 · have hm0 : 0 < m.length := by omega
   obtain ⟨i, hi⟩ : ∃ i, i = (Tryz.prog.info? Ty.uint8).get (by kernel_rfl) := ⟨_, rfl⟩
   have hinf : Tryz.prog.info? Ty.uint8 = some i := by rw [hi]; exact (Option.some_get _).symm
   have hz : i.zero = some (.int .u8 0) := by rw [hi]; kernel_rfl
   have hb1 : i.bytes = 1 := by rw [hi]; kernel_rfl
   have hs1 : i.size = 1 := by rw [hi]; kernel_rfl
   have key : ∀ (cs : Array Value) (n : Nat), l.length + m.length ≤ n → n ≤ maxLen → cs.toList = u8s (l ++ m) ++ List.replicate (n - (l.length + m.length)) (.int .u8 0) → OwnS 1 Ty.uint8 (w.drew.alloc (.cells cs Ty.uint8)) ⟨some ⟨w.heap.size, 0, none⟩, l.length + m.length, n⟩ (u8s (l ++ m)) := by
     intro cs n hn hnm hcs
     refine ⟨by rw [u8s_length, List.length_append]; show _ = (l.length + m.length) * 1; omega, hn, hnm, .inr ⟨w.heap.size, cs, rfl, Blk.new w.drew _ _, ?_, ?_⟩⟩
     · have := congrArg List.length hcs
       rw [Array.length_toList, List.length_append, List.length_replicate, u8s_length, List.length_append] at this
       rw [this]; show _ = n * 1; omega
     · rw [hcs]
       show List.take ((l.length + m.length) * 1) _ = _
       rw [Nat.mul_one]
       exact List.take_left' (by rw [u8s_length, List.length_append])
   have hzc : ∀ k, (Builtin.zeroCells (Value.int .u8 0).cells k).toList = List.replicate k (Value.int .u8 0) := by
     intro k
     have h1 : (Builtin.zeroCells (Value.int .u8 0).cells k).size = k := by
       rw [size_zeroCells]; show k * 1 = k; omega
     apply List.ext_getElem
     · rw [Array.length_toList, h1, List.length_replicate]
     · intro j h2 h3
       simp [Builtin.zeroCells, Value.cells, Nat.mod_one]
   have hfits : Builtin.nextslicecap (l.length + m.length) s.cap * i.bytes ≤ 281474976710656 := by
     rw [hb1, Nat.mul_one]
     have := nextcap_le (need := l.length + m.length) (cap := s.cap) (by omega)
     omega
   rcases g4 with ⟨hn2, hc0⟩ | ⟨b, c, hbb, hblk, hcs, hv⟩
   · have hl0 : l = [] := List.length_eq_zero_iff.1 (by omega)
     subst hl0
     have hs0 : s.len = 0 := by simpa using hsl
     have hr := run_append_nil_string (P := Tryz.prog) w Ty.Sl_uint8 Ty.string oT Ty.uint8 i (.int .u8 0) (by kernel_rfl) (by kernel_rfl) hinf hz (S m) (by rw [S_size]; exact hm0) (by rw [S_size]; omega) (by rw [S_size, hb1]; simp at hsmall; omega)
     have hge := grownCap_ge w m.length 0 Ty.uint8
     have hle := grownCap_le_maxLen w m.length 0 Ty.uint8 (by show m.length ≤ 2 ^ 63 - 1; simp at hsmall; omega)
     obtain rfl : s = ⟨none, 0, 0⟩ := by cases s; simp_all
     refine ⟨⟨some ⟨w.heap.size, 0, none⟩, m.length, grownCap w m.length 0 Ty.uint8⟩, _, hr, ?_, Chg.alloc (Chg.drew (.refl _ _)) _, ?_⟩
     · have := key ((S m).data.map (fun b => Value.int .u8 b.toNat) ++ Builtin.zeroCells (Value.int .u8 0).cells (grownCap w (S m).size 0 Ty.uint8 - (S m).size)) (grownCap w m.length 0 Ty.uint8) (by simpa using hge) hle (by
         rw [Array.toList_append, hzc, S_size]
         simp [S, u8s])
       simpa using this
     · rintro k ⟨A, hA, hk⟩
       cases hA
       exact .inr (by simpa using hk ▸ Nat.le_refl _)
   · have hcell : ∀ j u, (u8s l)[j]? = some u → w.cell? ((⟨b, 0, none⟩ : Addr).add j) = some u := by
       intro j u hj
       have hsrc := hown.src
       have := rdGet (i := 0) (hsrc.rd _ hbb) hj
       rwa [Nat.zero_add] at this
     have hr := Lib.run_append_grow_string (P := Tryz.prog) w Ty.Sl_uint8 Ty.string oT Ty.uint8 i (.int .u8 0) (by kernel_rfl) (by kernel_rfl) hinf hz ⟨b, 0, none⟩ s.len s.cap (u8s l) (by rw [u8s_length, hs1]; omega) hcell (S m) (by rw [S_size]; omega) (by rw [S_size]; omega) (by rw [S_size, hsl]; exact hfits)
     have hge := grownCap_ge w (l.length + m.length) s.cap Ty.uint8
     have hle := grownCap_le_maxLen w (l.length + m.length) s.cap Ty.uint8 (by show _ ≤ 2 ^ 63 - 1; omega)
     obtain ⟨sa, sl, sc⟩ := s
     obtain rfl : sa = some ⟨b, 0, none⟩ := hbb
     obtain rfl : sl = l.length := hsl
     rw [S_size] at hr
     refine ⟨⟨some ⟨w.heap.size, 0, none⟩, l.length + m.length, grownCap w (l.length + m.length) sc Ty.uint8⟩, _, hr, ?_, Chg.alloc (Chg.drew (.refl _ _)) _, ?_⟩
     · refine key _ _ hge hle ?_
       rw [Array.toList_append, Array.toList_append, hzc, strCells_S, u8s_append]
     · rintro k ⟨A, hA, hk⟩
       cases hA
       exact .inr (by simpa using hk ▸ Nat.le_refl _)
theorem WriteStringF {w0 w : World} {B : Nat} {l : List UInt8} (m : List UInt8) (h : BldF w0 w B l) (hr : l.length + m.length ≤ 1000000000) :
   Ret Tryz.prog F.strings_Builder_WriteString #[.pointer (some ⟨B, 0, none⟩), .string (S m)] w (fun v w' => v = .tuple #[.int .i64 ((m.length : Nat) : Int), .nilIface] ∧ BldF w0 w' B (l ++ m)) := by
 obtain ⟨hx, hnew, p, s, hp, hB, hs, hf⟩ := h
 refine W.strings_Builder_WriteString_ok _ _ w _ ?_
 (delta W.strings_Builder_WriteString c2 r1 st; dsimp only)
 refine (copyCheck0 (hp.imp And.left id) hB).use ?_
 rintro _ w1 ⟨rfl, hB1, c1⟩
 have hs1 := hs.chg c1 fun k hk e => (hf k hk).2 e
 have hx1 : Ext w0 w1 := Ext.of_new hx c1 fun q e => by subst e; exact hnew
 obtain ⟨s', w7, g1, g2, g4, g5⟩ := append_str_own (oT := Ty.Sl_uint8) m hs1 hr
 have hB7 : Blk w7 B #[.pointer (some ⟨B, 0, none⟩), .slice s.a s.len s.cap] Ty.strings_Builder := hB1.chg g4 fun hq => (hf B hq).2 rfl
 have hx7 : Ext w0 w7 := Ext.of_new hx1 g4 fun q hq => (hf q hq).1
 have hlt : B < w1.heap.size := hB1.lt
 refine ⟨rfl, _, rfl, s, by rw [add_mk, hB1.cell]; rfl, s', w7, g1, _, rfl, ⟨_, by rw [add_mk, hB7.cell]; rfl⟩, by rw [add_mk]; exact hB7.frozen _ rfl, nx ⟨rfl, ?_⟩⟩
 rw [add_mk]
 have c9 : Chg (fun q => q = B) w7 (w7.setCell ⟨B, 0 + 1, none⟩ (.slice s'.a s'.len s'.cap)) := Chg.cellB (.refl _ _) _
 have hne : ∀ k, ownB s' k → w0.heap.size ≤ k ∧ k ≠ B := fun k hk => by
   rcases g5 k hk with h1 | h1
   · exact hf k h1
   · exact ⟨Nat.le_trans hx1.size h1, by omega⟩
 exact ⟨Ext.of_new hx7 c9 fun q e => by subst e; exact hnew, hnew, some ⟨B, 0, none⟩, s', .inr rfl, hB7.set (0 + 1) _, g2.chg c9 fun k hk e => (hne k hk).2 e, hne⟩
theorem BStringNew {w0 : World} {B : Nat} (hB : Blk w B #[.pointer none, .slice none 0 0] Ty.strings_Builder) (hx : Ext w0 w) :
   Ret Tryz.prog F.strings_Builder_String #[.pointer (some ⟨B, 0, none⟩)] w (fun v w' => v = .string (S []) ∧ Ext w0 w') := by
 refine W.strings_Builder_String_ok _ w _ ?_
 (delta W.strings_Builder_String r1; dsimp only)
 have hcell : w.drew.cell? ((Addr.mk B 0 none).add 1) = some (.slice none 0 0) := by rw [add_mk, hB.drew.cell]; rfl
 exact nx ⟨fun _ => False, _, rfl, id, ⟨none, 0, 0⟩, hcell, _, rfl, id, ⟨none, 0, 0⟩, hcell, none, w.drew, Lib.run_unsafeSliceData_nil w.drew _ _ 0 0, .refl _ _, S [], w.drew, Lib.run_unsafeString_none w.drew _ _ _ _, rfl, Chg.drew hx⟩
end Go.Proofs.YtgljoledlhmhnaaGreatDoor
namespace Go.Proofs.YtgljoledlhmhnaaGreatDoor
open Go Gx
variable {w w' : World}
structure OpsL (w : World) (t : Sl) (O : List OpM) (Y : List Stp) : Prop where
 own : OwnS 51 Ty.api_Op w t (opsC O)
 len : O.length = Y.length
 is : ∀ (i : Nat) (h1 : i < O.length) (h2 : i < Y.length), OpIs w O[i] Y[i]
 ap : ∀ o ∈ O, (o.data.len ≠ 0 → ∀ q, ownB o.data q → q < w.heap.size ∧ ¬ ownB t q) ∧ (o.l.len ≠ 0 → ∀ q, ownB o.l q → q < w.heap.size ∧ ¬ ownB t q)
theorem src0 {sz : Nat} {s : Sl} (h : Src sz w s []) (hs : s.len = 0) : Src sz w' s [] := ⟨by rw [hs]; simp, fun _ => rfl, fun a ha => by rw [hs, Nat.zero_mul]; rfl⟩
theorem OpIs.chg0 {W : Nat → Prop} {o : OpM} {a : Stp} (h : OpIs w o a) (hc : Chg W w w') (h1 : o.data.len ≠ 0 → ∀ q, ownB o.data q → ¬ W q) (h2 : o.l.len ≠ 0 → ∀ q, ownB o.l q → ¬ W q) : OpIs w' o a := by
 refine ⟨h.kind, ?_, h.id, h.bid, h.n, h.on, h.s, h.nb, h.to, ?_⟩
 · by_cases e : o.data.len = 0
   · have hd := h.data
     have : u8s a.data = [] := List.length_eq_zero_iff.1 (by rw [hd.len, e])
     rw [this] at hd ⊢
     exact src0 hd e
   · exact h.data.chg hc (h1 e)
 · by_cases e : o.l.len = 0
   · have hd := h.li
     have : a.li.map encI = [] := List.length_eq_zero_iff.1 (by rw [hd.len, e])
     rw [this] at hd ⊢
     exact src0 hd e
   · exact h.li.chg hc (h2 e)
theorem src_lt {s : Sl} {vs : List Value} (h : Src 1 w s vs) (hs : s.len ≠ 0) {q : Nat} (hq : ownB s q) : q < w.heap.size := by
 obtain ⟨A, hA, e⟩ := hq
 have hl := h.len
 have hlt : 0 < vs.length := by omega
 obtain ⟨B, hB, _, hc⟩ := h.at (i := 0) (v := vs[0]) (List.getElem?_eq_getElem hlt)
 obtain rfl : A = B := by rw [hA] at hB; exact Option.some.inj hB
 rw [← e]
 rw [show Int.toNat ((0 : Nat) : Int) * 1 = 0 from rfl, add_zero'] at hc
 simp only [World.cell?] at hc
 cases hg : w.heap[A.block]? with
 | none => simp [hg] at hc
 | some o => exact (Array.getElem?_eq_some_iff.1 hg).1
variable {t : Sl} {O : List OpM} {Y : List Stp}
theorem OpsL.slen (h : OpsL w t O Y) : t.len = Y.length := by have := h.own.1; rw [opsC_length] at this; have := h.len; omega
theorem OpsL.ext (h : OpsL w t O Y) (hx : Ext w w') : OpsL w' t O Y := ⟨h.own.ext hx, h.len, fun i h1 h2 => (h.is i h1 h2).ext hx, fun o ho => ⟨fun e q hq => ⟨Nat.lt_of_lt_of_le ((h.ap o ho).1 e q hq).1 hx.size, ((h.ap o ho).1 e q hq).2⟩, fun e q hq => ⟨Nat.lt_of_lt_of_le ((h.ap o ho).2 e q hq).1 hx.size, ((h.ap o ho).2 e q hq).2⟩⟩⟩
theorem OpsL.get (h : OpsL w t O Y) {i : Nat} (hi : i < Y.length) : ∃ A, t.a = some A ∧ ((0 : Int) ≤ (i : Int) ∧ (i : Int) < ((t.len : Nat) : Int)) ∧ ∃ o : OpM, rdCells w (A.add (Int.toNat (i : Int) * 51)) 0 51 = some o.c ∧ OpIs w o Y[i] := by
 obtain ⟨A, h1, h2, h3⟩ := OpM.get h.own.src (i := i) (by rw [h.len]; exact hi)
 exact ⟨A, h1, h2, _, h3, h.is i _ hi⟩
theorem OpsL.push (h : OpsL w t O Y) {o : OpM} {y : Stp} (ho : OpIs w o y) (hf : ∀ q, (ownB o.data q ∨ ownB o.l q) → ¬ ownB t q) (hn : Y.length ≤ 1000000) :
   ∃ (t' : Sl) (w1 w2 : World), Sem.run Tryz.prog (Instr.buildSlice Ty.Sl_api_Op 1 #[(0, .agg o.c.toArray)]) w = .ok (.slice (some ⟨w.heap.size, 0, none⟩) 1 1) w1 ∧
     Sem.run Tryz.prog (Builtin.append_ #[Ty.Sl_api_Op, Ty.Sl_api_Op] Ty.Sl_api_Op #[.slice t.a t.len t.cap, .slice (some ⟨w.heap.size, 0, none⟩) 1 1]) w1 = .ok (.slice t'.a t'.len t'.cap) w2 ∧
     OpsL w2 t' (O ++ [o]) (Y ++ [y]) ∧ Chg (ownB t) w w2 ∧ ∀ q, ownB t' q → ownB t q ∨ w.heap.size ≤ q := by
 have hl := h.slen
 have hx : Ext w (w.alloc (.cells o.c.toArray Ty.api_Op)) := Chg.alloc (.refl _ _) _
 obtain ⟨t', w2, g1, g2, g3, g4, g5⟩ := appOp.append (oT := Ty.Sl_api_Op) (Src.new (T := Ty.api_Op) w o.c 1 (by rw [o.c_length])) (h.own.ext hx) o.plain (by show (2 * (t.len + 1) + 1000) * 208 ≤ _; omega)
 have hc : Chg (ownB t) w w2 := (Chg.of_ext hx).trans g4
 have hf5 : ∀ q, ownB t' q → ownB t q ∨ w.heap.size ≤ q := fun q hq => (g5 q hq).imp id fun h => Nat.le_trans hx.size h
 refine ⟨t', _, w2, buildOp o w, g1, ⟨?_, by simp [h.len], fun i h1 h2 => ?_, fun p hp => ?_⟩, hc, hf5⟩
 · rw [opsC_app, opsC_one]; exact g2
 · by_cases hi : i < O.length
   · rw [List.getElem_append_left hi, List.getElem_append_left (by rw [← h.len]; exact hi)]
     have ha := h.ap _ (List.getElem_mem hi)
     exact (h.is i hi (by rw [← h.len]; exact hi)).chg0 hc (fun e q hq => (ha.1 e q hq).2) (fun e q hq => (ha.2 e q hq).2)
   · have hi' : i = O.length := by simp at h1; omega
     subst hi'
     have e1 : (O ++ [o])[O.length] = o := by simp
     have e2 : (Y ++ [y])[O.length] = y := by simp [h.len]
     rw [e1, e2]
     exact ho.chg hc (fun q hq => hf q (.inl hq)) (fun q hq => hf q (.inr hq))
 · rcases List.mem_append.1 hp with hp | hp
   · have ha := h.ap p hp
     refine ⟨fun e q hq => ?_, fun e q hq => ?_⟩
     · have := ha.1 e q hq
       exact ⟨Nat.lt_of_lt_of_le this.1 hc.size, fun h2 => (hf5 q h2).elim this.2 (fun h3 => by omega)⟩
     · have := ha.2 e q hq
       exact ⟨Nat.lt_of_lt_of_le this.1 hc.size, fun h2 => (hf5 q h2).elim this.2 (fun h3 => by omega)⟩
   · obtain rfl : p = o := List.mem_singleton.1 hp
     refine ⟨fun e q hq => ?_, fun e q hq => ?_⟩
     · have hlt := src_lt ho.data e hq
       exact ⟨Nat.lt_of_lt_of_le hlt hc.size, fun h2 => (hf5 q h2).elim (hf q (.inl hq)) (fun h3 => by omega)⟩
     · have hlt := src_lt ho.li e hq
       exact ⟨Nat.lt_of_lt_of_le hlt hc.size, fun h2 => (hf5 q h2).elim (hf q (.inr hq)) (fun h3 => by omega)⟩
noncomputable def textOf (Y : List Stp) : List UInt8 := Y.flatMap fun y => showO y ++ [10]
theorem textOf_snoc (Y : List Stp) (y : Stp) : textOf (Y ++ [y]) = textOf Y ++ (showO y ++ [10]) := by simp [textOf]
theorem textOf_len (Y : List Stp) : (textOf Y).length ≤ Y.length * 4201 := by
 induction Y with
 | nil => simp [textOf]
 | cons y Y ih =>
   have := showO_len y
   have e : textOf (y :: Y) = (showO y ++ [10]) ++ textOf Y := rfl
   rw [e, List.length_append, List.length_append, List.length_singleton, List.length_cons, Nat.succ_mul]
   omega
theorem e10 : ByteArray.mk #[10] = S [10] := rfl
theorem script_Print (h : OpsL w t O Y) (hv : ∀ y ∈ Y, Vd y ∧ y.data.length ≤ 1000000 ∧ y.li.length ≤ 1000000) (ht : ScT w) : Ret Tryz.prog F.script_Print #[.slice t.a t.len t.cap] w (fun v w' => Ext w w' ∧
   (Y.length > 1000 → v = .tuple #[.string (S []), .int .i64 10]) ∧ (Y.length ≤ 1000 → (∃ y ∈ Y, showO y = []) → v = .tuple #[.string (S []), .int .i64 1]) ∧ (Y.length ≤ 1000 → (∀ y ∈ Y, showO y ≠ []) → v = .tuple #[.string (S (textOf Y)), .int .i64 0])) := by
 refine W.script_Print_ok t w _ ?_
 (delta W.script_Print Br z2 ix al z4 nA c4 mI c3 wI; dsimp only)
 have hl := h.slen
 refine ⟨fun hg => ⟨.refl _ _, fun _ => rfl, fun h1 => ?_, fun h1 => ?_⟩, fun hg => nx ?_⟩
 · have := of_decide_eq_true hg; omega
 · have := of_decide_eq_true hg; omega
 have hg : Y.length ≤ 1000 := by have := of_decide_eq_false hg; omega
 refine ⟨fun n w' => ∃ i : Nat, n = i ∧ i ≤ Y.length ∧ BldF w w' w.heap.size (textOf (Y.take i)) ∧ (i = 0 → Blk w' w.heap.size #[.pointer none, .slice none 0 0] Ty.strings_Builder) ∧ ∀ y ∈ Y.take i, showO y ≠ [], fun n _ => ((Y.length : Int) - n).toNat,
   ⟨0, rfl, Nat.zero_le _, by rw [List.take_zero]; exact BldF.start w, fun _ => Blk.new _ _ _, by simp⟩, ?_⟩
 rintro _ w5 ⟨i, rfl, hi, hB, hB0, hne⟩
 have hX5 := hB.ext
 refine ⟨fun hlt => ?_, fun hge => ?_⟩
 · have hlt : i < Y.length := by have := of_decide_eq_true hlt; omega
   obtain ⟨A, hA, hbd, o, hrd, ho⟩ := (h.ext hX5).get hlt
   have hvi := hv _ (List.getElem_mem hlt)
   refine ⟨A, hA, hbd, _, hrd, nxVar (vs := opZ.c) (by kernel_rfl) fun w8 hz hx8 hs8 => ⟨hz.storeOk (by simp [OpM.c_length]) (by simpa using o.plain), by simp [OpM.c_length], nxPut hz (us := o.c) (by simp [OpM.c_length]) (by simp) fun w9 hv9 hc9 _ => ?_⟩⟩
   have hx9 : Ext w5 w9 := Ext.of_chg hx8 hc9 (Nat.le_refl _)
   refine ⟨_, hv9.rd (OpM.c_length _), (script_show (ho.ext hx9) hvi.1 (by omega) (by omega) (ht.ext (Ext.trans hX5 hx9))).use ?_⟩
   rintro _ w11 ⟨rfl, hx11⟩
   have hX11 := Ext.trans hX5 (Ext.trans hx9 hx11)
   refine ⟨_, rfl, fun hb => ⟨hX11, fun h1 => by omega, fun _ _ => rfl, fun _ h2 => ?_⟩, fun hb => ?_⟩
   · rw [nilBA, S_beq] at hb
     exact absurd (eq_of_beq hb) (h2 _ (List.getElem_mem hlt))
   · rw [nilBA, S_beq] at hb
     have hb : showO Y[i] ≠ [] := ne_of_beq_false hb
     have hsl := showO_len Y[i]
     have htl := textOf_len (Y.take i)
     rw [List.length_take, Nat.min_eq_left hi] at htl
     have htl2 : i * 4201 ≤ 1000 * 4201 := Nat.mul_le_mul_right _ (by omega)
     rw [e10, S_append, S_size, S_size]
     have hB11 : BldF w w11 w.heap.size (textOf (Y.take i)) := by
       obtain ⟨b1, b2, p, s, b3, b4, b5, b6⟩ := hB
       exact ⟨hX11, b2, p, s, b3, b4.ext (Ext.trans hx9 hx11), b5.ext (Ext.trans hx9 hx11), b6⟩
     refine ⟨by simp only [List.length_cons, List.length_nil]; omega, (WriteStringF (showO Y[i] ++ [10]) hB11 (by simp only [List.length_append, List.length_cons, List.length_nil]; omega)).use ?_⟩
     rintro _ w14 ⟨rfl, hB14⟩
     have ew : IntKind.wrap .i64 ((i : Int) + 1) = ((i + 1 : Nat) : Int) := by rw [wrapi (by omega) (by omega)]; rfl
     have hms : ((Y.length : Int) - ((i + 1 : Nat) : Int)).toNat < ((Y.length : Int) - (i : Int)).toNat := by omega
     rw [ew]
     refine ⟨_, _, rfl, ⟨i + 1, rfl, hlt, ?_, fun h => by omega, fun y hy => ?_⟩, hms⟩
     · rw [List.take_succ_eq_append_getElem hlt, textOf_snoc]; exact hB14
     · rw [List.take_succ_eq_append_getElem hlt] at hy
       rcases List.mem_append.1 hy with hy | hy
       · exact hne y hy
       · rw [List.mem_singleton.1 hy]; exact hb
 · have hi' : i = Y.length := by have := of_decide_eq_false hge; omega
   have fin : Ret Tryz.prog F.strings_Builder_String #[.pointer (some ⟨w.heap.size, 0, none⟩)] w5 (fun v w' => v = .string (S (textOf (Y.take i))) ∧ Ext w w') := by
     by_cases h0 : i = 0
     · have := BStringNew (hB0 h0) hX5
       rw [h0, List.take_zero]
       exact this
     · have hpos : textOf (Y.take i) ≠ [] := by
         obtain ⟨j, rfl⟩ : ∃ j, i = j + 1 := ⟨i - 1, by omega⟩
         rw [List.take_succ_eq_append_getElem (by omega), textOf_snoc]
         simp
       have htl := textOf_len (Y.take i)
       rw [List.length_take, Nat.min_eq_left hi] at htl
       have htl2 : i * 4201 ≤ 1000 * 4201 := Nat.mul_le_mul_right _ (by omega)
       exact BString (hB.used hpos) hpos (by omega)
   refine fin.use ?_
   rintro _ w18 ⟨rfl, hx18⟩
   rw [hi', List.take_length] at hne ⊢
   refine ⟨_, rfl, hx18, fun h1 => by omega, fun _ ⟨y, hy, h2⟩ => absurd h2 (hne y hy), fun _ _ => rfl⟩
end Go.Proofs.YtgljoledlhmhnaaGreatDoor
namespace Go.Proofs.YtgljoledlhmhnaaGreatDoor
open Go Gx
variable {w w' : World}
theorem buildOp0 (w : World) : Sem.run Tryz.prog (Instr.buildSlice Ty.Sl_api_Op 0 #[]) w = .ok (.slice (some ⟨w.heap.size, 0, none⟩) 0 0) (w.alloc (.cells #[] Ty.api_Op)) := by kernel_rfl
theorem OpsL.new (w : World) : OpsL (w.alloc (.cells #[] Ty.api_Op)) ⟨some ⟨w.heap.size, 0, none⟩, 0, 0⟩ [] [] := ⟨OwnS.new w [] 0 rfl (by decide), rfl, fun i h => by simp at h, fun o h => by cases h⟩
end Go.Proofs.YtgljoledlhmhnaaGreatDoor
namespace Go.Proofs.YtgljoledlhmhnaaGreatDoor
open Go Gx
variable {w w' w0 : World}
def stpOf (o : OpM) : Stp := ⟨o.kind, [], o.id, o.bid, o.n, o.on, o.s, 0, o.to, []⟩
structure Bare0 (o : OpM) : Prop where
 d : o.data = nilS
 l : o.l = nilS
 k : o.k.len = 0
theorem Bare0.is {o : OpM} (h : Bare0 o) (w : World) : OpIs w o (stpOf o) := ⟨rfl, by rw [h.d]; exact (nils w).1, rfl, rfl, rfl, rfl, rfl, h.k, rfl, by rw [h.l]; exact (nils w).2⟩
theorem mkAddSK (s : Sv) (k : Sl) (w : World) : Sem.run Tryz.prog (Instr.build Ty.api_Op #[(0, .int .i64 3), (6, .agg (s.c k).toArray)]) w = .ok (.agg ({ oAddS s with k := k } : OpM).c.toArray) w := by
 obtain ⟨id, ⟨six, b, h⟩, port, proto, bits, lasts⟩ := s
 obtain ⟨x0, x1, x2, x3, x4, x5, x6, x7, x8, x9, x10, x11, x12, x13, x14, x15, rfl⟩ := list16 b h
 kernel_rfl
def Dst (w0 w : World) (s : Sl) (L : List OpM) : Prop := ∃ O, OpsL w s O (L.map stpOf) ∧ Ext w0 w ∧ ∀ q, ownB s q → w0.heap.size ≤ q
variable {s : Sl} {L : List OpM}
theorem Dst.mono (h : Dst w0 w s L) (hx : Ext w w') : Dst w0 w' s L := let ⟨O, h1, h2, h3⟩ := h; ⟨O, h1.ext hx, Ext.trans h2 hx, h3⟩
theorem Dst.ext (h : Dst w0 w s L) : Ext w0 w := let ⟨_, _, h2, _⟩ := h; h2
theorem Dst.push (h : Dst w0 w s L) {o o0 : OpM} (ho : Bare0 o) (he : stpOf o = stpOf o0) (hn : L.length ≤ 900000) :
   ∃ (s1 : Sl) (w1 : World) (s' : Sl) (w2 : World), Sem.run Tryz.prog (Instr.buildSlice Ty.Sl_api_Op 1 #[(0, .agg o.c.toArray)]) w = .ok (.slice s1.a s1.len s1.cap) w1 ∧ Ext w w1 ∧
     Sem.run Tryz.prog (Builtin.append_ #[Ty.Sl_api_Op, Ty.Sl_api_Op] Ty.Sl_api_Op #[.slice s.a s.len s.cap, .slice s1.a s1.len s1.cap]) w1 = .ok (.slice s'.a s'.len s'.cap) w2 ∧
     Dst w0 w2 s' (L ++ [o0]) ∧ ∀ (b : Nat) (vs : List Value) (T : TypeId), Var w b vs T → T ≠ Ty.api_Op → Var w2 b vs T := by
 obtain ⟨O, h1, h2, h3⟩ := h
 obtain ⟨t', wa, wb, g1, g2, g3, g4, g5⟩ := h1.push (ho.is w) (fun q hq => by rw [ho.d, ho.l] at hq; exact (hq.elim (ownB_none q) (ownB_none q)).elim) (by rw [List.length_map]; omega)
 have hwa : wa = w.alloc (.cells o.c.toArray Ty.api_Op) := by
   have := g1.symm.trans (buildOp o w)
   injection this
 refine ⟨⟨some ⟨w.heap.size, 0, none⟩, 1, 1⟩, wa, t', wb, g1, by rw [hwa]; exact Chg.alloc (.refl _ _) _, g2, ⟨O ++ [o], ?_, Ext.of_new h2 g4 h3, fun q hq => ?_⟩, fun b vs T hv hT => hv.chg g4 fun hq => hT (h1.own.notVar hq hv).symm⟩
 · rw [List.map_append, List.map_singleton, ← he]; exact g3
 · rcases g5 q hq with h | h
   · exact h3 q h
   · have := h2.size; omega
theorem bare_dropS (id : Int) : Bare0 (oDropS id) := ⟨rfl, rfl, rfl⟩
theorem ofSB_map (Y : List SM) (s : Sv) : ofSB (Y.map SM.ab) s = (Y.find? fun y => decide (s = y.s)).map SM.ab := by
 unfold ofSB
 rw [List.find?_map]
 rfl
theorem rowS {A : Addr} {x : SM} (h : rdCells w A 0 23 = some (x.s.c x.k)) : w.cell? A = some (.int .i64 x.s.id) ∧ w.cell? (A.add 22) = some (.slice x.k.a x.k.len x.k.cap) := by
 refine ⟨?_, ?_⟩
 · have := rdGet (i := 0) h (j := 0) (v := .int .i64 x.s.id) rfl
   rwa [Nat.add_zero, add_zero'] at this
 · have := rdGet (i := 0) h (j := 22) (v := .slice x.k.a x.k.len x.k.cap) (by simp [Sv.c, Ad.c_length])
   rwa [Nat.zero_add] at this
theorem br_nil (A : Option Addr) (w : World) : BR w ⟨A, 0, 0⟩ [] := ⟨rfl, fun _ => rfl, fun a _ => rfl⟩
set_option maxHeartbeats 1000000 in
theorem ref39_Diff {a b : Sl} {X Y : List SM} (hX : SvIn w a X) (hY : SvIn w b Y) (hXl : X.length ≤ 100) (hYl : Y.length ≤ 100) (hXb : ∀ x ∈ X, x.bs.length ≤ 100) (hYb : ∀ y ∈ Y, y.bs.length ≤ 100) :
   Ret Tryz.prog F.ref39_Diff #[.slice a.a a.len a.cap, .slice b.a b.len b.cap] w (fun v w' => ∃ s : Sl, v = .slice s.a s.len s.cap ∧ Dst w w' s (diffL (X.map SM.ab) (Y.map SM.ab))) := by
 refine W.ref39_Diff_ok a b w _ ?_
 (delta W.ref39_Diff Br ix c1 bd r3 c16 T7 wI al z1 nA r1 st z5 r8; dsimp only)
 have hal := hX.len; have hbl := hY.len
 have hxn : Ext w (w.alloc (.cells #[] Ty.api_Op)) := Chg.alloc (.refl _ _) _
 obtain ⟨A, hA⟩ : ∃ A, A = X.map SM.ab := ⟨_, rfl⟩
 obtain ⟨B, hB⟩ : ∃ B, B = Y.map SM.ab := ⟨_, rfl⟩
 rw [← hA, ← hB]
 obtain ⟨dr, hdr⟩ : ∃ dr : List SB → List OpM, dr = fun l => (l.filter fun x => (ofSB B x.1).isNone).map fun x => oDropS x.1.id := ⟨_, rfl⟩
 have hdrl : ∀ l, (dr l).length ≤ l.length := fun l => by rw [hdr]; simp only [List.length_map]; exact List.length_filter_le _ _
 refine ⟨⟨some ⟨w.heap.size, 0, none⟩, 0, 0⟩, _, buildOp0 w, fun s n w' => ∃ i : Nat, n = i ∧ i ≤ X.length ∧ Dst w w' s (dr (A.take i)), fun _ n _ => ((X.length : Int) - n).toNat, ⟨0, rfl, Nat.zero_le _, [], by rw [hdr]; exact OpsL.new w, hxn, fun q hq => by rw [ownB_some] at hq; exact Nat.le_of_eq hq⟩, ?_⟩
 rintro s _ w7 ⟨i, rfl, hi, hD⟩
 have hX7 := hD.ext
 refine ⟨fun hlt => ?_, fun hge => ?_⟩
 · have hlt : i < X.length := by have := of_decide_eq_true hlt; omega
   have ew : IntKind.wrap .i64 ((i : Int) + 1) = ((i + 1 : Nat) : Int) := by rw [wrapi (by omega) (by omega)]; rfl
   have hms : ((X.length : Int) - ((i + 1 : Nat) : Int)).toNat < ((X.length : Int) - (i : Int)).toNat := by omega
   have hAi : A[i]'(by rw [hA, List.length_map]; exact hlt) = (X[i]).ab := by simp [hA]
   have hal2 : i < A.length := by rw [hA, List.length_map]; exact hlt
   have hdl := hdrl (A.take i)
   rw [List.length_take] at hdl
   have htk : A.take (i + 1) = A.take i ++ [(X[i]).ab] := by rw [List.take_succ_eq_append_getElem hal2, hAi]
   refine Jn1 (fun s' w' => Dst w w' s' (dr (A.take (i + 1)))) (fun q hq => ?_) (fun s' w' h => by rw [ew]; exact ⟨⟨i + 1, rfl, hlt, h⟩, hms⟩)
   obtain ⟨P, hP, hbd, hrd⟩ := (hX.ext hX7).get hlt
   refine ⟨P, hP, hbd, _, hrd, (ref39_find (hY.ext hX7) (by omega) _ _).use ?_⟩
   rintro _ w11 ⟨rfl, hx11⟩
   obtain ⟨P2, hP2, _, hrd2⟩ := (hX.ext (Ext.trans hX7 hx11)).get hlt
   obtain rfl : P = P2 := by rw [hP] at hP2; exact Option.some.inj hP2
   have hD11 := hD.mono hx11
   have hof := ofSB_map Y (X[i]).s
   rw [← hB] at hof
   refine ⟨_, rfl, fun hneg => ⟨P, hP, hbd, _, (rowS hrd2).1, _, mkDropS w11 _, ?_⟩, fun hpos => ?_⟩
   · have hneg := of_decide_eq_true hneg
     obtain ⟨s1, w1, s', w2, g1, g2, g3, g4, _⟩ := hD11.push (bare_dropS (X[i]).s.id) rfl (by omega)
     refine ⟨s1, w1, g1, s', w2, g3, hq _ _ ?_⟩
     rcases idxG_cases (fun y : SM => decide ((X[i]).s = y.s)) Y with ⟨k, hk, he, hf⟩ | ⟨he, hf⟩
     · rw [he] at hneg; omega
     · rw [hf] at hof
       rw [htk, hdr]
       simp only [List.filter_append, List.map_append]
       have e1 : (List.filter (fun x : SB => (ofSB B x.1).isNone) [(X[i]).ab]) = [(X[i]).ab] := by
         rw [List.filter_cons_of_pos (by show (ofSB B (X[i]).s).isNone = true; rw [hof]; rfl), List.filter_nil]
       rw [e1, hdr] at *
       exact g4
   · have hpos := of_decide_eq_false hpos
     refine hq _ _ ?_
     rcases idxG_cases (fun y : SM => decide ((X[i]).s = y.s)) Y with ⟨k, hk, he, hf⟩ | ⟨he, hf⟩
     · rw [hf] at hof
       rw [htk]
       have e2 : dr (A.take i ++ [(X[i]).ab]) = dr (A.take i) := by
         rw [hdr]
         simp only [List.filter_append, List.map_append]
         rw [List.filter_cons_of_neg (by show ¬ (ofSB B (X[i]).s).isNone = true; rw [hof]; simp), List.filter_nil]
         simp
       rw [e2]; exact hD11
     · rw [he] at hpos; omega
 · have hi' : i = X.length := by have := of_decide_eq_false hge; omega
   have htk : A.take i = A := by rw [hi', hA]; exact List.take_of_length_le (by simp)
   rw [htk] at hD
   have hdA : (dr A).length ≤ 100 := by have := hdrl A; rw [hA, List.length_map] at this; rw [hA]; omega
   obtain ⟨f, hf⟩ : ∃ f : SB → List OpM, f = fun y => svOps (wasB A y.1) (ofSB A y.1).isSome y := ⟨_, rfl⟩
   have hdiff : diffL A B = dr A ++ B.flatMap f := by rw [hdr, hf]; rfl
   rw [hdiff]
   have hwl : ∀ sv : Sv, (wasB A sv).length ≤ 100 := fun sv => by
     unfold wasB
     cases ho : ofSB A sv with
     | none => simp
     | some x =>
       have hm : x ∈ A := List.mem_of_find?_eq_some ho
       rw [hA] at hm
       obtain ⟨z, hz, rfl⟩ := List.mem_map.1 hm
       exact hXb z hz
   have hfl : ∀ k ≤ Y.length, ((B.take k).flatMap f).length ≤ 100 * 4001 := fun k hk => by
     have := flatMap_len f 4001 (B.take k) (fun x hx => by
       have hx2 := List.mem_of_mem_take hx
       rw [hB] at hx2
       obtain ⟨z, hz, rfl⟩ := List.mem_map.1 hx2
       rw [hf]
       exact svOps_len (by have := hwl (SM.ab z).1; omega) (by have := hYb z hz; show z.bs.length ≤ 1000; omega))
     refine Nat.le_trans this (Nat.mul_le_mul_right _ ?_)
     have : B.length ≤ 100 := by rw [hB, List.length_map]; omega
     rw [List.length_take]; omega
   refine ⟨fun s n w' => ∃ i : Nat, n = i ∧ i ≤ Y.length ∧ Dst w w' s (dr A ++ (B.take i).flatMap f), fun _ n _ => ((Y.length : Int) - n).toNat, ⟨0, rfl, Nat.zero_le _, by simpa using hD⟩, ?_⟩
   rintro s _ w27 ⟨i, rfl, hi, hD⟩
   have hX27 := hD.ext
   refine ⟨fun hlt => ?_, fun hge => ?_⟩
   · have hlt : i < Y.length := by have := of_decide_eq_true hlt; omega
     have ew : IntKind.wrap .i64 ((i : Int) + 1) = ((i + 1 : Nat) : Int) := by rw [wrapi (by omega) (by omega)]; rfl
     have hms : ((Y.length : Int) - ((i + 1 : Nat) : Int)).toNat < ((Y.length : Int) - (i : Int)).toNat := by omega
     obtain ⟨y, hy⟩ : ∃ y, y = Y[i] := ⟨_, rfl⟩
     have hym : y ∈ Y := by rw [hy]; exact List.getElem_mem hlt
     have hyb := hYb y hym
     have hBl : i < B.length := by rw [hB, List.length_map]; exact hlt
     have htkB : B.take (i + 1) = B.take i ++ [y.ab] := by
       rw [List.take_succ_eq_append_getElem hBl]
       congr 2
       simp [hB, hy]
     obtain ⟨pre, hpre⟩ : ∃ pre, pre = dr A ++ (B.take i).flatMap f := ⟨_, rfl⟩
     have hprel : pre.length ≤ 500300 := by rw [hpre, List.length_append]; have := hfl i (by omega); omega
     rw [← hpre] at hD
     obtain ⟨P, hP, hbd, hrd⟩ := (hY.ext hX27).get hlt
     rw [← hy] at hrd
     -- the row of this service, whatever is laid meanwhile
     have row : ∀ {w' : World}, Ext w w' → w'.cell? ((P.add (Int.toNat (i : Int) * 23)).add 22) = some (.slice y.k.a y.k.len y.k.cap) := fun hx => by
       obtain ⟨P2, hP2, _, hrd2⟩ := (hY.ext hx).get hlt
       obtain rfl : P = P2 := by rw [hP] at hP2; exact Option.some.inj hP2
       rw [← hy] at hrd2
       exact (rowS hrd2).2
     have hyk : ∀ {w' : World}, Ext w w' → BR w' y.k y.bs := fun hx => ((hY.ext hx).bk y hym).1
     have hykl := BR.len (hyk (.refl _ _))
     have hxk : Ext w27 (w27.alloc (.cells #[] Ty.api_Backend)) := Chg.alloc (.refl _ _) _
     refine ⟨P, hP, hbd, _, hrd, ⟨some ⟨w27.heap.size, 0, none⟩, 0, 0⟩, _, buildBk0 w27, nxVar (vs := Sv.zero.c nilS) (by kernel_rfl) fun w32 hz32 hx32 _ => ⟨hz32.storeOk (by simp [Sv.c_length]) (by simpa using Sv.plain _ _), by simp [Sv.c_length], nxPut hz32 (us := y.s.c y.k) (by simp [Sv.c_length]) (by simp) fun w33 hv33 hc33 _ => ?_⟩⟩
     obtain ⟨bS, hbS⟩ : ∃ bS, bS = (w27.alloc (.cells #[] Ty.api_Backend)).heap.size := ⟨_, rfl⟩
     rw [← hbS] at hv33 ⊢
     have hx33 : Ext w27 w33 := Ext.trans hxk (Ext.of_chg hx32 hc33 (Nat.le_refl _))
     have hD33 := hD.mono hx33
     obtain ⟨was, hwas⟩ : ∃ was, was = wasB A y.s := ⟨_, rfl⟩
     have hwasl : was.length ≤ 100 := by rw [hwas]; exact hwl _
     obtain ⟨p1, hp1⟩ : ∃ p1 : List OpM, p1 = pre ++ (if (ofSB A y.s).isSome then [] else [oAddS y.s]) := ⟨_, rfl⟩
     have hp1l : p1.length ≤ 500301 := by rw [hp1, List.length_append]; have : (if (ofSB A y.s).isSome then [] else [oAddS y.s] : List OpM).length ≤ 1 := by split <;> simp
                                          omega
     refine Jn2 (fun s' wk w' => Dst w w' s' p1 ∧ (∀ w2, Ext w w2 → BR w2 wk was) ∧ ∃ k', Var w' bS (y.s.c k') Ty.api_Service) (fun q hq => ⟨_, hv33.rd (Sv.c_length _ _), (ref39_find (hX.ext hD33.ext) (by omega) _ _).use ?_⟩) ?_
     · rintro _ w36 ⟨rfl, hx36⟩
       have hof := ofSB_map X y.s
       rw [← hA] at hof
       have hD36 := hD33.mono hx36
       have hv36 := hv33.ext hx36
       refine ⟨_, rfl, fun hpos => ?_, fun hneg => ?_⟩
       · have hpos := of_decide_eq_true hpos
         rcases idxG_cases (fun x : SM => decide (y.s = x.s)) X with ⟨k, hk, he, hff⟩ | ⟨he, hff⟩
         · rw [he]
           obtain ⟨R, hR, hbdR, hrdR⟩ := (hX.ext hD36.ext).get hk
           rw [hff] at hof
           refine ⟨R, hR, hbdR, _, (rowS hrdR).2, hq _ _ _ ⟨?_, fun w2 hx2 => ?_, _, hv36⟩⟩
           · rw [hp1, hof]
             simpa using hD36
           · have : was = (X[k]).bs := by rw [hwas]; unfold wasB; rw [hof]; rfl
             rw [this]
             exact ((hX.ext hx2).bk _ (List.getElem_mem hk)).1
         · rw [he] at hpos; omega
       · have hneg := of_decide_eq_false hneg
         rcases idxG_cases (fun x : SM => decide (y.s = x.s)) X with ⟨k, hk, he, hff⟩ | ⟨he, hff⟩
         · rw [he] at hneg; omega
         · rw [hff] at hof
           have hxk2 : Ext w36 (w36.alloc (.cells #[] Ty.api_Backend)) := Chg.alloc (.refl _ _) _
           have hv42 := hv36.ext hxk2
           refine ⟨⟨some ⟨w36.heap.size, 0, none⟩, 0, 0⟩, _, buildBk0 w36, ⟨_, (scell hv42).2.2.2.2.2.2⟩, by rw [addF]; exact Blk.frozen hv42 _ rfl, ?_⟩
           rw [addF]
           refine nxSet hv42 fun w43 hv43 hc43 _ => ?_
           have ev : (y.s.c y.k).set 22 (.slice (some ⟨w36.heap.size, 0, none⟩) 0 0) = y.s.c ⟨some ⟨w36.heap.size, 0, none⟩, 0, 0⟩ := by
             exact y.s.set22 y.k ⟨some ⟨w36.heap.size, 0, none⟩, 0, 0⟩
           rw [ev] at hv43
           have hX43 : Ext w w43 := by
             refine Ext.of_new (Ext.trans hD36.ext hxk2) hc43 fun q e => ?_
             rw [e, hbS]
             have := hX27.size; have := hxk.size; omega
           have hD43 : Dst w w43 s pre := by
             obtain ⟨O, h1, h2, h3⟩ := hD36
             have h1' := h1.ext hxk2
             refine ⟨O, ⟨h1'.own.chg hc43 fun q hq0 e => ?_, h1'.len, fun i g1 g2 => ?_, fun o ho => ⟨fun e q hq => ⟨Nat.lt_of_lt_of_le ((h1'.ap o ho).1 e q hq).1 hc43.size, ((h1'.ap o ho).1 e q hq).2⟩, fun e q hq => ⟨Nat.lt_of_lt_of_le ((h1'.ap o ho).2 e q hq).1 hc43.size, ((h1'.ap o ho).2 e q hq).2⟩⟩⟩, hX43, h3⟩
             · subst e; exact absurd (h1'.own.notVar hq0 hv42) (by decide)
             · have hh := h1'.is i g1 g2
               have e1 : ((pre.map stpOf)[i]).data = [] := by simp [stpOf]
               have e2 : ((pre.map stpOf)[i]).li = [] := by simp [stpOf]
               refine hh.chg0 hc43 (fun e => absurd ?_ e) (fun e => absurd ?_ e)
               · have := hh.data.len; rw [e1] at this; simp [u8s] at this; omega
               · have := hh.llen; rw [e2] at this; simpa using this
           obtain ⟨s1, w1, s', w2, g1, g2, g3, g4, g5⟩ := hD43.push (o := { oAddS y.s with k := ⟨some ⟨w36.heap.size, 0, none⟩, 0, 0⟩ }) (o0 := oAddS y.s) ⟨rfl, rfl, rfl⟩ rfl (by omega)
           refine ⟨_, hv43.rd (Sv.c_length _ _), _, mkAddSK y.s _ w43, s1, w1, g1, s', w2, g3, hq _ _ _ ⟨?_, fun w3 _ => ?_, _, g5 _ _ _ hv43 (by decide)⟩⟩
           · rw [hp1, hof]
             exact g4
           · have : was = [] := by rw [hwas]; unfold wasB; rw [hof]; rfl
             rw [this]
             exact br_nil _ _
     rintro s50 wk w52 ⟨hD52, hwk, k', hv52⟩
     have hwkl : wk.len = was.length := BR.len (hwk w (.refl _ _))
     obtain ⟨dB, hdB⟩ : ∃ dB : List Bk → List OpM, dB = fun l => (l.filter fun b => (atL y.bs b).isNone).map fun b => oDropB y.s.id b.id := ⟨_, rfl⟩
     have hdBl : ∀ l, (dB l).length ≤ l.length := fun l => by rw [hdB]; simp only [List.length_map]; exact List.length_filter_le _ _
     refine ⟨fun s n w' => ∃ j : Nat, n = j ∧ j ≤ was.length ∧ Dst w w' s (p1 ++ dB (was.take j)) ∧ Var w' bS (y.s.c k') Ty.api_Service, fun _ n _ => ((was.length : Int) - n).toNat, ⟨0, rfl, Nat.zero_le _, by rw [hdB]; simpa using hD52, hv52⟩, ?_⟩
     rintro s55 _ w57 ⟨j, rfl, hj, hD57, hv57⟩
     refine ⟨fun hltj => ?_, fun hgej => ?_⟩
     · have hltj : j < was.length := by have := of_decide_eq_true hltj; omega
       have ewj : IntKind.wrap .i64 ((j : Int) + 1) = ((j + 1 : Nat) : Int) := by rw [wrapi (by omega) (by omega)]; rfl
       have hmsj : ((was.length : Int) - ((j + 1 : Nat) : Int)).toNat < ((was.length : Int) - (j : Int)).toNat := by omega
       have hdl := hdBl (was.take j)
       rw [List.length_take] at hdl
       have htkj : was.take (j + 1) = was.take j ++ [was[j]] := List.take_succ_eq_append_getElem hltj
       refine Jn1 (fun s' w' => Dst w w' s' (p1 ++ dB (was.take (j + 1))) ∧ Var w' bS (y.s.c k') Ty.api_Service) (fun q hq => nx ?_) (fun s' w' h => by rw [ewj]; exact ⟨⟨j + 1, rfl, hltj, h.1, h.2⟩, hmsj⟩)
       have hd : Ext w57 w57.drew := Chg.drew (.refl _ _)
       have hD59 := hD57.mono hd
       obtain ⟨R, hR, hbdR, hrdR⟩ := BR.get (hwk _ hD59.ext) hltj
       refine ⟨P, hP, hbd, id, y.k, row hD59.ext, R, hR, hbdR, id, _, hrdR, (ref39_at (hyk hD59.ext) (by omega) _).use ?_⟩
       rintro _ w64 ⟨rfl, hx64⟩
       have hD64 := hD59.mono hx64
       have hv64 := (hv57.ext hd).ext hx64
       refine ⟨_, rfl, fun hneg => nx ?_, fun hpos => ?_⟩
       · have hneg := of_decide_eq_true hneg
         have hd2 : Ext w64 w64.drew := Chg.drew (.refl _ _)
         have hD67 := hD64.mono hd2
         have hv67 := hv64.ext hd2
         obtain ⟨R2, hR2, _, hrdR2⟩ := BR.get (hwk _ hD67.ext) hltj
         obtain rfl : R = R2 := by rw [hR] at hR2; exact Option.some.inj hR2
         have hat : atL y.bs was[j] = none := by
           rcases idxG_cases (fun c => sameAt c was[j]) y.bs with ⟨k, hk, he, hff⟩ | ⟨he, hff⟩
           · rw [he] at hneg; omega
           · exact hff
         obtain ⟨s1, w1, s', w2, g1, g2, g3, g4, g5⟩ := hD67.push (o := oDropB y.s.id (was[j]).id) ⟨rfl, rfl, rfl⟩ rfl (by rw [List.length_append]; omega)
         refine ⟨fun _ => False, id, _, (scell hv67).1, R, hR, hbdR, id, _, (bkrow hrdR2).1, _, fun w73 => mkDropB w73 _ _, s1, w1, g1, g2, s', w2, g3, hq _ _ ⟨?_, g5 _ _ _ hv67 (by decide)⟩⟩
         have e1 : dB (was.take (j + 1)) = dB (was.take j) ++ [oDropB y.s.id (was[j]).id] := by
           rw [htkj, hdB]
           simp only [List.filter_append, List.map_append]
           rw [List.filter_cons_of_pos (by rw [hat]; rfl), List.filter_nil]; rfl
         rw [e1, ← List.append_assoc]; exact g4
       · have hpos := of_decide_eq_false hpos
         have hat : (atL y.bs was[j]).isNone = false := by
           rcases idxG_cases (fun c => sameAt c was[j]) y.bs with ⟨k, hk, he, hff⟩ | ⟨he, hff⟩
           · show (y.bs.find? _).isNone = false
             rw [hff]; rfl
           · rw [he] at hpos; omega
         have e1 : dB (was.take (j + 1)) = dB (was.take j) := by
           rw [htkj, hdB]
           simp only [List.filter_append, List.map_append]
           rw [List.filter_cons_of_neg (by rw [hat]; simp), List.filter_nil]; simp
         refine hq _ _ ⟨?_, hv64⟩
         rw [e1]; exact hD64
     · have hj' : j = was.length := by have := of_decide_eq_false hgej; omega
       rw [hj', List.take_length] at hD57
       have hdl := hdBl was
       obtain ⟨p2, hp2⟩ : ∃ p2, p2 = p1 ++ dB was := ⟨_, rfl⟩
       rw [← hp2] at hD57
       have hp2l : p2.length ≤ 500401 := by rw [hp2, List.length_append]; omega
       have hbo : ∀ l : List Bk, l.length ≤ 100 → (l.flatMap (bkOps was y.s.id)).length ≤ 300 := fun l hl => by
         have := flatMap_len (bkOps was y.s.id) 3 l (fun x _ => bkOps_len _ _ _)
         omega
       refine ⟨fun s n w' => ∃ j : Nat, n = j ∧ j ≤ y.bs.length ∧ Dst w w' s (p2 ++ (y.bs.take j).flatMap (bkOps was y.s.id)) ∧ Var w' bS (y.s.c k') Ty.api_Service, fun _ n _ => ((y.bs.length : Int) - n).toNat, ⟨0, rfl, Nat.zero_le _, by simpa using hD57, hv57⟩, ?_⟩
       rintro s82 _ w84 ⟨j, rfl, hj, hD84, hv84⟩
       refine ⟨P, hP, hbd, y.k, row hD84.ext, fun hltj => ?_, fun hgej => ?_⟩
       · have hltj : j < y.bs.length := by have := of_decide_eq_true hltj; omega
         have ewj : IntKind.wrap .i64 ((j : Int) + 1) = ((j + 1 : Nat) : Int) := by rw [wrapi (by omega) (by omega)]; rfl
         have hmsj : ((y.bs.length : Int) - ((j + 1 : Nat) : Int)).toNat < ((y.bs.length : Int) - (j : Int)).toNat := by omega
         obtain ⟨x, hx⟩ : ∃ x, x = y.bs[j] := ⟨_, rfl⟩
         have htkj : y.bs.take (j + 1) = y.bs.take j ++ [x] := by rw [List.take_succ_eq_append_getElem hltj, hx]
         obtain ⟨p3, hp3⟩ : ∃ p3, p3 = p2 ++ (y.bs.take j).flatMap (bkOps was y.s.id) := ⟨_, rfl⟩
         have hp3l : p3.length ≤ 500701 := by rw [hp3, List.length_append]; have := hbo (y.bs.take j) (by rw [List.length_take]; omega); omega
         rw [← hp3] at hD84
         refine Jn1 (fun s' w' => Dst w w' s' (p3 ++ bkOps was y.s.id x) ∧ Var w' bS (y.s.c k') Ty.api_Service) (fun q hq => ?_) (fun s' w' h => by
           rw [ewj]
           refine ⟨⟨j + 1, rfl, hltj, ?_, h.2⟩, hmsj⟩
           have h1 := h.1
           rw [htkj, List.flatMap_append, List.flatMap_cons, List.flatMap_nil, List.append_nil, ← List.append_assoc, ← hp3]
           exact h1)
         obtain ⟨R, hR, hbdR, hrdR⟩ := BR.get (hyk hD84.ext) hltj
         rw [← hx] at hrdR
         refine ⟨P, hP, hbd, y.k, row hD84.ext, R, hR, hbdR, _, hrdR, nxVar (vs := Bk.zero.c) (by kernel_rfl) fun w92 hz92 hx92 _ => ⟨hz92.storeOk (by simp [Bk.c_length]) (by simpa using Bk.plain _), by simp [Bk.c_length], nxPut hz92 (us := x.c) (by simp [Bk.c_length]) (by simp) fun w93 hv93 hc93 _ => ?_⟩⟩
         have hx93 : Ext w84 w93 := Ext.of_chg hx92 hc93 (Nat.le_refl _)
         obtain ⟨bX, hbX⟩ : ∃ bX, bX = w84.heap.size := ⟨_, rfl⟩
         rw [← hbX] at hv93 ⊢
         refine ⟨_, hv93.rd (Bk.c_length _), nxVar (vs := Bk.zero.c) (by kernel_rfl) fun w95 hz95 hx95 _ => ⟨hz95.storeOk (by simp [Bk.c_length]) (by simpa using Bk.plain _), by simp [Bk.c_length], nxPut hz95 (us := x.c) (by simp [Bk.c_length]) (by simp) fun w96 hv96 hc96 _ => ?_⟩⟩
         have hx96 : Ext w93 w96 := Ext.of_chg hx95 hc96 (Nat.le_refl _)
         obtain ⟨bO, hbO⟩ : ∃ bO, bO = w93.heap.size := ⟨_, rfl⟩
         rw [← hbO] at hv96 ⊢
         have c20 : w96.cell? ⟨bO, 20, none⟩ = some (.bool x.drained) := by rw [hv96.cell]; simp [Bk.c, Ad.c_length]
         refine ⟨⟨_, by rw [addF]; exact c20⟩, by rw [addF]; exact Blk.frozen hv96 _ rfl, ?_⟩
         rw [addF]
         refine nxSet hv96 fun w97 hv97 hc97 _ => ?_
         rw [Bk.setD] at hv97
         have hx97 : Ext w93 w97 := Ext.of_chg hx96 hc97 (by omega)
         have hX97 : Ext w84 w97 := Ext.trans hx93 hx97
         have hD97 := hD84.mono hX97
         have hx97v := hv93.ext hx97
         have hv97s := hv84.ext hX97
         obtain ⟨o0, ho0⟩ : ∃ o0, o0 = (atL was x).getD (undr x) := ⟨_, rfl⟩
         obtain ⟨p4, hp4⟩ : ∃ p4, p4 = p3 ++ (if (atL was x).isSome then [] else [oAddB y.s.id (undr x)]) := ⟨_, rfl⟩
         have hp4l : p4.length ≤ 500702 := by rw [hp4, List.length_append]; have : (if (atL was x).isSome then [] else [oAddB y.s.id (undr x)] : List OpM).length ≤ 1 := by split <;> simp
                                              omega
         refine Jn1 (fun s' w' => Dst w w' s' p4 ∧ Var w' bS (y.s.c k') Ty.api_Service ∧ Var w' bX x.c Ty.api_Backend ∧ Var w' bO o0.c Ty.api_Backend) (fun q2 hq2 => ⟨_, hx97v.rd (Bk.c_length _), (ref39_at (hwk _ hD97.ext) (by omega) _).use ?_⟩) ?_
         · rintro _ w100 ⟨rfl, hx100⟩
           have hD100 := hD97.mono hx100
           have hS100 := hv97s.ext hx100; have hX100 := hx97v.ext hx100; have hO100 := hv97.ext hx100
           have hbXO : bX ≠ bO := by have := hv93.lt; omega
           refine ⟨_, rfl, fun hpos => ?_, fun hneg => ?_⟩
           · have hpos := of_decide_eq_true hpos
             rcases idxG_cases (fun c => sameAt c x) was with ⟨k, hk, he, hff⟩ | ⟨he, hff⟩
             · rw [he]
               obtain ⟨R2, hR2, hbdR2, hrdR2⟩ := BR.get (hwk _ hD100.ext) hk
               have hat : atL was x = some was[k] := hff
               have hbSO : bS ≠ bO := fun e => by subst e; exact absurd (Blk.inj hS100 hO100).2 (by decide)
               refine ⟨R2, hR2, hbdR2, _, hrdR2, hO100.storeOk (by simp [Bk.c_length]) (by simpa using Bk.plain _), by simp [Bk.c_length], nxPut hO100 (us := (was[k]).c) (by simp [Bk.c_length]) (by simp) fun w105 hO105 hc105 _ => hq2 _ _ ⟨?_, hS100.chg hc105 (fun e => hbSO e), hX100.chg hc105 (fun e => hbXO e), ?_⟩⟩
               · rw [hp4, hat]
                 have hx105 : Ext w97 w100 := hx100
                 -- the variable that is laid anew is newer than all
                 obtain ⟨O, h1, h2, h3⟩ := hD84
                 have hx84 : Ext w84 w105 := Ext.of_new (Ext.trans hX97 hx100) hc105 fun q e => by rw [e]; have := hx93.size; omega
                 exact ⟨O, by simpa using h1.ext hx84, Ext.trans h2 hx84, h3⟩
               · rw [ho0, hat]; exact hO105
             · rw [he] at hpos; omega
           · have hneg := of_decide_eq_false hneg
             rcases idxG_cases (fun c => sameAt c x) was with ⟨k, hk, he, hff⟩ | ⟨he, hff⟩
             · rw [he] at hneg; omega
             · have hat : atL was x = none := hff
               obtain ⟨s1, w1, s', w2, g1, g2, g3, g4, g5⟩ := hD100.push (o := oAddB y.s.id (undr x)) ⟨rfl, rfl, rfl⟩ rfl (by omega)
               refine ⟨_, (scell hS100).1, _, hO100.rd (Bk.c_length _), _, mkAddB w100 y.s.id (undr x), s1, w1, g1, s', w2, g3, hq2 _ _ ⟨?_, g5 _ _ _ hS100 (by decide), g5 _ _ _ hX100 (by decide), ?_⟩⟩
               · rw [hp4, hat]; exact g4
               · rw [ho0, hat]; exact g5 _ _ _ hO100 (by decide)
         rintro s113 w114 ⟨hD114, hS114, hX114, hO114⟩
         obtain ⟨p5, hp5⟩ : ∃ p5, p5 = p4 ++ (if o0.weight != x.weight then [oWeigh y.s.id x.id (u64w x.weight)] else []) := ⟨_, rfl⟩
         have hp5l : p5.length ≤ 500703 := by rw [hp5, List.length_append]; have : (if o0.weight != x.weight then [oWeigh y.s.id x.id (u64w x.weight)] else [] : List OpM).length ≤ 1 := by split <;> simp
                                              omega
         have bw : ∀ {w' : World} {b : Nat} {z : Bk}, Var w' b z.c Ty.api_Backend → w'.cell? (Addr.add ⟨b, 0, none⟩ 19) = some (.int .i64 z.weight) ∧ w'.cell? (Addr.add ⟨b, 0, none⟩ 20) = some (.bool z.drained) := fun h => by
           rw [addF, addF, h.cell, h.cell]; simp [Bk.c, Ad.c_length]
         refine Jn1 (fun s' w' => Dst w w' s' p5 ∧ Var w' bS (y.s.c k') Ty.api_Service ∧ Var w' bX x.c Ty.api_Backend ∧ Var w' bO o0.c Ty.api_Backend) (fun q2 hq2 => ⟨_, (bw hO114).1, _, (bw hX114).1, fun hne => ?_, fun he => ?_⟩) ?_
         · obtain ⟨s1, w1, s', w2, g1, g2, g3, g4, g5⟩ := hD114.push (o := oWeigh y.s.id x.id (u64w x.weight)) ⟨rfl, rfl, rfl⟩ rfl (by omega)
           refine ⟨_, (scell hS114).1, _, (bcell hX114).1, _, (bw hX114).1, _, mkWeigh w114 _ _ _, s1, w1, g1, s', w2, g3, hq2 _ _ ⟨?_, g5 _ _ _ hS114 (by decide), g5 _ _ _ hX114 (by decide), g5 _ _ _ hO114 (by decide)⟩⟩
           rw [hp5, hne]; exact g4
         · refine hq2 _ _ ⟨?_, hS114, hX114, hO114⟩
           rw [hp5, he]; simpa using hD114
         rintro s126 w127 ⟨hD127, hS127, hX127, hO127⟩
         have hall : p3 ++ bkOps was y.s.id x = p5 ++ (if !(o0.drained == x.drained) then [oDrain y.s.id x.id x.drained] else []) := by
           rw [hp5, hp4, ho0]; unfold bkOps; simp only [List.append_assoc]
         rw [hall] at hq
         refine ⟨_, (bw hO127).2, _, (bw hX127).2, fun hne => ?_, fun he => ?_⟩
         · obtain ⟨s1, w1, s', w2, g1, g2, g3, g4, g5⟩ := hD127.push (o := oDrain y.s.id x.id x.drained) ⟨rfl, rfl, rfl⟩ rfl (by omega)
           refine ⟨_, (scell hS127).1, _, (bcell hX127).1, _, (bw hX127).2, _, mkDrain w127 _ _ _, s1, w1, g1, s', w2, g3, hq _ _ ⟨?_, g5 _ _ _ hS127 (by decide)⟩⟩
           rw [hne]; exact g4
         · refine hq _ _ ⟨?_, hS127⟩
           rw [he]; simpa using hD127
       · have hj' : j = y.bs.length := by have := of_decide_eq_false hgej; omega
         rw [hj', List.take_length] at hD84
         rw [ew]
         refine ⟨⟨i + 1, rfl, hlt, ?_⟩, hms⟩
         rw [htkB, List.flatMap_append, List.flatMap_cons, List.flatMap_nil, List.append_nil, ← List.append_assoc, ← hpre]
         have e1 : pre ++ f y.ab = p2 ++ y.bs.flatMap (bkOps was y.s.id) := by
           rw [hp2, hp1, hf, hdB, hwas]
           show pre ++ svOps (wasB A y.s) (ofSB A y.s).isSome (y.s, y.bs) = _
           unfold svOps
           simp only [List.append_assoc]
         rw [e1]; exact hD84
   · have hi2 : i = Y.length := by have := of_decide_eq_false hge; omega
     have htkB : B.take i = B := by rw [hi2, hB]; exact List.take_of_length_le (by simp)
     rw [htkB] at hD
     exact ⟨s, rfl, hD⟩
end Go.Proofs.YtgljoledlhmhnaaGreatDoor
namespace Go.Proofs.YtgljoledlhmhnaaGreatDoor
open Go Gx
variable {w w' w0 : World}
theorem GoodSB.snoc {P : List SB} {x : SB} (h : GoodSB P) (h1 : mayS x.1 nilS = true) (h2 : ∀ y ∈ P, y.1.id < x.1.id) (h3 : ∀ y ∈ P, y.1.door ≠ x.1.door) (h4 : P.length < 8) (h5 : Rise x.2) (h6 : x.2.length ≤ 16)
   (h7 : ∀ b ∈ x.2, canB x.1 (undr b) = true) : GoodSB (P ++ [x]) := by
 have one : ∀ {p : SB → Prop}, (∀ y ∈ P, p y) → p x → ∀ y ∈ P ++ [x], p y := fun a b y hy => by
   rcases List.mem_append.1 hy with hy | hy
   · exact a y hy
   · rw [List.mem_singleton.1 hy]; exact b
 refine ⟨List.pairwise_append.2 ⟨h.ids, by simp, fun a ha b hb => ?_⟩, one h.may h1, List.pairwise_append.2 ⟨h.doors, by simp, fun a ha b hb => ?_⟩, by simp; omega, one h.rise h5, one h.few h6, one h.can h7⟩
 · rw [List.mem_singleton.1 hb]; exact h2 a ha
 · rw [List.mem_singleton.1 hb]; exact h3 a ha
theorem rowS2 {A : Addr} {x : SM} (h : rdCells w A 0 23 = some (x.s.c x.k)) : rdCells w (A.add 1) 0 17 = some x.s.addr.c ∧ w.cell? (A.add 18) = some (.int .u16 x.s.port) ∧ w.cell? (A.add 19) = some (.int .u8 x.s.proto) := by
 refine ⟨?_, ?_, ?_⟩
 · rw [rdPart h (k := 1) (m := 17) (by omega)]
   show some ((x.s.addr.c ++ _).take 17) = _
   rw [List.take_append_of_le_length (by rw [Ad.c_length]; decide), List.take_of_length_le (by rw [Ad.c_length]; decide)]
 · have := rdGet (i := 0) h (j := 18) (v := .int .u16 x.s.port) (by simp [Sv.c, Ad.c_length])
   rwa [Nat.zero_add] at this
 · have := rdGet (i := 0) h (j := 19) (v := .int .u8 x.s.proto) (by simp [Sv.c, Ad.c_length])
   rwa [Nat.zero_add] at this
theorem mayS_len {s : Sv} {k k' : Sl} (h : k.len = k'.len) : mayS s k = mayS s k' := by unfold mayS; rw [h]
set_option maxHeartbeats 1000000 in
theorem ref39_Good {t : Sl} {X : List SM} (hX : SvIn w t X) (hp : ∀ x ∈ X, ∀ b ∈ x.bs, 0 ≤ b.port) : Ret Tryz.prog F.ref39_Good #[.slice t.a t.len t.cap] w (fun v w' => v = .bool (goodL (X.map SM.ab)) ∧ Ext w w') := by
 refine W.ref39_Good_ok t w _ ?_
 (delta W.ref39_Good Br ix al z1 st nA c9 T1 bd r7 r4 wI r1 z5 r3; dsimp only)
 have hl := hX.len
 obtain ⟨A, hA⟩ : ∃ A, A = X.map SM.ab := ⟨_, rfl⟩
 have hAl : A.length = X.length := by rw [hA, List.length_map]
 rw [← hA]
 have no : ¬ GoodSB A → Value.bool false = .bool (goodL A) := fun h => by
   cases e : goodL A with
   | false => rfl
   | true => exact absurd (goodL_good e) h
 refine ⟨fun hgt => ⟨no fun g => ?_, .refl _ _⟩, fun hle => ?_⟩
 · have := of_decide_eq_true hgt; have := g.len; omega
 have hle := of_decide_eq_false hle
 refine ⟨fun n w' => ∃ i : Nat, n = i ∧ i ≤ X.length ∧ Ext w w' ∧ GoodSB (A.take i), fun n _ => ((X.length : Int) - n).toNat, ⟨0, rfl, Nat.zero_le _, .refl _ _, ⟨by simp, by simp, by simp, by simp, by simp, by simp, by simp⟩⟩, ?_⟩
 rintro _ w4 ⟨i, rfl, hi, hx4, hG⟩
 refine ⟨fun hlt => ?_, fun hge => ⟨?_, hx4⟩⟩
 rotate_left
 · have hi2 : i = A.length := by have := of_decide_eq_false hge; omega
   rw [hi2, List.take_length] at hG
   rw [good_goodL hG]
 have hlt : i < X.length := by have := of_decide_eq_true hlt; omega
 have ew : IntKind.wrap .i64 ((i : Int) + 1) = ((i + 1 : Nat) : Int) := by rw [wrapi (by omega) (by omega)]; rfl
 have hms : ((X.length : Int) - ((i + 1 : Nat) : Int)).toNat < ((X.length : Int) - (i : Int)).toNat := by omega
 obtain ⟨P, hP, hbd, hrd⟩ := (hX.ext hx4).get hlt
 obtain ⟨x, hx⟩ : ∃ x, x = X[i] := ⟨_, rfl⟩
 have hxm : x ∈ X := by rw [hx]; exact List.getElem_mem hlt
 have hAi : A[i]'(by omega) = x.ab := by simp [hA, hx]
 have hxA : x.ab ∈ A := by rw [← hAi]; exact List.getElem_mem _
 have htk : A.take (i + 1) = A.take i ++ [x.ab] := by rw [List.take_succ_eq_append_getElem (by omega), hAi]
 have row : ∀ {j : Nat} (hj : j < X.length) {w' : World}, Ext w w' → rdCells w' (P.add (Int.toNat (j : Int) * 23)) 0 23 = some ((X[j]).s.c (X[j]).k) := fun {j} hj {w'} hx => by
   obtain ⟨P2, hP2, _, hr⟩ := (hX.ext hx).get hj
   obtain rfl : P = P2 := by rw [hP] at hP2; exact Option.some.inj hP2
   exact hr
 rw [← hx] at hrd
 refine ⟨P, hP, hbd, _, hrd, nxVar (vs := Sv.zero.c nilS) (by kernel_rfl) fun w7 hz7 hx7 _ => ⟨hz7.storeOk (by simp [Sv.c_length]) (by simpa using Sv.plain _ _), by simp [Sv.c_length], nxPut hz7 (us := x.s.c x.k) (by simp [Sv.c_length]) (by simp) fun w8 hv8 hc8 _ => ?_⟩⟩
 have hx8 : Ext w4 w8 := Ext.of_chg hx7 hc8 (Nat.le_refl _)
 have hbx : Ext w8 (w8.alloc (.cells #[] Ty.api_Backend)) := Chg.alloc (.refl _ _) _
 have hv10 := hv8.ext hbx
 obtain ⟨k0, hk0⟩ : ∃ k0 : Sl, k0 = ⟨some ⟨w8.heap.size, 0, none⟩, 0, 0⟩ := ⟨_, rfl⟩
 obtain ⟨bS, hbS⟩ : ∃ bS, bS = w4.heap.size := ⟨_, rfl⟩
 rw [← hbS] at hv10 ⊢
 refine ⟨⟨some ⟨w8.heap.size, 0, none⟩, 0, 0⟩, _, buildBk0 w8, ⟨_, (scell hv10).2.2.2.2.2.2⟩, by rw [addF]; exact Blk.frozen hv10 _ rfl, ?_⟩
 rw [addF]
 refine nxSet hv10 fun w11 hv11 hc11 _ => nx ?_
 rw [← hk0, Sv.set22 x.s x.k k0] at hv11
 have hx11 : Ext w4 w11 := Ext.of_new (Ext.trans hx8 hbx) hc11 fun q e => by rw [e, hbS]; exact Nat.le_refl _
 have hx12 : Ext w11 w11.drew := Chg.drew (.refl _ _)
 have hX12 : Ext w w11.drew := Ext.trans hx4 (Ext.trans hx11 hx12)
 have hv12 := hv11.ext hx12
 refine ⟨fun _ => False, id, _, hv12.rd (Sv.c_length _ _), (ref20_May x.s k0 w11.drew).use ?_⟩
 rintro _ w15 ⟨rfl, hx15⟩
 have hX15 := Ext.trans hX12 hx15
 have hv15 := hv12.ext hx15
 have hmk : mayS x.s k0 = mayS x.s nilS := mayS_len (by rw [hk0])
 rw [hmk]
 refine ⟨_, rfl, fun _ => False, fun hm => ⟨fun _ => ⟨no fun g => ?_, hX15⟩, fun h => (by cases h)⟩, fun hm => ?_⟩
 · have := g.may _ hxA
   have h2 : (!mayS x.ab.1 nilS) = true := hm
   rw [this] at h2; cases h2
 have hm : mayS x.s nilS = true := by simpa using hm
 refine (fun (key : (∀ y ∈ A.take i, y.1.id < x.s.id) → _) => ⟨fun hpos => ?_, fun hzero => key fun y hy => ?_⟩) ?_
 rotate_left
 · have hpos : i > 0 := by have := of_decide_eq_true hpos; omega
   have hi1 : i - 1 < X.length := by omega
   have ew1 : IntKind.wrap .i64 ((i : Int) - 1) = ((i - 1 : Nat) : Int) := by rw [wrapi (by omega) (by omega)]; omega
   have h1 := (rowS (row hi1 hX15)).1
   have h2 := (rowS (by have := row hlt hX15; rwa [← hx] at this)).1
   rw [ew1]
   refine ⟨P, hP, ⟨by omega, by omega⟩, id, _, h1, P, hP, hbd, id, _, h2, fun hge => ⟨fun _ => ⟨no fun g => ?_, hX15⟩, fun h => (by cases h)⟩, fun hlt2 => key fun y hy => ?_⟩
   · have hge := of_decide_eq_true hge
     have := List.pairwise_iff_getElem.1 g.ids (i - 1) i (by omega) (by omega) (by omega)
     rw [hAi] at this
     have e1 : A[i - 1]'(by omega) = (X[i - 1]).ab := by simp [hA]
     rw [e1] at this
     have : (X[i - 1]).s.id < x.s.id := this
     omega
   · have hlt2 := of_decide_eq_false hlt2
     obtain ⟨j, hj, rfl⟩ := List.mem_take_iff_getElem.1 hy
     have e1 : A[i - 1]'(by omega) = (X[i - 1]).ab := by simp [hA]
     rcases Nat.lt_or_ge j (i - 1) with h3 | h3
     · have := List.pairwise_iff_getElem.1 hG.ids j (i - 1) (by simp; omega) (by simp; omega) h3
       simp only [List.getElem_take] at this
       rw [e1] at this
       have h4 : (X[i - 1]).ab.1.id = (X[i - 1]).s.id := rfl
       omega
     · have : j = i - 1 := by omega
       subst this
       rw [e1]
       show (X[i - 1]).s.id < x.s.id
       omega
 · have : i = 0 := by have := of_decide_eq_false hzero; omega
   subst this; simp at hy
 intro hlast
 have rowx : ∀ {w' : World}, Ext w w' → w'.cell? ((P.add (Int.toNat (i : Int) * 23)).add 22) = some (.slice x.k.a x.k.len x.k.cap) := fun hx2 => (rowS (by have := row hlt hx2; rwa [← hx] at this)).2
 have hkb := (hX.bk x hxm).1
 have hkl := BR.len hkb
 refine ⟨P, hP, hbd, x.k, rowx hX15, fun h16 => ⟨no fun g => ?_, hX15⟩, fun h16 => ⟨fun n w' => ∃ j : Nat, n = j ∧ j ≤ i ∧ Ext w15 w' ∧ ∀ y ∈ A.take j, y.1.door ≠ x.s.door, fun n _ => ((i : Int) - n).toNat, ⟨0, rfl, Nat.zero_le _, .refl _ _, by simp⟩, ?_⟩⟩
 · have := g.few _ hxA
   have h16 := of_decide_eq_true h16
   have e : x.ab.2.length = x.bs.length := rfl
   omega
 have h16 := of_decide_eq_false h16
 rintro _ w17 ⟨j, rfl, hj, hx17, hdoor⟩
 refine ⟨fun hltj => nx ?_, fun hgej => ?_⟩
 · have hltj : j < i := by have := of_decide_eq_true hltj; omega
   have hjX : j < X.length := by omega
   have ewj : IntKind.wrap .i64 ((j : Int) + 1) = ((j + 1 : Nat) : Int) := by rw [wrapi (by omega) (by omega)]; rfl
   have hmsj : ((i : Int) - ((j + 1 : Nat) : Int)).toNat < ((i : Int) - (j : Int)).toNat := by omega
   have hd : Ext w17 w17.drew := Chg.drew (.refl _ _)
   have hx18 := Ext.trans hx17 hd
   have hX18 := Ext.trans hX15 hx18
   have hv18 := hv15.ext hx18
   obtain ⟨r1, r2, r3⟩ := rowS2 (row hjX hX18)
   have hAj : A[j]'(by omega) = (X[j]).ab := by simp [hA]
   have htj : A.take (j + 1) = A.take j ++ [(X[j]).ab] := by rw [List.take_succ_eq_append_getElem (by omega), hAj]
   have nxt : (X[j]).s.door ≠ x.s.door → (∃ j_1 : Nat, ((j + 1 : Nat) : Int) = j_1 ∧ j_1 ≤ i ∧ Ext w15 w17.drew ∧ ∀ y ∈ A.take j_1, y.1.door ≠ x.s.door) := fun h => ⟨j + 1, rfl, hltj, hx18, fun y hy => by
     rw [htj] at hy
     rcases List.mem_append.1 hy with hy | hy
     · exact hdoor y hy
     · rw [List.mem_singleton.1 hy]; exact h⟩
   have hbdj : (0 : Int) ≤ (j : Int) ∧ (j : Int) < ((t.len : Nat) : Int) := ⟨by omega, by omega⟩
   rw [ewj]
   refine ⟨P, hP, hbdj, id, _, r1, id, _, srd hv18, _, eqAd _ _, fun e1 => ⟨P, hP, hbdj, id, _, r2, id, _, (scell hv18).2.2.1, fun e2 => ⟨P, hP, hbdj, id, _, r3, id, _, (scell hv18).2.2.2.1, fun e3 => ⟨no fun g => ?_, hX18⟩, fun e3 => ⟨nxt fun e => ?_, hmsj⟩⟩, fun e2 => ⟨fun h => (by cases h), fun _ => ⟨nxt fun e => ?_, hmsj⟩⟩⟩, fun e1 => ⟨fun h => (by cases h), fun _ => ⟨nxt fun e => ?_, hmsj⟩⟩⟩
   · have := List.pairwise_iff_getElem.1 g.doors j i (by omega) (by omega) hltj
     rw [hAi, hAj] at this
     refine this ?_
     show (X[j]).s.door = x.s.door
     unfold Sv.door
     rw [of_decide_eq_true e1, eq_of_beq e2, eq_of_beq e3]
   · exact absurd (congrArg Dr.proto e) (by simpa [Sv.door] using e3)
   · exact absurd (congrArg Dr.port e) (by simpa [Sv.door] using e2)
   · exact absurd (congrArg Dr.addr e) (of_decide_eq_false e1)
 have hj' : j = i := by have := of_decide_eq_false hgej; omega
 rw [hj'] at hdoor
 have hX17 := Ext.trans hX15 hx17
 have hv17 := hv15.ext hx17
 refine ⟨fun n w' => ∃ c : Nat, n = c ∧ c ≤ x.bs.length ∧ Ext w17 w' ∧ Rise (x.bs.take c) ∧ ∀ b ∈ x.bs.take c, canB x.s (undr b) = true, fun n _ => ((x.bs.length : Int) - n).toNat, ⟨0, rfl, Nat.zero_le _, .refl _ _, by simp [Rise], by simp⟩, ?_⟩
 rintro _ w37 ⟨c, rfl, hc, hx37, hR, hcan⟩
 have hX37 := Ext.trans hX17 hx37
 refine ⟨P, hP, hbd, x.k, rowx hX37, fun hltc => ?_, fun hgec => ?_⟩
 rotate_left
 · have hc' : c = x.bs.length := by have := of_decide_eq_false hgec; omega
   rw [hc', List.take_length] at hR hcan
   rw [ew]
   refine ⟨⟨i + 1, rfl, hlt, hX37, ?_⟩, hms⟩
   rw [htk]
   exact hG.snoc hm hlast hdoor (by rw [List.length_take]; omega) hR (by show x.bs.length ≤ 16; omega) hcan
 have hltc : c < x.bs.length := by have := of_decide_eq_true hltc; omega
 have ewc : IntKind.wrap .i64 ((c : Int) + 1) = ((c + 1 : Nat) : Int) := by rw [wrapi (by omega) (by omega)]; rfl
 have hmsc : ((x.bs.length : Int) - ((c + 1 : Nat) : Int)).toNat < ((x.bs.length : Int) - (c : Int)).toNat := by omega
 obtain ⟨R, hR0, hbdR, hrdR⟩ := BR.get (hkb.ext hX37) hltc
 obtain ⟨b, hb⟩ : ∃ b, b = x.bs[c] := ⟨_, rfl⟩
 have hbm : b ∈ x.bs := by rw [hb]; exact List.getElem_mem hltc
 have htc : x.bs.take (c + 1) = x.bs.take c ++ [b] := by rw [List.take_succ_eq_append_getElem hltc, hb]
 rw [← hb] at hrdR
 refine ⟨P, hP, hbd, x.k, rowx hX37, R, hR0, hbdR, _, hrdR, nxVar (vs := Bk.zero.c) (by kernel_rfl) fun w44 hz44 hx44 _ => ⟨hz44.storeOk (by simp [Bk.c_length]) (by simpa using Bk.plain _), by simp [Bk.c_length], nxPut hz44 (us := b.c) (by simp [Bk.c_length]) (by simp) fun w45 hv45 hc45 _ => ?_⟩⟩
 have hx45 : Ext w37 w45 := Ext.of_chg hx44 hc45 (Nat.le_refl _)
 obtain ⟨bB, hbB⟩ : ∃ bB, bB = w37.heap.size := ⟨_, rfl⟩
 rw [← hbB] at hv45 ⊢
 refine ⟨⟨_, (bcell hv45).2.2.2.2⟩, by rw [addF]; exact Blk.frozen hv45 _ rfl, ?_⟩
 rw [addF]
 refine nxSet hv45 fun w46 hv46 hc46 _ => nx ?_
 rw [Bk.setD] at hv46
 have hx46 : Ext w37 w46 := Ext.of_new hx45 hc46 fun q e => by rw [e, hbB]; exact Nat.le_refl _
 have hd46 : Ext w46 w46.drew := Chg.drew (.refl _ _)
 have hx47 := Ext.trans hx46 hd46
 have hX47 := Ext.trans hX37 hx47
 have hv47 := hv46.ext hd46
 have hvS := hv17.ext (Ext.trans hx37 hx47)
 refine ⟨fun _ => False, id, _, hvS.rd (Sv.c_length _ _), id, _, hv47.rd (Bk.c_length _), (ref20_Can x.s k0 (undr b) (hp x hxm b hbm) w46.drew).use ?_⟩
 rintro _ w51 ⟨rfl, hx51⟩
 have hX51 := Ext.trans hX47 hx51
 have hx51' := Ext.trans hx37 (Ext.trans hx47 hx51)
 refine ⟨_, rfl, fun _ => False, fun hn => ⟨fun _ => ⟨no fun g => ?_, hX51⟩, fun h => (by cases h)⟩, fun hn => ?_⟩
 · have := g.can _ hxA b hbm
   have h2 : (!canB x.ab.1 (undr b)) = true := hn
   rw [this] at h2; cases h2
 have hn : canB x.s (undr b) = true := by simpa using hn
 have hcan' : ∀ y ∈ x.bs.take (c + 1), canB x.s (undr y) = true := fun y hy => by
   rw [htc] at hy
   rcases List.mem_append.1 hy with hy | hy
   · exact hcan y hy
   · rw [List.mem_singleton.1 hy]; exact hn
 rw [ewc]
 refine ⟨fun hpos => ?_, fun hzero => ⟨fun h => (by cases h), fun _ => ⟨⟨c + 1, rfl, hltc, hx51', ?_, hcan'⟩, hmsc⟩⟩⟩
 · have hpos : c > 0 := by have := of_decide_eq_true hpos; omega
   have ec1 : IntKind.wrap .i64 ((c : Int) - 1) = ((c - 1 : Nat) : Int) := by rw [wrapi (by omega) (by omega)]; omega
   obtain ⟨R2, hR2, hbdR2, hrdR2⟩ := BR.get (hkb.ext hX51) (show c - 1 < x.bs.length by omega)
   rw [ec1]
   refine ⟨P, hP, hbd, id, x.k, rowx hX51, R2, hR2, hbdR2, id, _, (bkrow hrdR2).1, id, _, (bcell (hv47.ext hx51)).1, fun hge => ⟨no fun g => ?_, hX51⟩, fun hlt3 => ⟨⟨c + 1, rfl, hltc, hx51', ?_, hcan'⟩, hmsc⟩⟩
   · have hge : (x.bs[c - 1]).id ≥ b.id := of_decide_eq_true hge
     have := (show Rise x.bs from g.rise _ hxA).lt (i := c - 1) (j := c) (by omega) hltc
     rw [← hb] at this
     omega
   · have hlt3 : ¬ (x.bs[c - 1]).id ≥ b.id := of_decide_eq_false hlt3
     rw [htc]
     refine List.pairwise_append.2 ⟨hR, by simp, fun a ha d hd => ?_⟩
     rw [List.mem_singleton.1 hd]
     obtain ⟨e, he, rfl⟩ := List.mem_take_iff_getElem.1 ha
     rcases Nat.lt_or_ge e (c - 1) with h3 | h3
     · have := List.pairwise_iff_getElem.1 hR e (c - 1) (by simp; omega) (by simp; omega) h3
       simp only [List.getElem_take] at this
       omega
     · have : e = c - 1 := by omega
       subst this; omega
 · have : c = 0 := by have := of_decide_eq_false hzero; omega
   subst this
   rw [htc]
   simp [Rise]
end Go.Proofs.YtgljoledlhmhnaaGreatDoor
namespace Go.Proofs.YtgljoledlhmhnaaGreatDoor
open Go Gx
variable {w w' w0 : World}
theorem kw_le {k : Int} (h1 : 1 ≤ k) (h2 : k ≤ 14) : (kw k).length ≤ 7 ∧ kw k ≠ [] := (kw_no32 _ (kw_mem h1 h2)).2.2
theorem joinB_ne {c : UInt8} {x : List UInt8} (h : x ≠ []) : ∀ r, joinB c (x :: r) ≠ []
 | [] => h
 | y :: r => by rw [joinB]; intro e; exact h (List.append_eq_nil_iff.1 e).1
theorem showO_is {a : Stp} (h : Lined a) (hl : (lineOf a).length ≤ 4200) : showO a ≠ [] := by
 rw [showO_of h hl]
 exact joinB_ne (kw_le h.lo h.hi).2 _
theorem numI21 {n : Int} (h : I64 n) : (numI n).length ≤ 21 := numI_len n h
theorem i64_le {n : Int} (h0 : 0 ≤ n) (h : n ≤ 1000000000000) : I64 n := by unfold I64; omega
structure MayP (s : Sv) : Prop where
 id : 0 ≤ s.id ∧ s.id ≤ 65535
 good : s.addr.good = true
 port : s.port > 0
 proto : s.proto = 6 ∨ s.proto = 17
 bits : 0 ≤ s.bits ∧ s.bits ≤ 128
 lasts : 1 ≤ s.lasts ∧ s.lasts ≤ 1073741824
theorem mayS_of {s : Sv} {k : Sl} (h : mayS s k = true) : MayP s := by
 unfold mayS idOk at h
 simp only [Bool.and_eq_true, Bool.or_eq_true, decide_eq_true_eq, beq_iff_eq] at h
 obtain ⟨⟨⟨⟨⟨⟨⟨⟨h1, h2⟩, h3⟩, h4⟩, h5⟩, h6⟩, h7⟩, h8⟩, _⟩ := h
 exact ⟨h1, h2, h3, h4, ⟨h5, Int.le_trans h6 (by split <;> omega)⟩, h7, h8⟩
theorem canB_of {s : Sv} {b : Bk} (h : canB s b = true) : (0 ≤ b.id ∧ b.id ≤ 65535) ∧ b.addr.good = true ∧ (0 ≤ b.weight ∧ b.weight ≤ 10) := by
 unfold canB idOk weightOk at h
 simp only [Bool.and_eq_true, decide_eq_true_eq] at h
 obtain ⟨⟨⟨⟨⟨h1, h2⟩, _⟩, _⟩, h5⟩, _⟩ := h
 exact ⟨h1, h2, h5⟩
theorem zero_good : Sv.zero.addr.good = true ∧ Bk.zero.addr.good = true := good_z 3
theorem step3 {s : Sv} (hm : MayP s) (hr : s.port ≤ 65535) : Vd (stpOf (oAddS s)) ∧ showO (stpOf (oAddS s)) ≠ [] := by
 have h1 := hm.id; have h2 := hm.port; have h3 := hm.proto; have h4 := hm.bits; have h5 := hm.lasts
 have i0 : I64 0 := i64_le (by omega) (by omega)
 have is : I64 s.id := i64_le (by omega) (by omega)
 have ib : I64 s.bits := i64_le (by omega) (by omega)
 have hv : Vd (stpOf (oAddS s)) := ⟨i0, i0, ⟨by show (0 : Int) ≤ 0; omega, by show (0 : Int) ≤ _; omega⟩, is, ⟨by show 0 ≤ s.port; omega, hr⟩, ⟨by show 0 ≤ s.proto; omega, by show s.proto ≤ 255; omega⟩, ib, ⟨by show 0 ≤ s.lasts; omega, by show s.lasts ≤ _; omega⟩, i0, ⟨by show (0 : Int) ≤ 0; omega, by show (0 : Int) ≤ _; omega⟩, i0, by simp [stpOf]⟩
 refine ⟨hv, showO_is ⟨by show (1 : Int) ≤ 3; omega, by show (3 : Int) ≤ 14; omega, ?_, hm.good, zero_good.2⟩ ?_⟩
 · simp [bare, stpOf, oAddS, opZ, stp0]
 · have e : wordsOf (stpOf (oAddS s)) = [kw 3, numI s.id, showA s.addr, numB 10 s.port.toNat, numB 10 s.proto.toNat, numI s.bits, numB 10 s.lasts.toNat] := by
     simp [wordsOf, argsOf, stpOf, oAddS, opZ]
   unfold lineOf
   rw [e]
   have hj := joinB_length 32 [kw 3, numI s.id, showA s.addr, numB 10 s.port.toNat, numB 10 s.proto.toNat, numI s.bits, numB 10 s.lasts.toNat]
   simp only [sumLen, List.length_cons, List.length_nil] at hj
   have := (kw_le (k := 3) (by omega) (by omega)).1
   have := numI21 is; have := showA_len s.addr; have := numI21 ib
   have := num10_20 (n := s.port.toNat) (by omega); have := num10_20 (n := s.proto.toNat) (by omega); have := num10_20 (n := s.lasts.toNat) (by omega)
   omega
theorem step5 {id : Int} {b : Bk} (hid : 0 ≤ id ∧ id ≤ 65535) (hb : 0 ≤ b.id ∧ b.id ≤ 65535) (hg : b.addr.good = true) (hw : 0 ≤ b.weight ∧ b.weight ≤ 10) (hp : 0 ≤ b.port ∧ b.port ≤ 65535) :
   Vd (stpOf (oAddB id (undr b))) ∧ showO (stpOf (oAddB id (undr b))) ≠ [] := by
 have i0 : I64 0 := i64_le (by omega) (by omega)
 have ii : I64 id := i64_le (by omega) (by omega)
 have ib : I64 b.id := i64_le (by omega) (by omega)
 have iw : I64 b.weight := i64_le (by omega) (by omega)
 have hv : Vd (stpOf (oAddB id (undr b))) := ⟨ii, i0, ⟨by show (0 : Int) ≤ 0; omega, by show (0 : Int) ≤ _; omega⟩, i0, ⟨by show (0 : Int) ≤ 0; omega, by show (0 : Int) ≤ _; omega⟩, ⟨by show (0 : Int) ≤ 0; omega, by show (0 : Int) ≤ _; omega⟩, i0, ⟨by show (0 : Int) ≤ 0; omega, by show (0 : Int) ≤ _; omega⟩, ib, hp, iw, by simp [stpOf]⟩
 refine ⟨hv, showO_is ⟨by show (1 : Int) ≤ 5; omega, by show (5 : Int) ≤ 14; omega, ?_, zero_good.1, hg⟩ ?_⟩
 · simp [bare, stpOf, oAddB, opZ, stp0, undr]
 · have e : wordsOf (stpOf (oAddB id (undr b))) = [kw 5, numI id, numI b.id, showA b.addr, numB 10 b.port.toNat, numI b.weight] := by
     simp [wordsOf, argsOf, stpOf, oAddB, opZ, undr]
   unfold lineOf
   rw [e]
   have hj := joinB_length 32 [kw 5, numI id, numI b.id, showA b.addr, numB 10 b.port.toNat, numI b.weight]
   simp only [sumLen, List.length_cons, List.length_nil] at hj
   have := (kw_le (k := 5) (by omega) (by omega)).1
   have := numI21 ii; have := showA_len b.addr; have := numI21 ib; have := numI21 iw
   have := num10_20 (n := b.port.toNat) (by omega)
   omega
theorem onW_len (b : Bool) : (onW b).length ≤ 3 := by cases b <;> decide
theorem step7 {id : Int} {b : Bk} {on : Bool} (hid : 0 ≤ id ∧ id ≤ 65535) (hb : 0 ≤ b.id ∧ b.id ≤ 65535) : Vd (stpOf (oDrain id b.id on)) ∧ showO (stpOf (oDrain id b.id on)) ≠ [] := by
 have i0 : I64 0 := i64_le (by omega) (by omega)
 have ii : I64 id := i64_le (by omega) (by omega)
 have ib : I64 b.id := i64_le (by omega) (by omega)
 have hv : Vd (stpOf (oDrain id b.id on)) := ⟨ii, ib, ⟨by show (0 : Int) ≤ 0; omega, by show (0 : Int) ≤ _; omega⟩, i0, ⟨by show (0 : Int) ≤ 0; omega, by show (0 : Int) ≤ _; omega⟩, ⟨by show (0 : Int) ≤ 0; omega, by show (0 : Int) ≤ _; omega⟩, i0, ⟨by show (0 : Int) ≤ 0; omega, by show (0 : Int) ≤ _; omega⟩, i0, ⟨by show (0 : Int) ≤ 0; omega, by show (0 : Int) ≤ _; omega⟩, i0, by simp [stpOf]⟩
 refine ⟨hv, showO_is ⟨by show (1 : Int) ≤ 7; omega, by show (7 : Int) ≤ 14; omega, ?_, zero_good.1, zero_good.2⟩ ?_⟩
 · simp [bare, stpOf, oDrain, opZ, stp0]
 · have e : wordsOf (stpOf (oDrain id b.id on)) = [kw 7, numI id, numI b.id, onW on] := by
     simp [wordsOf, argsOf, stpOf, oDrain, opZ]
   unfold lineOf
   rw [e]
   have hj := joinB_length 32 [kw 7, numI id, numI b.id, onW on]
   simp only [sumLen, List.length_cons, List.length_nil] at hj
   have := (kw_le (k := 7) (by omega) (by omega)).1
   have := numI21 ii; have := numI21 ib; have := onW_len on
   omega
def PortsOk (A : List SB) : Prop := ∀ x ∈ A, x.1.port ≤ 65535 ∧ ∀ b ∈ x.2, 0 ≤ b.port ∧ b.port ≤ 65535
theorem diff0_mem {B : List SB} {o : OpM} (h : o ∈ diffL [] B) : ∃ y ∈ B, o = oAddS y.1 ∨ ∃ b ∈ y.2, o = oAddB y.1.id (undr b) ∨ o = oDrain y.1.id b.id b.drained := by
 unfold diffL at h
 simp only [List.filter_nil, List.map_nil, List.nil_append, List.mem_flatMap] at h
 obtain ⟨y, hy, h⟩ := h
 refine ⟨y, hy, ?_⟩
 have e1 : ofSB [] y.1 = none := rfl
 have e2 : wasB [] y.1 = [] := rfl
 rw [e1, e2] at h
 unfold svOps at h
 simp only [Option.isSome_none, Bool.false_eq_true, if_false, List.filter_nil, List.map_nil, List.append_nil, List.mem_append, List.mem_singleton, List.mem_flatMap] at h
 rcases h with h | ⟨b, hb, h⟩
 · exact .inl h
 · refine .inr ⟨b, hb, ?_⟩
   unfold bkOps at h
   have e3 : atL [] b = none := rfl
   rw [e3] at h
   have e4 : ((undr b).weight != b.weight) = false := by show (b.weight != b.weight) = false; simp
   simp only [Option.isSome_none, Bool.false_eq_true, if_false, Option.getD_none, e4, List.append_nil, List.mem_append, List.mem_singleton] at h
   rcases h with h | h
   · exact .inl h
   · split at h
     · exact .inr (List.mem_singleton.1 h)
     · cases h
theorem diff0_len {B : List SB} (hl : B.length ≤ 8) (hb : ∀ y ∈ B, y.2.length ≤ 16) : (diffL [] B).length ≤ 1000 := by
 unfold diffL
 simp only [List.filter_nil, List.map_nil, List.nil_append]
 have := flatMap_len (fun y : SB => svOps (wasB [] y.1) (ofSB [] y.1).isSome y) 49 B fun y hy => by
   have e2 : wasB [] y.1 = [] := rfl
   rw [e2]
   unfold svOps
   have h1 : (ofSB [] y.1).isSome = false := rfl
   rw [h1]
   have h3 := flatMap_len (bkOps [] y.1.id) 3 y.2 fun b _ => bkOps_len _ _ b
   have := hb y hy
   simp only [List.length_append, List.length_map, List.filter_nil, List.length_nil, Bool.false_eq_true, if_false, List.length_singleton]
   omega
 omega
theorem diff0_ok {B : List SB} (hg : GoodSB B) (hp : PortsOk B) : ∀ y ∈ (diffL [] B).map stpOf, (Vd y ∧ y.data.length ≤ 1000000 ∧ y.li.length ≤ 1000000) ∧ showO y ≠ [] := by
 intro y hy
 obtain ⟨o, ho, rfl⟩ := List.mem_map.1 hy
 have key : Vd (stpOf o) ∧ showO (stpOf o) ≠ [] := by
   obtain ⟨z, hz, h⟩ := diff0_mem ho
   have hm := mayS_of (hg.may z hz)
   have hpz := hp z hz
   rcases h with rfl | ⟨b, hb, h⟩
   · exact step3 hm hpz.1
   · have hc := canB_of (hg.can z hz b hb)
     rcases h with rfl | rfl
     · exact step5 hm.id hc.1 hc.2.1 hc.2.2 (hpz.2 b hb)
     · exact step7 hm.id hc.1
 exact ⟨⟨key.1, by simp [stpOf], by simp [stpOf]⟩, key.2⟩
theorem diffL_bare {A B : List SB} : ∀ o ∈ diffL A B, Bare0 o := by
 intro o ho
 unfold diffL at ho
 rcases List.mem_append.1 ho with h | h
 · obtain ⟨x, _, rfl⟩ := List.mem_map.1 h
   exact ⟨rfl, rfl, rfl⟩
 · obtain ⟨y, _, h⟩ := List.mem_flatMap.1 h
   unfold svOps at h
   rcases List.mem_append.1 h with h | h
   · rcases List.mem_append.1 h with h | h
     · split at h
       · cases h
       · rw [List.mem_singleton.1 h]; exact ⟨rfl, rfl, rfl⟩
     · obtain ⟨x, _, rfl⟩ := List.mem_map.1 h
       exact ⟨rfl, rfl, rfl⟩
   · obtain ⟨b, _, h⟩ := List.mem_flatMap.1 h
     unfold bkOps at h
     rcases List.mem_append.1 h with h | h
     · rcases List.mem_append.1 h with h | h
       · split at h
         · cases h
         · rw [List.mem_singleton.1 h]; exact ⟨rfl, rfl, rfl⟩
       · split at h
         · rw [List.mem_singleton.1 h]; exact ⟨rfl, rfl, rfl⟩
         · cases h
     · split at h
       · rw [List.mem_singleton.1 h]; exact ⟨rfl, rfl, rfl⟩
       · cases h
theorem OpsL.of0 {s : Sl} {O : List OpM} (h : OwnS 51 Ty.api_Op w s (opsC O)) (hb : ∀ o ∈ O, Bare0 o) : OpsL w s O (O.map stpOf) := by
 refine ⟨h, by simp, fun i h1 h2 => ?_, fun o ho => ⟨fun e => ?_, fun e => ?_⟩⟩
 · rw [List.getElem_map]; exact (hb _ (List.getElem_mem h1)).is w
 · rw [(hb o ho).d] at e; exact absurd rfl e
 · rw [(hb o ho).l] at e; exact absurd rfl e
theorem law39_ops {a b : Sl} {O P : List OpM} {L : List Stp} (ha : OpsL w a O L) (hb : OpsL w b P L) (hn : L.length ≤ 1000000) (hli : ∀ y ∈ L, y.li.length ≤ 1000000000) : Ret Tryz.prog F.law39_ops #[.slice a.a a.len a.cap, .slice b.a b.len b.cap] w (fun v w' => v = .bool true ∧ Ext w w') := by
 refine W.law39_ops_ok a b w _ ?_
 (delta W.law39_ops Br bd c9 wI; dsimp only)
 have hal := ha.slen; have hbl := hb.slen
 refine ⟨fun hne => ?_, fun heq => ⟨fun n w' => ∃ i : Nat, n = i ∧ i ≤ L.length ∧ Ext w w', fun n _ => ((L.length : Int) - n).toNat, ⟨0, rfl, Nat.zero_le _, .refl _ _⟩, ?_⟩⟩
 · rw [hal, hbl] at hne; simp at hne
 rintro _ w4 ⟨i, rfl, hi, hx4⟩
 refine ⟨fun hlt => nx ?_, fun hge => ⟨rfl, hx4⟩⟩
 have hlt : i < L.length := by have := of_decide_eq_true hlt; omega
 have ew : IntKind.wrap .i64 ((i : Int) + 1) = ((i + 1 : Nat) : Int) := by rw [wrapi (by omega) (by omega)]; rfl
 have hms : ((L.length : Int) - ((i + 1 : Nat) : Int)).toNat < ((L.length : Int) - (i : Int)).toNat := by omega
 have hx5 : Ext w w4.drew := Chg.drew hx4
 obtain ⟨A, hA, hbd, o, hrd, ho⟩ := (ha.ext hx5).get hlt
 obtain ⟨B, hB, hbd2, p, hrd2, hp⟩ := (hb.ext hx5).get hlt
 refine ⟨A, hA, hbd, id, _, hrd, B, hB, hbd2, id, _, hrd2, (ref29_Same ho hp (hli _ (List.getElem_mem hlt))).use ?_⟩
 rintro _ w10 ⟨rfl, hx10⟩
 rw [decide_eq_true rfl, ew]
 exact ⟨_, rfl, fun h => (by cases h), fun _ => ⟨⟨i + 1, rfl, hlt, Ext.trans hx5 hx10⟩, hms⟩⟩
theorem conf_Text {u : Sl} {Y : List SM} (hY : SvL w u Y) (hp : PortsOk (Y.map SM.ab)) (ht : ScT w) : Ret Tryz.prog F.conf_Text #[.slice u.a u.len u.cap] w (fun v w' => Ext w w' ∧
   v = if goodL (Y.map SM.ab) = true then .tuple #[.string (S (textOf ((diffL [] (Y.map SM.ab)).map stpOf))), .int .i64 0] else .tuple #[.string (S []), .int .i64 1]) := by
 refine W.conf_Text_ok u w _ ?_
 (delta W.conf_Text c12 Br c13; dsimp only)
 have h0 : SvL w nilS [] := ⟨(OwnS.none 23 Ty.api_Service w).src, by simp, by simp, by simp⟩
 refine (conf_diff h0 hY).use ?_
 rintro _ w1 ⟨s, O, rfl, hO, ho, hx1, _⟩
 have e0 : goodL ([] : List SB) = true := by decide +kernel
 have ed : diffE (List.map SM.ab []) (Y.map SM.ab) = if goodL (Y.map SM.ab) = true then 0 else 1 := by
   unfold diffE
   rw [show List.map SM.ab [] = [] from rfl, e0, Bool.true_and]
 rw [ed] at hO
 rw [ed]
 refine ⟨s, _, rfl, fun hne => ⟨hx1, ?_⟩, fun he => ?_⟩
 · by_cases hg : goodL (Y.map SM.ab) = true
   · rw [if_pos hg] at hne; simp at hne
   · rw [if_neg hg, if_neg hg]; rfl
 · have hg : goodL (Y.map SM.ab) = true := by
     by_cases hg : goodL (Y.map SM.ab) = true
     · exact hg
     · rw [if_neg hg] at he; simp at he
   rw [if_pos hg, if_pos rfl] at hO
   rw [if_pos hg]
   have hG := goodL_good hg
   have hok := diff0_ok hG hp
   have hL : OpsL w1 s O (O.map stpOf) := OpsL.of0 ho (by rw [hO]; exact diffL_bare)
   rw [show List.map SM.ab [] = [] from rfl] at hO
   rw [hO] at hL
   refine (script_Print hL (fun y hy => (hok y hy).1) (ht.ext hx1)).use ?_
   rintro v5 w5 ⟨hx5, _, _, h3⟩
   have := h3 (by rw [List.length_map]; exact diff0_len hG.len hG.few) (fun y hy => (hok y hy).2)
   subst this
   exact ⟨_, _, rfl, Ext.trans hx1 hx5, rfl⟩
end Go.Proofs.YtgljoledlhmhnaaGreatDoor
namespace Go.Proofs.YtgljoledlhmhnaaGreatDoor
open Go Gx
variable {w w' w0 : World}
set_option maxRecDepth 100000 in
theorem sm_ofP {fuel : Nat} {vs : List Value} (h : okT Tryz.prog w fuel Ty.api_Service vs) : ∃ x : SM, vs = x.s.c x.k ∧ BR w x.k x.bs ∧ x.k.len ≤ x.k.cap ∧ x.s.port ≤ 65535 ∧ ∀ b ∈ x.bs, 0 ≤ b.port ∧ b.port ≤ 65535 := by
 have hu : Tryz.prog.underlying Ty.api_Service = some (.struct (fieldsOf Tryz.prog Ty.api_Service)) := by kernel_rfl
 have hlen : vs.length = 23 := by
   have := (okT_struct h hu).1
   rwa [show Tryz.prog.cellsOf Ty.api_Service = 23 by kernel_rfl] at this
 obtain ⟨_, f0⟩ := okT_field h hu 0 (t := Ty.int) (o := 0) (n := 1) (by kernel_rfl) (by kernel_rfl)
 obtain ⟨_, f1⟩ := okT_field h hu 1 (t := Ty.api_Addr) (o := 1) (n := 17) (by kernel_rfl) (by kernel_rfl)
 obtain ⟨_, f2⟩ := okT_field h hu 2 (t := Ty.uint16) (o := 18) (n := 1) (by kernel_rfl) (by kernel_rfl)
 obtain ⟨_, f3⟩ := okT_field h hu 3 (t := Ty.uint8) (o := 19) (n := 1) (by kernel_rfl) (by kernel_rfl)
 obtain ⟨_, f4⟩ := okT_field h hu 4 (t := Ty.int) (o := 20) (n := 1) (by kernel_rfl) (by kernel_rfl)
 obtain ⟨_, f5⟩ := okT_field h hu 5 (t := Ty.uint64) (o := 21) (n := 1) (by kernel_rfl) (by kernel_rfl)
 obtain ⟨_, f6⟩ := okT_field h hu 6 (t := Ty.Sl_api_Backend) (o := 22) (n := 1) (by kernel_rfl) (by kernel_rfl)
 obtain ⟨n0, e0, q0, r0⟩ := okT_int f0 (k := .i64) (by kernel_rfl)
 obtain ⟨a, e1⟩ := Ad.ofRs (okT_flat 8 (ls := .bool :: bytesL 16) (by kernel_rfl) (by kernel_rfl) f1)
 obtain ⟨n2, e2, q2, r2⟩ := okT_int f2 (k := .u16) (by kernel_rfl)
 obtain ⟨n3, e3, q3, r3⟩ := okT_int f3 (k := .u8) (by kernel_rfl)
 obtain ⟨n4, e4, q4, r4⟩ := okT_int f4 (k := .i64) (by kernel_rfl)
 obtain ⟨n5, e5, q5, r5⟩ := okT_int f5 (k := .u64) (by kernel_rfl)
 obtain ⟨k, e6, hk⟩ := okT_slice f6 (e := Ty.api_Backend) (by kernel_rfl)
 obtain ⟨bs, hbs, _, hbp⟩ := hk.src (c := Bk.c) (sz := 21) (by kernel_rfl) (fun b => 0 ≤ b.port ∧ b.port ≤ 65535) fun fuel us hus => by
   obtain ⟨b, hb, _, hp, _⟩ := Bk.ofRs' (okT_flat 8 (ls := lfB) (by kernel_rfl) (by kernel_rfl) hus)
   exact ⟨b, hb, hp⟩
 refine ⟨⟨⟨n0, a, n2, n3, n4, n5⟩, k, bs⟩, ?_, hbs, hk.le, (u16_range q2 r2).2, hbp⟩
 have h0 := part_next vs 0 1
 have h1 := part_next vs 1 17
 have h2 := part_next vs 18 1
 have h3 := part_next vs 19 1
 have h4 := part_next vs 20 1
 have h5 := part_next vs 21 1
 have h6 := part_next vs 22 1
 have h7 : vs.drop 23 = [] := List.drop_of_length_le (by omega)
 rw [e0] at h0; rw [e1] at h1; rw [e2] at h2; rw [e3] at h3; rw [e4] at h4; rw [e5] at h5; rw [e6, h7] at h6
 rw [List.drop_zero] at h0
 rw [h0, h1, h2, h3, h4, h5, h6]
 rfl
set_option maxRecDepth 100000 in
theorem SvIn.ofP {v : Value} (h : OkV Tryz.prog w Ty.Sl_api_Service v) : ∃ (t : Sl) (X : List SM), v = .slice t.a t.len t.cap ∧ SvIn w t X ∧ PortsOk (X.map SM.ab) := by
 obtain ⟨t, rfl, ht⟩ := SliceAt.of h (e := Ty.api_Service) (by kernel_rfl)
 obtain ⟨X, h1, _, h2⟩ := ht.src (c := fun x : SM => x.s.c x.k) (sz := 23) (by kernel_rfl) (fun x => BR w x.k x.bs ∧ x.k.len ≤ x.k.cap ∧ x.s.port ≤ 65535 ∧ ∀ b ∈ x.bs, 0 ≤ b.port ∧ b.port ≤ 65535) fun fuel vs hvs => sm_ofP hvs
 refine ⟨t, X, rfl, ⟨h1, fun x hx => ⟨(h2 x hx).1, (h2 x hx).2.1⟩⟩, fun y hy => ?_⟩
 obtain ⟨x, hx, rfl⟩ := List.mem_map.1 hy
 exact (h2 x hx).2.2
theorem PortsOk.few {A : List SB} (h : PortsOk A) : PortsOk (fewL A) := by
 intro y hy
 obtain ⟨x, hx, rfl⟩ := List.mem_map.1 hy
 have := h x (List.mem_of_mem_take hx)
 exact ⟨this.1, fun b hb => this.2 b (List.mem_of_mem_take hb)⟩
structure FewAt (w : World) (t : Sl) (X : List SM) (A : List SB) : Prop where
 o : OwnSv w t X
 ab : X.map SM.ab = fewL A
theorem fewL_len (A : List SB) : (fewL A).length ≤ 10 := by unfold fewL; rw [List.length_map, List.length_take]; omega
theorem fewL_bk (A : List SB) : ∀ x ∈ fewL A, x.2.length ≤ 18 := by
 intro x hx
 obtain ⟨y, _, rfl⟩ := List.mem_map.1 hx
 show (y.2.take 18).length ≤ 18
 rw [List.length_take]; omega
variable {t : Sl} {X : List SM} {A : List SB}
theorem FewAt.ext (h : FewAt w t X A) (hx : Ext w w') : FewAt w' t X A := ⟨h.o.ext hx, h.ab⟩
theorem FewAt.len (h : FewAt w t X A) : X.length ≤ 10 := by have := congrArg List.length h.ab; have := fewL_len A; rw [List.length_map] at *; omega
theorem FewAt.bk (h : FewAt w t X A) : ∀ x ∈ X, x.bs.length ≤ 18 := fun x hx => fewL_bk A x.ab (by rw [← h.ab]; exact List.mem_map.2 ⟨x, hx, rfl⟩)
theorem FewAt.svL (h : FewAt w t X A) : SvL w t X := h.o.svL (fun x hx => by have := h.bk x hx; omega) (by have := h.len; omega)
theorem FewAt.ports (h : FewAt w t X A) (hp : PortsOk A) : ∀ x ∈ X, ∀ b ∈ x.bs, 0 ≤ b.port := fun x hx b hb => by
 have := hp.few x.ab (by rw [← h.ab]; exact List.mem_map.2 ⟨x, hx, rfl⟩)
 exact (this.2 b hb).1
theorem few {t : Sl} {X : List SM} (hl : SvIn w t X) (hA : X.map SM.ab = A) : Ret Tryz.prog F.law39_Few #[.slice t.a t.len t.cap] w (fun v w' => ∃ (u : Sl) (Y : List SM), v = .slice u.a u.len u.cap ∧ FewAt w' u Y A ∧ Ext w w') := by
 refine (law39_Few hl).use ?_
 rintro _ w1 ⟨u, Y, rfl, h1, h2, h3, _⟩
 exact ⟨_, rfl, u, Y, rfl, ⟨h2, by rw [h1, hA]⟩, h3⟩
theorem FewAt.few (h : FewAt w t X A) : Ret Tryz.prog F.law39_Few #[.slice t.a t.len t.cap] w (fun v w' => ∃ (u : Sl) (Y : List SM), v = .slice u.a u.len u.cap ∧ FewAt w' u Y A ∧ Ext w w') := by
 refine (Go.Proofs.YtgljoledlhmhnaaGreatDoor.few (A := fewL A) h.o.in h.ab).use ?_
 rintro _ w1 ⟨u, Y, rfl, h1, h3⟩
 exact ⟨_, rfl, u, Y, rfl, ⟨h1.o, by rw [h1.ab, fewL_idem]⟩, h3⟩
theorem S_nil : ByteArray.mk #[] = S [] := rfl
theorem lives_of (hx : Ext w0 w) {K : Bool → World → Prop} (hK : ∀ w', Ext w0 w' → K true w') : Calls Tryz.prog F.law39_lives #[] w fun e w' => ∃ b : Bool, e = .returned (.bool b) ∧ K b w' := by
 refine (law39_lives w).use ?_
 rintro _ w1 ⟨rfl, hx1⟩
 exact ⟨_, rfl, hK _ (Ext.trans hx hx1)⟩
set_option maxHeartbeats 1000000 in
theorem law_ConfDiffs {a b : Sl} {X0 Y0 : List SM} (hX0 : SvIn w a X0) (hY0 : SvIn w b Y0) (hpa : PortsOk (X0.map SM.ab)) (hpb : PortsOk (Y0.map SM.ab)) (ht : ScT w) :
   Ret Tryz.prog F.law39_ConfDiffs #[.slice a.a a.len a.cap, .slice b.a b.len b.cap] w (fun v w' => v = .bool true ∧ Ext w w') := by
 refine W.law39_ConfDiffs_ok a b w _ ?_
 (delta W.law39_ConfDiffs c5 c12 c13 c9 Br ix c4 mI wI; dsimp only)
 obtain ⟨A, hA⟩ : ∃ A, A = X0.map SM.ab := ⟨_, rfl⟩
 obtain ⟨B, hB⟩ : ∃ B, B = Y0.map SM.ab := ⟨_, rfl⟩
 rw [← hA] at hpa; rw [← hB] at hpb
 refine (few hX0 hA.symm).use ?_
 rintro _ w1 ⟨s3, X, rfl, hX, hx1⟩
 refine ⟨_, rfl, (few (hY0.ext hx1) hB.symm).use ?_⟩
 rintro _ w4 ⟨s6, Y, rfl, hY, hx4⟩
 have hX := hX.ext hx4
 have hE4 := Ext.trans hx1 hx4
 refine ⟨_, rfl, hX.few.use ?_⟩
 rintro _ w7 ⟨s9, X9, rfl, hX9, hx7⟩
 refine ⟨_, rfl, (hY.ext hx7).few.use ?_⟩
 rintro _ w10 ⟨s12, Y12, rfl, hY12, hx10⟩
 have hE10 := Ext.trans hE4 (Ext.trans hx7 hx10)
 have f10 := Ext.trans hx7 hx10
 refine ⟨_, rfl, (conf_Diff (hX9.ext hx10).svL hY12.svL).use ?_⟩
 rintro _ w13 ⟨s15, O15, rfl, hO15, ho15, hx13, _⟩
 rw [hX9.ab, hY12.ab] at hO15
 rw [hX9.ab, hY12.ab]
 have f13 := Ext.trans f10 hx13
 refine ⟨_, _, rfl, (hY.ext f13).few.use ?_⟩
 rintro _ w17 ⟨s19, Y19, rfl, hY19, hx17⟩
 have f17 := Ext.trans f13 hx17
 refine ⟨_, rfl, (conf_Steps hY19.svL).use ?_⟩
 rintro _ w20 ⟨s22, O22, rfl, hO22, ho22, hx20, _⟩
 rw [hY19.ab] at hO22
 rw [hY19.ab]
 have f20 := Ext.trans f17 hx20
 refine ⟨_, _, rfl, (hY.ext f20).few.use ?_⟩
 rintro _ w24 ⟨s26, Y26, rfl, hY26, hx24⟩
 have f24 := Ext.trans f20 hx24
 refine ⟨_, rfl, (conf_Text hY26.svL (by rw [hY26.ab]; exact hpb.few) (ht.ext (Ext.trans hE4 f24))).use ?_⟩
 rintro v27 w27 ⟨hx27, hv27⟩
 rw [hY26.ab] at hv27
 obtain ⟨s29, n30, rfl, h29⟩ : ∃ (s : ByteArray) (n : Int), v27 = .tuple #[.string s, .int .i64 n] ∧ (goodL (fewL B) = true → s = S (textOf ((diffL [] (fewL B)).map stpOf)) ∧ n = 0) ∧ (goodL (fewL B) = false → s = S [] ∧ n = 1) := by
   cases hg : goodL (fewL B) with
   | true => rw [hg, if_pos rfl] at hv27; exact ⟨_, _, hv27, fun _ => ⟨rfl, rfl⟩, fun h => by cases h⟩
   | false => rw [hg, if_neg (by decide)] at hv27; exact ⟨_, _, hv27, fun h => (by cases h), fun _ => ⟨rfl, rfl⟩⟩
 have f27 := Ext.trans f24 hx27
 refine ⟨s29, n30, rfl, (hX.ext f27).few.use ?_⟩
 rintro _ w31 ⟨s33, X33, rfl, hX33, hx31⟩
 have f31 := Ext.trans f27 hx31
 refine ⟨_, rfl, (conf_Good' hX33.svL).use ?_⟩
 rintro _ w34 ⟨rfl, hx34⟩
 rw [hX33.ab]
 have f34 := Ext.trans f31 hx34
 refine ⟨_, rfl, (ref39_Good (hX.ext f34).o.in (hX.ports hpa)).use ?_⟩
 rintro _ w37 ⟨rfl, hx37⟩
 rw [hX.ab]
 have f37 := Ext.trans f34 hx37
 refine ⟨_, rfl, Jn1 (fun b w' => b = false ∧ Ext w37 w') (fun q hq => ⟨fun h => ?_, fun _ => (hX.ext f37).few.use ?_⟩) ?_⟩
 · simp at h
 · rintro _ w41 ⟨s43, X43, rfl, hX43, hx41⟩
   have f41 := Ext.trans f37 hx41
   refine ⟨_, rfl, (hY.ext f41).few.use ?_⟩
   rintro _ w44 ⟨s46, Y46, rfl, hY46, hx44⟩
   have f44 := Ext.trans f41 hx44
   have hX44 := hX43.ext hx44
   refine ⟨_, rfl, (conf_Same hX44.o.in hY46.o.in (by have := hX44.len; omega) (fun x hx => by have := hX44.bk x hx; omega)).use ?_⟩
   rintro _ w47 ⟨rfl, hx47⟩
   have f47 := Ext.trans f44 hx47
   refine ⟨_, rfl, (ref39_Same (hX.ext f47).svL (hY.ext f47).svL).use ?_⟩
   rintro _ w50 ⟨rfl, hx50⟩
   refine ⟨_, rfl, hq _ _ ⟨?_, Ext.trans hx41 (Ext.trans hx44 (Ext.trans hx47 hx50))⟩⟩
   rw [hX44.ab, hY46.ab, hX.ab, hY.ab]; simp
 rintro _ w54 ⟨rfl, hx54⟩
 have f54 := Ext.trans f37 hx54
 have g13 : Ext w20 w54 := Ext.trans hx24 (Ext.trans hx27 (Ext.trans hx31 (Ext.trans hx34 (Ext.trans hx37 hx54))))
 have e0 : goodL ([] : List SB) = true := by decide +kernel
 have ed0 : diffE [] (fewL B) = if goodL (fewL B) = true then 0 else 1 := by unfold diffE; rw [e0, Bool.true_and]
 refine ⟨fun h => (by cases h), fun _ => (ref39_Good (hY.ext f54).o.in (hY.ports hpb)).use ?_⟩
 rintro _ w55 ⟨rfl, hx55⟩
 rw [hY.ab]
 have f55 := Ext.trans f54 hx55
 have l15 : s15.len = O15.length := by have := ho15.1; rw [opsC_length] at this; omega
 have l22 : s22.len = O22.length := by have := ho22.1; rw [opsC_length] at this; omega
 refine ⟨_, rfl, fun hn => ?_, fun hy => ?_⟩
 · have hn : goodL (fewL B) = false := by simpa using hn
   obtain ⟨rfl, rfl⟩ := h29.2 hn
   have ed1 : diffE (fewL A) (fewL B) = 1 := by unfold diffE; rw [hn, Bool.and_false]; rfl
   rw [hn, if_neg (by decide)] at ed0
   rw [ed1, if_neg (by decide)] at hO15
   rw [ed0, if_neg (by decide)] at hO22
   rw [hO15] at l15; rw [hO22] at l22
   rw [ed1, ed0, l15, l22]
   refine Jn1 (fun b w' => b = true ∧ Ext w w') (fun q hq => ⟨fun _ => lives_of (Ext.trans hE4 f55) fun w' hx => hq _ _ ⟨rfl, hx⟩, fun h => ?_⟩) fun b w' h => ⟨by rw [h.1], h.2⟩
   rw [S_nil, S_beq] at h
   simp at h
 have hg : goodL (fewL B) = true := by simpa using hy
 obtain ⟨rfl, rfl⟩ := h29.1 hg
 have hG := goodL_good hg
 rw [hg, if_pos rfl] at ed0
 rw [ed0, if_pos rfl] at hO22
 rw [ed0]
 have hs65 : Ext w55 (w55.alloc (.cells #[] Ty.api_Service)) := Chg.alloc (.refl _ _) _
 have f65 := Ext.trans f55 hs65
 have hin0 : SvIn (w55.alloc (.cells #[] Ty.api_Service)) ⟨some ⟨w55.heap.size, 0, none⟩, 0, 0⟩ [] := ⟨(OwnS.new (sz := 23) w55 [] 0 rfl (by decide)).src, by simp⟩
 have hY65 := hY.ext f65
 refine ⟨⟨some ⟨w55.heap.size, 0, none⟩, 0, 0⟩, _, buildSv0 w55, (ref39_Diff hin0 hY65.o.in (by simp) (by have := hY65.len; omega) (by simp) (fun y hy => by have := hY65.bk y hy; omega)).use ?_⟩
 rintro _ w66 ⟨s68, rfl, hD66⟩
 rw [hY65.ab, show List.map SM.ab [] = [] from rfl] at hD66
 obtain ⟨O68, hL68, hx66, _⟩ := hD66
 obtain ⟨L, hL⟩ : ∃ L, L = (diffL [] (fewL B)).map stpOf := ⟨_, rfl⟩
 rw [← hL] at hL68 ⊢
 have hok := diff0_ok hG hpb.few
 rw [← hL] at hok
 have hLl : L.length ≤ 1000 := by rw [hL, List.length_map]; exact diff0_len hG.len hG.few
 have h68l := hL68.slen
 have f66 := Ext.trans f65 hx66
 refine ⟨_, rfl, fun s n w' => ∃ i : Nat, n = i ∧ i ≤ L.length ∧ s = S (textOf (L.take i)) ∧ Ext w66 w', fun _ n _ => ((L.length : Int) - n).toNat, ⟨0, rfl, Nat.zero_le _, rfl, .refl _ _⟩, ?_⟩
 rintro _ _ w73 ⟨i, rfl, hi, rfl, hx73⟩
 refine ⟨fun hlt => ?_, fun hge => ?_⟩
 · have hlt : i < L.length := by have := of_decide_eq_true hlt; omega
   obtain ⟨P, hP, hbd, o, hrd, ho⟩ := (hL68.ext hx73).get hlt
   have hoki := hok _ (List.getElem_mem hlt)
   refine ⟨P, hP, hbd, _, hrd, (ref29_Show ho hoki.1.1 (by omega) (by omega)).use ?_⟩
   rintro _ w76 ⟨rfl, hx76⟩
   have ew : IntKind.wrap .i64 ((i : Int) + 1) = ((i + 1 : Nat) : Int) := by rw [wrapi (by omega) (by omega)]; rfl
   have hms : ((L.length : Int) - ((i + 1 : Nat) : Int)).toNat < ((L.length : Int) - (i : Int)).toNat := by omega
   have h1 := textOf_len (L.take i)
   have h2 := showO_len L[i]
   rw [List.length_take] at h1
   rw [ew, e10]
   refine ⟨_, rfl, ?_, ?_, ⟨i + 1, rfl, hlt, ?_, Ext.trans hx73 hx76⟩, hms⟩
   · rw [S_size, S_size]; omega
   · rw [S_append, S_size, S_size, List.length_append, List.length_singleton]; omega
   · rw [S_append, S_append, List.take_succ_eq_append_getElem hlt, textOf_snoc, List.append_assoc]
 · have hi2 : i = L.length := by have := of_decide_eq_false hge; omega
   rw [hi2, List.take_length]
   have f73 := Ext.trans f66 hx73
   have h22 : OpsL w20 s22 O22 L := by
     have := OpsL.of0 ho22 (by rw [hO22]; exact diffL_bare)
     rwa [hO22, ← hL, ← hO22] at this
   have g55 : Ext w55 w73 := Ext.trans hs65 (Ext.trans hx66 hx73)
   have g20 : Ext w20 w73 := Ext.trans g13 (Ext.trans hx55 g55)
   have hli : ∀ y ∈ L, y.li.length ≤ 1000000000 := fun y hy => by have := (hok y hy).1.2.2; omega
   refine (law39_ops (h22.ext g20) (hL68.ext hx73) (by omega) hli).use ?_
   rintro _ w79 ⟨rfl, hx79⟩
   have f79 := Ext.trans f73 hx79
   refine ⟨_, rfl, fun h => ?_, fun _ => (ref39_Good (hX.ext f79).o.in (hX.ports hpa)).use ?_⟩
   · rw [S_beq] at h; simp at h
   rintro _ w82 ⟨rfl, hx82⟩
   rw [hX.ab]
   have f82 := Ext.trans f79 hx82
   refine ⟨_, rfl, fun hn => ?_, fun hy2 => ?_⟩
   · have hn : goodL (fewL A) = false := by simpa using hn
     have ed1 : diffE (fewL A) (fewL B) = 1 := by unfold diffE; rw [hn, Bool.false_and]; rfl
     rw [ed1, if_neg (by decide)] at hO15
     rw [hO15] at l15
     rw [ed1, l15]
     exact Jn1 (fun b w' => b = true ∧ Ext w w') (fun q hq => ⟨fun _ => lives_of (Ext.trans hE4 f82) fun w' hx => hq _ _ ⟨rfl, hx⟩, fun h => (by simp at h)⟩) fun b w' h => ⟨by rw [h.1], h.2⟩
   · have hga : goodL (fewL A) = true := by simpa using hy2
     have ed1 : diffE (fewL A) (fewL B) = 0 := by unfold diffE; rw [hga, hg]; rfl
     rw [ed1, if_pos rfl] at hO15
     rw [ed1]
     have hX82 := hX.ext f82; have hY82 := hY.ext f82
     refine (ref39_Diff hX82.o.in hY82.o.in (by have := hX82.len; omega) (by have := hY82.len; omega) (fun x hx => by have := hX82.bk x hx; omega) (fun y hy => by have := hY82.bk y hy; omega)).use ?_
     rintro _ w91 ⟨s93, rfl, hD91⟩
     rw [hX82.ab, hY82.ab] at hD91
     obtain ⟨O93, hL93, hx91, _⟩ := hD91
     have h15 : OpsL w13 s15 O15 ((diffL (fewL A) (fewL B)).map stpOf) := by
       have := OpsL.of0 ho15 (by rw [hO15]; exact diffL_bare)
       rwa [congrArg (List.map stpOf) hO15] at this
     have g91 : Ext w13 w91 := Ext.trans hx17 (Ext.trans hx20 (Ext.trans g20 (Ext.trans hx79 (Ext.trans hx82 hx91))))
     have hdl : (diffL (fewL A) (fewL B)).length ≤ 1000000 := by
       unfold diffL
       rw [List.length_append, List.length_map]
       have h1 := List.length_filter_le (fun x : SB => (ofSB (fewL B) x.1).isNone) (fewL A)
       have h2 := fewL_len A; have h3 := fewL_len B
       have h4 := flatMap_len (fun y : SB => svOps (wasB (fewL A) y.1) (ofSB (fewL A) y.1).isSome y) 4001 (fewL B) fun y hy => svOps_len (by
         unfold wasB
         cases ho : ofSB (fewL A) y.1 with
         | none => simp
         | some x => have := fewL_bk A x (List.mem_of_find?_eq_some ho); show x.2.length ≤ 1000; omega) (by have := fewL_bk B y hy; omega)
       omega
     refine ⟨_, rfl, (law39_ops (h15.ext g91) hL93 (by rw [List.length_map]; exact hdl) (fun y hy => by obtain ⟨o, _, rfl⟩ := List.mem_map.1 hy; simp [stpOf])).use ?_⟩
     rintro _ w94 ⟨rfl, hx94⟩
     have f94 := Ext.trans f82 (Ext.trans hx91 hx94)
     exact ⟨_, rfl, Jn1 (fun b w' => b = true ∧ Ext w w') (fun q hq => ⟨fun _ => lives_of (Ext.trans hE4 f94) fun w' hx => hq _ _ ⟨rfl, hx⟩, fun h => (by simp at h)⟩) fun b w' h => ⟨by rw [h.1], h.2⟩⟩
end Go.Proofs.YtgljoledlhmhnaaGreatDoor
