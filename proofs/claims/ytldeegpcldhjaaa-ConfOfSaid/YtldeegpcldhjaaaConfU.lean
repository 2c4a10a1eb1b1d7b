/- The reference's farm: a service more, a service less. -/
import Derived.Test.YtldeegpcldhjaaaConfT
namespace Go.Proofs.Ytldeegpcldhjaaa
open Go Gx
variable {w w' : World} {p : Nat} {t : Sl} {X : List SM}

theorem smC_take : ∀ (X : List SM) (i : Nat), (smC X).take (i * 23) = smC (X.take i)
  | [], i => by simp [smC]
  | x :: X, 0 => by simp [smC]
  | x :: X, i + 1 => by
    rw [smC_cons, List.take_append, List.take_of_length_le (by rw [Sv.c_length]; omega), Sv.c_length, show (i + 1) * 23 - 23 = i * 23 by omega, smC_take X i]; rfl

/-- The reference's farm in the heap. -/
structure RefAt (w : World) (p : Nat) (t : Sl) (X : List SM) : Prop where
  v : Var w p [.slice t.a t.len t.cap] Ty.ref20_Farm
  o : OwnSv w t X
def rfoot (p : Nat) (t : Sl) (X : List SM) (q : Nat) : Prop := q = p ∨ svB t X q
theorem RefAt.chg {W : Nat → Prop} (h : RefAt w p t X) (hc : Chg W w w') (hn : ∀ q, rfoot p t X q → ¬ W q) : RefAt w' p t X := ⟨h.v.chg hc (hn _ (.inl rfl)), h.o.chg hc fun q hq => hn q (.inr hq)⟩
theorem RefAt.ext (h : RefAt w p t X) (hc : Ext w w') : RefAt w' p t X := h.chg hc fun _ _ h => h
theorem RefAt.lt (h : RefAt w p t X) {q : Nat} (hq : rfoot p t X q) : q < w.heap.size := hq.elim (fun e => by rw [e]; exact h.v.lt) h.o.lt
theorem RefAt.np (h : RefAt w p t X) {q : Nat} (hq : svB t X q) : q ≠ p := by
  rintro rfl
  rcases hq with hq | ⟨x, hx, hq⟩
  · exact absurd (h.o.o.notVar hq h.v) (by decide)
  · exact absurd ((h.o.k x hx).notVar hq h.v) (by decide)
/-- What a call tells, and the farm behind it. -/
def RStep (p : Nat) (t : Sl) (X : List SM) (w : World) (x : Int × List SB) (v : Value) (w' : World) : Prop :=
  v = .int .i64 x.1 ∧ ∃ t' X', RefAt w' p t' X' ∧ X'.map SM.ab = x.2 ∧ Chg (rfoot p t X) w w' ∧ ∀ q, rfoot p t' X' q → rfoot p t X q ∨ w.heap.size ≤ q
theorem RStep.same (h : RefAt w p t X) (hx : Ext w w') {e : Int} {v : Value} (hv : v = .int .i64 e) : RStep p t X w (e, X.map SM.ab) v w' :=
  ⟨hv, t, X, h.ext hx, rfl, Chg.of_ext hx, fun _ h => .inl h⟩
/-- The bounds that a reading needs. -/
structure Small (X : List SM) : Prop where
  len : X.length ≤ 8
  few : ∀ x ∈ X, x.bs.length ≤ 16
  ids : (X.map SM.ab).Pairwise fun a b => a.1.id < b.1.id
  rise : ∀ x ∈ X, Rise x.bs
theorem Small.of (h : GoodSB (X.map SM.ab)) : Small X :=
  ⟨by have := h.len; rwa [List.length_map] at this, fun x hx => h.few x.ab (List.mem_map.2 ⟨x, hx, rfl⟩), h.ids, fun x hx => h.rise x.ab (List.mem_map.2 ⟨x, hx, rfl⟩)⟩
theorem RefAt.svL (h : RefAt w p t X) (hs : Small X) : SvL w t X := h.o.svL (fun x hx => by have := hs.few x hx; omega) (by have := hs.len; omega)
theorem Small.lt (h : Small X) {i j : Nat} (hij : i < j) (hj : j < X.length) : (X[i]).s.id < (X[j]).s.id := by
  have := List.pairwise_map.1 h.ids
  exact List.pairwise_iff_getElem.1 this i j (by omega) hj hij

/-- The slice is laid into the farm. -/
theorem RefAt.put (h : RefAt w p t X) {u : Sl} {Y : List SM} {w1 : World} (hx : Ext w w1) (ho : OwnSv w1 u Y) (hf : ∀ q, svB u Y q → svB t X q ∨ w.heap.size ≤ q) {K : World → Prop}
    (hK : ∀ w', RefAt w' p u Y → Chg (rfoot p t X) w w' → (∀ q, rfoot p u Y q → rfoot p t X q ∨ w.heap.size ≤ q) → K w') :
    (∃ v : Value, w1.cell? ⟨p, 0, none⟩ = some v) ∧ w1.frozen? ⟨p, 0, none⟩ = false ∧ Nx (w1.setCell ⟨p, 0, none⟩ (.slice u.a u.len u.cap)) K := by
  have hv := h.v.ext hx
  refine ⟨⟨_, hv.cell⟩, Blk.frozen hv _ rfl, nxSet hv fun w2 hv2 hc2 _ => hK w2 ⟨hv2, ho.chg hc2 fun q hq e => ?_⟩ ?_ fun q hq => ?_⟩
  · subst e
    rcases hf q hq with h1 | h1
    · exact h.np h1 rfl
    · have := h.v.lt; omega
  · exact (Chg.of_ext hx).trans (hc2.mono fun q _ e => .inl e)
  · rcases hq with rfl | hq
    · exact .inl (.inl rfl)
    · exact (hf q hq).imp .inr id

theorem door_chain (x s : Sv) : ((x.id == s.id) || ((decide (x.addr = s.addr) && (x.port == s.port)) && (x.proto == s.proto))) = ((x.id == s.id) || decide (x.door = s.door)) := by
  congr 1
  rw [Bool.eq_iff_iff]
  simp only [Bool.and_eq_true, beq_iff_eq, decide_eq_true_eq, Sv.door, Dr.mk.injEq]
  exact ⟨fun ⟨⟨h1, h2⟩, h3⟩ => ⟨h1, h2, h3⟩, fun ⟨h1, h2, h3⟩ => ⟨⟨h1, h2⟩, h3⟩⟩

theorem ref20_AddService (h : RefAt w p t X) (hs : Small X) (s : Sv) (k : Sl) : Ret Try.prog F.ref20_Farm_AddService #[.pointer (some ⟨p, 0, none⟩), .agg (s.c k).toArray] w (fun v w' => RStep p t X w (addService (X.map SM.ab) s k) v w') := by
  refine W.ref20_Farm_AddService_ok (some ⟨p, 0, none⟩) _ w _ ?_
  unfold W.ref20_Farm_AddService
  have hlX := hs.len
  have hlen : t.len = X.length := (h.svL hs).len
  refine nxVar (vs := s.c k) rfl fun w1 hv hx1 hs1 => ⟨_, hv.rd (Sv.c_length _ _), (ref20_May s k w1).use ?_⟩
  rintro _ w3 ⟨rfl, hx3⟩
  have hX3 := Ext.trans hx1 hx3
  refine ⟨_, rfl, fun hm => ?_, fun hm => ?_⟩
  · have hm : mayS s k = false := by simpa using hm
    have e : addService (X.map SM.ab) s k = (1, X.map SM.ab) := by unfold addService; rw [hm]; rfl
    rw [e]; exact RStep.same h hX3 rfl
  have hm : mayS s k = true := by simpa using hm
  have hv := hv.ext hx3
  refine ⟨fun n8 n9 w10 => ∃ i a : Nat, n9 = i ∧ n8 = a ∧ i ≤ X.length ∧ a ≤ i ∧ Ext w3 w10 ∧ (∀ (j : Nat) (hj : j < i) (h1 : j < X.length), ((X[j]).s.id == s.id || decide ((X[j]).s.door = s.door)) = false) ∧
    (∀ (j : Nat) (hj : j < a) (h1 : j < X.length), (X[j]).s.id < s.id) ∧ ∀ (j : Nat) (hj : a ≤ j) (h2 : j < i) (h1 : j < X.length), s.id < (X[j]).s.id, fun _ n9 _ => ((X.length : Int) - n9).toNat,
    ⟨0, 0, rfl, rfl, Nat.zero_le _, Nat.le_refl _, .refl _ _, fun j hj => by omega, fun j hj => by omega, fun j _ hj => by omega⟩, ?_⟩
  rintro _ _ w10 ⟨i, a, rfl, rfl, hi, hai, hx10, hno, hlo, hhi⟩
  have hX10 := Ext.trans hX3 hx10
  have h10 := h.ext hX10
  refine ⟨_, rfl, t, h10.v.cell, fun hlt => ?_, fun hge => ?_⟩
  · have hlt : i < X.length := by have := of_decide_eq_true hlt; omega
    obtain ⟨A, hA, hbd, hrd⟩ := (h10.svL hs).get hlt
    obtain ⟨x, hxe⟩ : ∃ x, x = X[i] := ⟨_, rfl⟩
    rw [← hxe] at hrd
    have ew : IntKind.wrap .i64 ((i : Int) + 1) = ((i + 1 : Nat) : Int) := by rw [wrapi (by omega) (by omega)]; rfl
    have hms : ((X.length : Int) - ((i + 1 : Nat) : Int)).toNat < ((X.length : Int) - (i : Int)).toNat := by omega
    rw [ew]
    refine ⟨⟨_, rfl, t, h10.v.cell, A, hA, hbd, _, hrd, nxVar (vs := Sv.zero.c nilS) (by kernel_rfl) fun w18 hz hx18 _ => ⟨hz.storeOk (by simp [Sv.c_length]) (Sv.plain _ _), by simp [Sv.c_length], nxPut hz (us := x.s.c x.k) (by simp [Sv.c_length]) rfl fun w19 hvx hc19 _ => ?_⟩⟩⟩
    have hx19 : Ext w10 w19 := Ext.of_chg hx18 hc19 (Nat.le_refl _)
    have hv19 := hv.ext (Ext.trans hx10 hx19)
    refine ⟨_, (scell hvx).1, _, (scell hv19).1, jnOr ((decide (x.s.addr = s.addr) && (x.s.port == s.port)) && (x.s.proto == s.proto)) (fun _ q hq => ⟨_, srd hvx, _, srd hv19, _, eqAd _ _, ?_⟩) fun w37 hx37 => ⟨fun hb => ?_, fun hb => ?_⟩⟩
    · refine jnAnd (x.s.port == s.port) (fun _ q hq => ⟨_, (scell hvx).2.2.1, _, (scell hv19).2.2.1, hq _ (.refl _ _)⟩) fun w30 hx30 => ?_
      exact jnAnd (x.s.proto == s.proto) (fun _ q hq => ⟨_, (scell (hvx.ext hx30)).2.2.2.1, _, (scell (hv19.ext hx30)).2.2.2.1, hq _ (.refl _ _)⟩) fun w35 hx35 => hq _ (Ext.trans hx30 hx35)
    · rw [door_chain] at hb
      have e : addService (X.map SM.ab) s k = (7, X.map SM.ab) := by
        unfold addService
        rw [if_pos hm, if_pos]
        rw [Bool.or_eq_true] at hb ⊢
        have hmem : x.ab ∈ X.map SM.ab := List.mem_map.2 ⟨x, by rw [hxe]; exact List.getElem_mem _, rfl⟩
        exact hb.imp (fun h => List.any_eq_true.2 ⟨_, hmem, h⟩) fun h => List.any_eq_true.2 ⟨_, hmem, h⟩
      rw [e]; exact RStep.same h (Ext.trans hX10 (Ext.trans hx19 hx37)) rfl
    · rw [door_chain] at hb
      have hX37 := Ext.trans hx10 (Ext.trans hx19 hx37)
      have hne : x.s.id ≠ s.id := fun e => by rw [Bool.or_eq_false_iff] at hb; simp [e] at hb
      have hno' : ∀ (j : Nat) (hj : j < i + 1) (h1 : j < X.length), ((X[j]).s.id == s.id || decide ((X[j]).s.door = s.door)) = false := fun j hj h1 => by
        rcases Nat.lt_or_ge j i with h3 | h3
        · exact hno j h3 h1
        · have : j = i := by omega
          subst this; rw [hxe] at hb; exact hb
      refine ⟨_, (scell (hvx.ext hx37)).1, _, (scell (hv19.ext hx37)).1, fun hl => ?_, fun hl => ?_⟩
      · have hl := of_decide_eq_true hl
        refine ⟨⟨i + 1, i + 1, rfl, rfl, hlt, Nat.le_refl _, hX37, hno', fun j hj h1 => ?_, fun j h1 h2 => by omega⟩, hms⟩
        rcases Nat.lt_or_ge j i with h3 | h3
        · have := hs.lt h3 hlt; rw [← hxe] at this; omega
        · have : j = i := by omega
          subst this; rw [← hxe]; exact hl
      · have hl := of_decide_eq_false hl
        refine ⟨⟨i + 1, a, rfl, rfl, hlt, by omega, hX37, hno', hlo, fun j h1 h2 h3 => ?_⟩, hms⟩
        rcases Nat.lt_or_ge j i with h4 | h4
        · exact hhi j h1 h4 h3
        · have : j = i := by omega
          subst this; rw [← hxe]; omega
  · have hi : i = X.length := by have := of_decide_eq_false hge; omega
    subst hi
    have hno1 : (X.map SM.ab).any (fun x => x.1.id == s.id) = false := List.any_eq_false.2 fun y hy => by
      obtain ⟨x, hx, rfl⟩ := List.mem_map.1 hy
      obtain ⟨j, hj, rfl⟩ := List.getElem_of_mem hx
      have := hno j hj hj
      rw [Bool.or_eq_false_iff] at this
      show ¬ ((X[j]).s.id == s.id) = true
      rw [this.1]; simp
    have hno2 : (X.map SM.ab).any (fun x => decide (x.1.door = s.door)) = false := List.any_eq_false.2 fun y hy => by
      obtain ⟨x, hx, rfl⟩ := List.mem_map.1 hy
      obtain ⟨j, hj, rfl⟩ := List.getElem_of_mem hx
      have := hno j hj hj
      rw [Bool.or_eq_false_iff] at this
      show ¬ decide ((X[j]).s.door = s.door) = true
      rw [this.2]; simp
    refine ⟨_, rfl, t, h10.v.cell, fun h8 => ?_, fun h8 => ?_⟩
    · have h8 := of_decide_eq_true h8
      have e : addService (X.map SM.ab) s k = (2, X.map SM.ab) := by
        unfold addService
        rw [if_pos hm, hno1, hno2, if_neg (by simp), if_pos (by rw [List.length_map]; omega)]
      rw [e]; exact RStep.same h hX10 rfl
    · have h8 := of_decide_eq_false h8
      have e : addService (X.map SM.ab) s k = (0, (X.map SM.ab).take a ++ (s, []) :: (X.map SM.ab).drop a) := by
        unfold addService
        rw [if_pos hm, hno1, hno2, if_neg (by simp), if_neg (by rw [List.length_map]; omega)]
        have := insBy_mid (f := fun x : SB => x.1.id) (x := (s, [])) (P := (X.map SM.ab).take a) (Q := (X.map SM.ab).drop a) (fun y hy => ?_) (fun y hy => ?_)
        · rw [List.take_append_drop] at this; rw [this]
        · obtain ⟨j, hj, rfl⟩ := List.getElem_of_mem hy
          rw [List.getElem_take, List.getElem_map]
          have hj1 := hj
          rw [List.length_take, List.length_map] at hj1
          exact hlo j (by omega) (by omega)
        · obtain ⟨j, hj, rfl⟩ := List.getElem_of_mem hy
          rw [List.getElem_drop, List.getElem_map]
          have hj1 := hj
          rw [List.length_drop, List.length_map] at hj1
          exact hhi (a + j) (by omega) (by omega) (by omega)
      rw [e]
      have hxa : Ext w10 (w10.alloc (.cells #[] Ty.api_Backend)) := Chg.alloc (.refl _ _) _
      have hv10 := hv.ext (Ext.trans hx10 hxa)
      refine ⟨⟨some ⟨w10.heap.size, 0, none⟩, 0, 0⟩, _, buildBk0 w10, ⟨_, (scell hv10).2.2.2.2.2.2⟩, by rw [add_mk]; exact Blk.frozen hv10 _ rfl, ?_⟩
      rw [add_mk]
      have hok0 : OwnS 21 Ty.api_Backend (w10.alloc (.cells #[] Ty.api_Backend)) ⟨some ⟨w10.heap.size, 0, none⟩, 0, 0⟩ (bksC []) := OwnS.new w10 [] 0 rfl (by decide)
      refine nxSet hv10 fun w46 hv46 hc46 hs46 => nx ?_
      have ev : (s.c k).set (0 + 22) (.slice (some ⟨w10.heap.size, 0, none⟩) 0 0) = s.c ⟨some ⟨w10.heap.size, 0, none⟩, 0, 0⟩ := s.set22 k ⟨some ⟨w10.heap.size, 0, none⟩, 0, 0⟩
      rw [ev] at hv46
      have hX46 : Ext w w46 := Ext.of_chg (Ext.trans hX10 hxa) hc46 (Nat.le_refl _)
      have hd : Ext w46 w46.drew := Chg.drew (.refl _ _)
      have hX47 := Ext.trans hX46 hd
      have h47 := h.ext hX47
      have hv47 := hv46.ext hd
      have hsl : Src 23 w46.drew t (smC X) := h47.o.o.src
      have hcap := h47.o.o.2.1
      have c1 := Src.cut hsl hcap (lo := 0) (hi := a) (Nat.zero_le _) (by omega)
      have c2 := Src.cut hsl hcap (lo := a) (hi := t.len) (by omega) (Nat.le_refl _)
      rw [Nat.zero_mul, List.drop_zero, Nat.sub_zero, smC_take] at c1
      rw [smC_drop, List.take_of_length_le (by rw [smC_length, List.length_drop]; omega)] at c2
      refine ⟨fun q => w46.drew.heap.size ≤ q, _, rfl, by have := h47.v.lt; exact Nat.not_le.2 this, t, h47.v.cell, ⟨by omega, by omega⟩, by have := hv47.lt; exact Nat.not_le.2 this, _, hv47.rd (Sv.c_length _ _), _, rfl,
        by have := h47.v.lt; exact Nat.not_le.2 this, t, h47.v.cell, ⟨by omega, by omega⟩, ?_⟩
      refine ins_chain appSv buildSv0 (fun w => buildSv s ⟨some ⟨w10.heap.size, 0, none⟩, 0, 0⟩ w) (Sv.c_length _ _) c1 c2 (Sv.plain _ _) (smC_plain _) (smC_plain _) (by simp only [Int.toNat_natCast]; omega) fun u w63 hF => ⟨_, rfl, ?_⟩
      have hk : OwnS 21 Ty.api_Backend w46.drew ⟨some ⟨w10.heap.size, 0, none⟩, 0, 0⟩ (bksC []) := (hok0.chg hc46 fun q hq e => by
        rw [ownB_some] at hq; simp at hq
        have := hv.lt; have := hx10.size; omega).ext hd
      have hY : OwnSv w63 u (X.take a ++ ⟨s, ⟨some ⟨w10.heap.size, 0, none⟩, 0, 0⟩, []⟩ :: X.drop a) := by
        refine ⟨?_, fun y hy => ?_⟩
        · have := hF.o
          rw [List.append_assoc] at this
          rw [smC_app, smC_cons]; exact this
        · rcases List.mem_append.1 hy with hy | hy
          · exact (h47.o.k y (List.mem_of_mem_take hy)).ext hF.x
          · rcases List.mem_cons.1 hy with rfl | hy
            · exact hk.ext hF.x
            · exact (h47.o.k y (List.mem_of_mem_drop hy)).ext hF.x
      refine h.put (Ext.trans hX47 hF.x) hY (fun q hq => ?_) fun w65 r1 r2 r3 => ⟨rfl, _, _, r1, by simp [SM.ab], r2, r3⟩
      rcases hq with hq | ⟨y, hy, hq⟩
      · have := hF.f q hq; have := hX47.size; exact .inr (by omega)
      · rcases List.mem_append.1 hy with hy | hy
        · exact .inl (.inr ⟨y, List.mem_of_mem_take hy, hq⟩)
        · rcases List.mem_cons.1 hy with rfl | hy
          · rw [ownB_some] at hq; simp at hq
            have := hX10.size; exact .inr (by omega)
          · exact .inl (.inr ⟨y, List.mem_of_mem_drop hy, hq⟩)

end Go.Proofs.Ytldeegpcldhjaaa
