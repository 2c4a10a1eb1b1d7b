/- The reference's farm: a backend more. -/
import Derived.Test.YtldeegpcldhjaaaConfV
namespace Go.Proofs.Ytldeegpcldhjaaa
open Go Gx
variable {w w' : World} {p : Nat} {t : Sl} {X : List SM}

theorem add_none {L : List SB} {id : Int} (h : ∀ x ∈ L, x.1.id ≠ id) : L.find? (fun x => x.1.id == id) = none := List.find?_eq_none.2 fun x hx => by simpa using h x hx
theorem idx_has {l : List Bk} (id : Int) : (hasB l id = true ∧ ∃ (i : Nat) (h : i < l.length), idxG (fun b : Bk => b.id == id) l = i ∧ (l[i]).id = id) ∨ (hasB l id = false ∧ idxG (fun b : Bk => b.id == id) l = -1) := by
  rcases idxG_cases (fun b : Bk => b.id == id) l with ⟨i, h, h1, h2⟩ | ⟨h1, h2⟩
  · have h3 : ((l[i]).id == id) = true := by have := List.find?_some (p := fun b : Bk => b.id == id) h2; exact this
    exact .inl ⟨List.any_eq_true.2 ⟨_, List.getElem_mem h, h3⟩, i, h, h1, by simpa using h3⟩
  · exact .inr ⟨List.any_eq_false.2 fun x hx => List.find?_eq_none.1 h2 x hx, h1⟩
theorem posB_is {l : List Bk} {id : Int} {j : Nat} (hj : j ≤ l.length) (h1 : ∀ (m : Nat) (hm : m < j) (h : m < l.length), (l[m]).id < id) (h2 : ∀ h : j < l.length, id ≤ (l[j]).id) : posB l id = j := by
  unfold posB
  rcases Nat.lt_or_ge j l.length with h | h
  · exact (List.findIdx_eq h).2 ⟨decide_eq_true (h2 h), fun m hm => decide_eq_false (by have := h1 m hm (by omega); omega)⟩
  · have : j = l.length := by omega
    subst this
    exact List.findIdx_eq_length_of_false fun x hx => by
      obtain ⟨m, hm, rfl⟩ := List.getElem_of_mem hx
      exact decide_eq_false (by have := h1 m hm hm; omega)

theorem ref20_AddBackend (h : RefAt w p t X) (hs : Small X) (id : Int) (b : Bk) (hp : 0 ≤ b.port) : Ret Try.prog F.ref20_Farm_AddBackend #[.pointer (some ⟨p, 0, none⟩), .int .i64 id, .agg b.c.toArray] w (fun v w' => RStep p t X w (addBackend (X.map SM.ab) id b) v w') := by
  refine W.ref20_Farm_AddBackend_ok (some ⟨p, 0, none⟩) id _ w _ ?_
  unfold W.ref20_Farm_AddBackend
  have hlX := hs.len
  have hlen : t.len = X.length := (h.svL hs).len
  refine nxVar (vs := b.c) rfl fun w1 hv hx1 hs1 => (ref20_At (h.ext hx1).v ((h.ext hx1).svL hs) id).use ?_
  rintro _ _ ⟨rfl, rfl⟩
  rcases at_cases X id with ⟨i, hi, e, hid⟩ | ⟨e, hno⟩
  rotate_left
  · rw [e]
    have ed : addBackend (X.map SM.ab) id b = (6, X.map SM.ab) := by
      unfold addBackend
      rw [add_none fun y hy => by obtain ⟨x, hx, rfl⟩ := List.mem_map.1 hy; exact hno x hx]
    refine ⟨_, rfl, fun _ => ?_, fun hc => by have := of_decide_eq_false hc; omega⟩
    rw [ed]; exact RStep.same h hx1 rfl
  rw [e]
  refine ⟨_, rfl, fun hc => ?_, fun hc => nx ?_⟩
  · have := of_decide_eq_true hc; omega
  subst hid
  obtain ⟨x, hxe⟩ : ∃ x, x = X[i] := ⟨_, rfl⟩
  have hxm : x ∈ X := by rw [hxe]; exact List.getElem_mem _
  have hab : addBackend (X.map SM.ab) (X[i]).s.id b = if canB x.s b then if hasB x.bs b.id then (7, X.map SM.ab) else if x.bs.length ≥ 16 then (2, X.map SM.ab) else (0, updL (X.map SM.ab) (X[i]).s.id (insB b)) else (1, X.map SM.ab) := by
    unfold addBackend
    rw [hs.find hi, ← hxe]
  have hd5 : Ext w1 w1.drew := Chg.drew (.refl _ _)
  have hX5 := Ext.trans hx1 hd5
  have h5 := h.ext hX5
  obtain ⟨A, hA, hbd, hrd, _⟩ := (h5.svL hs).row hi
  rw [← hxe] at hrd
  refine ⟨_, rfl, id, t, h5.v.cell, A, hA, hbd, id, _, hrd, id, _, (hv.ext hd5).rd (Bk.c_length _), (ref20_Can x.s x.k b hp _).use ?_⟩
  rintro _ w11 ⟨rfl, hx11⟩
  refine ⟨_, rfl, fun hc => ?_, fun hc => nx ?_⟩
  · have hc : canB x.s b = false := by simpa using hc
    rw [hab, hc]; exact RStep.same h (Ext.trans hX5 hx11) rfl
  have hc : canB x.s b = true := by simpa using hc
  have hd14 : Ext w11 w11.drew := Chg.drew (.refl _ _)
  have hX14 := Ext.trans hX5 (Ext.trans hx11 hd14)
  have h14 := h.ext hX14
  have hv14 := hv.ext (Ext.trans hd5 (Ext.trans hx11 hd14))
  obtain ⟨A, hA, hbd, hrd, _⟩ := (h14.svL hs).row hi
  rw [← hxe] at hrd
  have hbs16 := hs.few x hxm
  refine ⟨_, rfl, id, t, h14.v.cell, A, hA, hbd, id, _, hrd, id, _, (bcell hv14).1, (ref20_Has x.s x.k (h14.o.k x hxm).src (by omega) b.id).use ?_⟩
  rintro _ w20 ⟨rfl, hx20⟩
  have hX20 := Ext.trans hX14 hx20
  have h20 := h.ext hX20
  have hv20 := hv14.ext hx20
  rcases idx_has (l := x.bs) b.id with ⟨hb, m, hm, em, _⟩ | ⟨hb, em⟩
  · rw [em]
    refine ⟨_, rfl, fun _ => ?_, fun hc => by have := of_decide_eq_false hc; omega⟩
    rw [hab, if_pos hc, if_pos hb]; exact RStep.same h hX20 rfl
  rw [em]
  refine ⟨_, rfl, fun hc => absurd (of_decide_eq_true hc) (by decide), fun _ => ?_⟩
  obtain ⟨A, hA, hbd, _, hrk⟩ := (h20.svL hs).row hi
  rw [← hxe] at hrk
  have hkl : x.k.len = x.bs.length := BR.len (h20.o.k x hxm).src
  refine ⟨_, rfl, t, h20.v.cell, A, hA, hbd, x.k, hrk, fun hg => ?_, fun hg => ?_⟩
  · have hg := of_decide_eq_true hg
    rw [hab, if_pos hc, hb, if_neg (by simp), if_pos (by omega)]; exact RStep.same h hX20 rfl
  have hg := of_decide_eq_false hg
  have hab' : addBackend (X.map SM.ab) (X[i]).s.id b = (0, updL (X.map SM.ab) (X[i]).s.id (insB b)) := by rw [hab, if_pos hc, hb, if_neg (by simp), if_neg (by omega)]
  -- the row of backends, built anew
  have fin : ∀ (j : Nat) (w0 w3 : World) (u : Sl), Ext w w0 → posB x.bs b.id = j → Fr 21 Ty.api_Backend w0 w3 u (bksC (x.bs.take j) ++ b.c ++ bksC (x.bs.drop j)) →
      ∃ A : Addr, t.a = some A ∧ ((0 : Int) ≤ (i : Int) ∧ (i : Int) < ((t.len : Nat) : Int)) ∧ (∃ u : Value, w3.cell? ((A.add (Int.toNat (i : Int) * 23)).add 22) = some u) ∧ w3.frozen? ((A.add (Int.toNat (i : Int) * 23)).add 22) = false ∧
      Nx (w3.setCell ((A.add (Int.toNat (i : Int) * 23)).add 22) (.slice u.a u.len u.cap)) fun w' => RStep p t X w (addBackend (X.map SM.ab) (X[i]).s.id b) (.int .i64 0) w' := by
    intro j w0 w3 u hX0 hj hF
    have ho : OwnS 21 Ty.api_Backend w3 u (bksC (insB b x.bs)) := by
      unfold insB
      rw [hj, bksC_app, bksC_app, bksC_one]; exact hF.o
    refine h.mod hi (Ext.trans hX0 hF.x) ho (fun q hq => Nat.le_trans hX0.size (hF.f q hq)) fun w' r1 r2 r3 => ?_
    rw [hab']
    refine ⟨rfl, _, _, r1, ?_, r2, r3⟩
    rw [hxe]; exact hs.upd hi u (insB b)
  have cuts : ∀ (j : Nat) (w0 : World), Ext w20 w0 → j ≤ x.bs.length → Src 21 w0 ⟨cutA x.k.a 21 0 x.k.cap, j - 0, x.k.cap - 0⟩ (bksC (x.bs.take j)) ∧ Src 21 w0 ⟨cutA x.k.a 21 j x.k.cap, x.k.len - j, x.k.cap - j⟩ (bksC (x.bs.drop j)) := by
    intro j w0 hx0 hj
    have hk := (h20.o.k x hxm).ext hx0
    have c1 := Src.cut hk.src hk.2.1 (lo := 0) (hi := j) (Nat.zero_le _) (by omega)
    have c2 := Src.cut hk.src hk.2.1 (lo := j) (hi := x.k.len) (by omega) (Nat.le_refl _)
    rw [Nat.zero_mul, List.drop_zero, Nat.sub_zero, bksC_take] at c1
    rw [bksC_drop, List.take_of_length_le (by rw [bksC_length, List.length_drop]; omega)] at c2
    exact ⟨c1, c2⟩
  refine ⟨fun n w' => ∃ j : Nat, n = j ∧ j ≤ x.bs.length ∧ Ext w20 w' ∧ ∀ (m : Nat) (hm : m < j) (h : m < x.bs.length), (x.bs[m]).id < b.id, fun n _ => ((x.bs.length : Int) - n).toNat, ⟨0, rfl, Nat.zero_le _, .refl _ _, fun m hm => by omega⟩, ?_⟩
  rintro _ w30 ⟨j, rfl, hj, hx30, hlo⟩
  have hd31 : Ext w30 w30.drew := Chg.drew (.refl _ _)
  have hx31 := Ext.trans hx30 hd31
  have hd35 : Ext w30.drew w30.drew.drew := Chg.drew (.refl _ _)
  have hx35 := Ext.trans hx31 hd35
  have hX35 := Ext.trans hX20 hx35
  have h35 := h.ext hX35
  have hv35 := hv20.ext hx35
  have hcap : x.k.len ≤ x.k.cap := (h20.o.k x hxm).2.1
  have n1 : ¬ w30.drew.drew.heap.size ≤ p := by have := h35.v.lt; omega
  have n2 : ¬ w30.drew.drew.heap.size ≤ w.heap.size := by have := hv35.lt; omega
  have hx24 : ((x.k.len : Nat) : Int) < 16 := by omega
  refine nx ⟨fun hlt => ?_, fun hge => ⟨fun hf => by simp at hf, fun _ => nx ?_⟩⟩
  · have hlt : j < x.bs.length := by have := of_decide_eq_true hlt; omega
    obtain ⟨B, hB, hbd2, hrd2⟩ := BR.get ((h20.o.k x hxm).ext hx31).src hlt
    have hcl := rdGet hrd2 (j := 0) (v := .int .i64 (x.bs[j]).id) rfl
    rw [Nat.add_zero, add_zero'] at hcl
    have ew : IntKind.wrap .i64 ((j : Int) + 1) = ((j + 1 : Nat) : Int) := by rw [wrapi (by omega) (by omega)]; rfl
    have hms : ((x.bs.length : Int) - ((j + 1 : Nat) : Int)).toNat < ((x.bs.length : Int) - (j : Int)).toNat := by omega
    refine ⟨B, hB, hbd2, id, _, hcl, id, _, (bcell (hv20.ext hx31)).1, fun hl => ?_, fun hl => nx ?_⟩
    · rw [ew]
      have hl := of_decide_eq_true hl
      refine ⟨⟨j + 1, rfl, hlt, hx31, fun m hm h3 => ?_⟩, hms⟩
      rcases Nat.lt_or_ge m j with h4 | h4
      · exact hlo m h4 h3
      · have : m = j := by omega
        subst this; exact hl
    · have hl := of_decide_eq_false hl
      have hpos : posB x.bs b.id = j := posB_is hj hlo fun _ => by omega
      obtain ⟨c1, c2⟩ := cuts j _ hx35 hj
      exact ⟨fun q => w30.drew.drew.heap.size ≤ q, _, rfl, n1, t, h35.v.cell, ⟨by omega, by omega⟩, n2, _, hv35.rd (Bk.c_length _), ⟨by omega, by omega⟩,
        ins_chain appBk buildBk0 (fun w => buildBk b w) (Bk.c_length _) c1 c2 b.plain (bksC_plain _) (bksC_plain _) (by dsimp only; omega) fun u w3 hF => fin j _ w3 u hX35 hpos hF⟩
  · have hj' : j = x.bs.length := by have := of_decide_eq_false hge; omega
    have hpos : posB x.bs b.id = j := posB_is hj hlo fun h3 => by omega
    obtain ⟨c1, c2⟩ := cuts j _ hx35 hj
    exact ⟨fun q => w30.drew.drew.heap.size ≤ q, _, rfl, n1, t, h35.v.cell, ⟨by omega, by omega⟩, n2, _, hv35.rd (Bk.c_length _), ⟨by omega, by omega⟩,
      ins_chain appBk buildBk0 (fun w => buildBk b w) (Bk.c_length _) c1 c2 b.plain (bksC_plain _) (bksC_plain _) (by dsimp only; omega) fun u w3 hF => fin j _ w3 u hX35 hpos hF⟩

end Go.Proofs.Ytldeegpcldhjaaa
