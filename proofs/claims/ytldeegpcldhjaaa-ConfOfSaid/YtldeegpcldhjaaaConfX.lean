/- The reference's farm: a backend turned. -/
import Derived.Test.YtldeegpcldhjaaaConfW
namespace Go.Proofs.Ytldeegpcldhjaaa
open Go Gx
variable {w w' : World} {p : Nat} {t : Sl} {X : List SM}

def turnB (bid what weight : Int) (bs : List Bk) : List Bk :=
  if (what == 0) = true then delB bid bs else if (what == 3) = true then modB bid (fun b => { b with weight := weight }) bs
  else if ((what == 1) || (what == 2)) = true then modB bid (fun b => { b with drained := what == 1 }) bs else bs
def turnL (L : List SB) (sid bid what weight : Int) : Int × List SB :=
  if hasSB L sid bid then if ((what == 3) && !weightOk weight) = true then (1, L) else (0, updL L sid (turnB bid what weight)) else (6, L)
theorem turn_drop (L : List SB) (sid bid : Int) : turnL L sid bid 0 0 = dropBackend L sid bid := by
  unfold turnL dropBackend
  split <;> rfl
theorem turn_on (L : List SB) (sid bid : Int) : turnL L sid bid 1 0 = drain L sid bid true := by
  unfold turnL drain
  split <;> rfl
theorem turn_off (L : List SB) (sid bid : Int) : turnL L sid bid 2 0 = drain L sid bid false := by
  unfold turnL drain
  split <;> rfl
theorem turn_weigh (L : List SB) (sid bid n : Int) : turnL L sid bid 3 n = weigh L sid bid n := by
  unfold turnL weigh
  split
  · cases hw : weightOk n
    · rfl
    · rfl
  · rfl

theorem ref20_Turn (h : RefAt w p t X) (hs : Small X) (id bid what weight : Int) : Ret Try.prog F.ref20_Farm_Turn #[.pointer (some ⟨p, 0, none⟩), .int .i64 id, .int .i64 bid, .int .i64 what, .int .i64 weight] w (fun v w' => RStep p t X w (turnL (X.map SM.ab) id bid what weight) v w') := by
  refine W.ref20_Farm_Turn_ok (some ⟨p, 0, none⟩) id bid what weight w _ ?_
  unfold W.ref20_Farm_Turn
  have hlX := hs.len
  have hlen : t.len = X.length := (h.svL hs).len
  refine (ref20_At h.v (h.svL hs) id).use ?_
  rintro _ _ ⟨rfl, rfl⟩
  rcases at_cases X id with ⟨i, hi, e, hid⟩ | ⟨e, hno⟩
  rotate_left
  · rw [e]
    have ed : turnL (X.map SM.ab) id bid what weight = (6, X.map SM.ab) := by
      unfold turnL
      rw [if_neg]
      unfold hasSB
      intro hh
      obtain ⟨y, hy, hy2⟩ := List.any_eq_true.1 hh
      obtain ⟨x, hx, rfl⟩ := List.mem_map.1 hy
      rw [Bool.and_eq_true] at hy2
      have hy3 : (x.s.id == id) = true := hy2.1
      exact hno x hx (beq_iff_eq.1 hy3)
    refine ⟨_, rfl, fun _ => ?_, fun hc => by have := of_decide_eq_false hc; omega⟩
    rw [ed]; exact RStep.same h (.refl _ _) rfl
  rw [e]
  refine ⟨_, rfl, fun hc => by have := of_decide_eq_true hc; omega, fun _ => ?_⟩
  subst hid
  obtain ⟨x, hxe⟩ : ∃ x, x = X[i] := ⟨_, rfl⟩
  have hxm : x ∈ X := by rw [hxe]; exact List.getElem_mem _
  have hab : turnL (X.map SM.ab) (X[i]).s.id bid what weight = if hasB x.bs bid then if ((what == 3) && !weightOk weight) = true then (1, X.map SM.ab) else (0, updL (X.map SM.ab) (X[i]).s.id (turnB bid what weight)) else (6, X.map SM.ab) := by
    unfold turnL
    rw [hs.has hi, ← hxe]
  have hbs16 := hs.few x hxm
  obtain ⟨A, hA, hbd, hrd, _⟩ := (h.svL hs).row hi
  rw [← hxe] at hrd
  refine ⟨_, rfl, t, h.v.cell, A, hA, hbd, _, hrd, (ref20_Has x.s x.k (h.o.k x hxm).src (by omega) bid).use ?_⟩
  rintro _ w8 ⟨rfl, hx8⟩
  have h8 := h.ext hx8
  rcases idx_has (l := x.bs) bid with ⟨hb, m, hm, em, hmid⟩ | ⟨hb, em⟩
  rotate_left
  · rw [em]
    refine ⟨_, rfl, fun _ => ?_, fun hc => absurd (of_decide_eq_false hc) (by decide)⟩
    rw [hab, hb]; exact RStep.same h hx8 rfl
  rw [em]
  have hwk : ((decide (weight < 0)) || (decide (weight > 10))) = !weightOk weight := by
    unfold weightOk
    rw [Bool.eq_iff_iff]; simp
  rw [hwk]
  refine ⟨_, rfl, fun hc => by have := of_decide_eq_true hc; omega, fun _ => ⟨fun hc => ?_, fun hc => ?_⟩⟩
  · rw [hab, if_pos hb, if_pos hc]; exact RStep.same h hx8 rfl
  have hab' : turnL (X.map SM.ab) (X[i]).s.id bid what weight = (0, updL (X.map SM.ab) (X[i]).s.id (turnB bid what weight)) := by rw [hab, if_pos hb, if_neg (by rw [hc]; simp)]
  have hrise := hs.rise x hxm
  have hpos : posB x.bs bid = m := posB_is (by omega) (fun j hj h1 => by rw [← hmid]; exact hrise.lt hj hm) fun _ => by omega
  have hx12 : Ext w8 (w8.alloc (.cells #[] Ty.api_Backend)) := Chg.alloc (.refl _ _) _
  have h12 := h8.ext hx12
  obtain ⟨A, hA, hbd, _, hrk⟩ := (h12.svL hs).row hi
  rw [← hxe] at hrk
  have hkl : x.k.len = x.bs.length := BR.len (h.o.k x hxm).src
  have f0 : Fr 21 Ty.api_Backend w8 (w8.alloc (.cells #[] Ty.api_Backend)) ⟨some ⟨w8.heap.size, 0, none⟩, 0, 0⟩ [] := ⟨OwnS.new _ [] 0 rfl (by decide), hx12, fun q hq => by rw [ownB_some] at hq; exact Nat.le_of_eq hq⟩
  obtain ⟨s17, w18, g1, _, g3, g4, _, _⟩ := Fr.app (oT := Ty.Sl_api_Backend) appBk f0 (h12.o.k x hxm).src (bksC_plain _) (by dsimp only; omega)
  rw [List.nil_append] at g3
  have hl17 : s17.len = x.bs.length := by dsimp only at g4; omega
  have hf17 : ∀ q, ownB s17 q → w.heap.size ≤ q := fun q hq => Nat.le_trans hx8.size (g3.f q hq)
  have hX18 : Ext w w18 := Ext.trans hx8 g3.x
  refine ⟨⟨some ⟨w8.heap.size, 0, none⟩, 0, 0⟩, _, buildBk0 _, _, rfl, t, h12.v.cell, A, hA, hbd, x.k, hrk, s17, w18, g1, ?_⟩
  refine Jn0 (fun w' => Ext w w' ∧ OwnS 21 Ty.api_Backend w' s17 (bksC (if ((what == 1) || (what == 2)) = true then modB bid (fun b => { b with drained := what == 1 }) x.bs else x.bs))) (fun q hq => ⟨fun h12 => ?_, fun h12 => hq _ ⟨hX18, by rw [h12]; exact g3.o⟩⟩) ?_
  · obtain ⟨B, hB, hbd2, hc2, hf2, ho2, hch2⟩ := bk_field g3.o hm (by decide : 20 < 21) (Bk.setD _ (what == 1))
    refine ⟨B, hB, hbd2, hc2, hf2, nx (hq _ ⟨Ext.of_new hX18 hch2 hf17, ?_⟩)⟩
    rw [if_pos h12, modB_split (by omega)]
    simp only [hpos]
    exact ho2
  rintro w22 ⟨hX22, ho22⟩
  refine Jn0 (fun w' => Ext w w' ∧ OwnS 21 Ty.api_Backend w' s17 (bksC (if (what == 3) = true then modB bid (fun b => { b with weight := weight }) x.bs else if ((what == 1) || (what == 2)) = true then modB bid (fun b => { b with drained := what == 1 }) x.bs else x.bs)))
    (fun q hq => ⟨fun h3 => ?_, fun h3 => hq _ ⟨hX22, by rw [h3]; exact ho22⟩⟩) ?_
  · have h3' : what = 3 := by simpa using h3
    rw [if_neg (by rw [h3']; decide)] at ho22
    obtain ⟨B, hB, hbd2, hc2, hf2, ho2, hch2⟩ := bk_field ho22 hm (by decide : 19 < 21) (Bk.setW _ weight)
    refine ⟨B, hB, hbd2, hc2, hf2, nx (hq _ ⟨Ext.of_new hX22 hch2 hf17, ?_⟩)⟩
    rw [if_pos h3, modB_split (by omega)]
    simp only [hpos]
    exact ho2
  rintro w26 ⟨hX26, ho26⟩
  refine Jn1 (fun (s : Sl) w' => Ext w w' ∧ OwnS 21 Ty.api_Backend w' s (bksC (turnB bid what weight x.bs)) ∧ ∀ q, ownB s q → w.heap.size ≤ q) (fun q hq => ⟨fun h0 => nx ?_, fun h0 => hq _ _ ⟨hX26, by unfold turnB; rw [h0]; exact ho26, hf17⟩⟩) ?_
  · have h0' : what = 0 := by simpa using h0
    rw [if_neg (by rw [h0']; decide), if_neg (by rw [h0']; decide)] at ho26
    have hd : Ext w26 w26.drew := Chg.drew (.refl _ _)
    have ho28 := ho26.ext hd
    have ew : IntKind.wrap .i64 ((m : Int) + 1) = ((m + 1 : Nat) : Int) := by rw [wrapi (by omega) (by omega)]; rfl
    rw [ew]
    have hcap := ho28.2.1
    have hh := OwnS.head ho28 (n := m) (by omega)
    have c2 := Src.cut ho28.src hcap (lo := m + 1) (hi := s17.len) (by omega) (Nat.le_refl _)
    rw [bksC_take] at hh
    rw [bksC_drop, List.take_of_length_le (by rw [bksC_length, List.length_drop]; omega)] at c2
    obtain ⟨s29, w30, k1, k2, k3, k4, k5⟩ := appBk.append (oT := Ty.Sl_api_Backend) c2 hh (bksC_plain _) (by dsimp only; omega)
    refine ⟨⟨by omega, by omega⟩, ⟨by omega, by omega⟩, s29, w30, k1, hq _ _ ⟨Ext.of_new (Ext.trans hX26 hd) k4 fun q hq => hf17 q (head_own.1 hq), ?_, fun q hq => ?_⟩⟩
    · unfold turnB delB
      rw [if_pos h0, hpos, bksC_app]; exact k2
    · rcases k5 q hq with h1 | h1
      · exact hf17 q (head_own.1 h1)
      · have := hX26.size
        exact Nat.le_trans this h1
  rintro s31 w32 ⟨hX32, ho32, hf32⟩
  refine ⟨_, rfl, t, (h.ext hX32).v.cell, h.mod hi hX32 ho32 hf32 fun w' r1 r2 r3 => ?_⟩
  rw [hab']
  refine ⟨rfl, _, _, r1, ?_, r2, r3⟩
  rw [hxe]; exact hs.upd hi s31 (turnB bid what weight)

end Go.Proofs.Ytldeegpcldhjaaa
