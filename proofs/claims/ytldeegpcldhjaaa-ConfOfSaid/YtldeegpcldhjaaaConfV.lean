/- The reference's farm: a service less, a backend more, a backend turned. -/
import Derived.Test.YtldeegpcldhjaaaConfU
namespace Go.Proofs.Ytldeegpcldhjaaa
open Go Gx
variable {w w' : World} {p : Nat} {t : Sl} {X : List SM}

theorem at_split {i : Nat} (hi : i < X.length) : X = X.take i ++ X[i] :: X.drop (i + 1) := by
  conv => lhs; rw [← List.take_append_drop i X, List.drop_eq_getElem_cons hi]
theorem Small.alone (h : Small X) {i : Nat} (hi : i < X.length) : Alone ((X.take i).map SM.ab) ((X.drop (i + 1)).map SM.ab) (X[i]).s.id := by
  refine ⟨fun y hy => ?_, fun y hy => ?_⟩
  · obtain ⟨x, hx, rfl⟩ := List.mem_map.1 hy
    obtain ⟨j, hj, rfl⟩ := List.getElem_of_mem hx
    rw [List.getElem_take]
    rw [List.length_take] at hj
    have := h.lt (i := j) (j := i) (by omega) hi
    show (X[j]).s.id ≠ _
    omega
  · obtain ⟨x, hx, rfl⟩ := List.mem_map.1 hy
    obtain ⟨j, hj, rfl⟩ := List.getElem_of_mem hx
    rw [List.getElem_drop]
    rw [List.length_drop] at hj
    have := h.lt (i := i) (j := i + 1 + j) (by omega) (by omega)
    show (X[i + 1 + j]).s.id ≠ _
    omega
theorem abs_split {i : Nat} (hi : i < X.length) : X.map SM.ab = (X.take i).map SM.ab ++ ((X[i]).s, (X[i]).bs) :: (X.drop (i + 1)).map SM.ab := by
  conv => lhs; rw [at_split hi]
  rw [List.map_append, List.map_cons]; rfl
theorem Small.upd (h : Small X) {i : Nat} (hi : i < X.length) (k : Sl) (g : List Bk → List Bk) :
    (X.take i ++ ⟨(X[i]).s, k, g (X[i]).bs⟩ :: X.drop (i + 1)).map SM.ab = updL (X.map SM.ab) (X[i]).s.id g := by
  rw [abs_split hi, upd_mid (h.alone hi), List.map_append, List.map_cons]; rfl
theorem Small.find (h : Small X) {i : Nat} (hi : i < X.length) : (X.map SM.ab).find? (fun x => x.1.id == (X[i]).s.id) = some ((X[i]).s, (X[i]).bs) := by
  rw [abs_split hi, find_mid (h.alone hi)]
theorem Small.has (h : Small X) {i : Nat} (hi : i < X.length) (bid : Int) : hasSB (X.map SM.ab) (X[i]).s.id bid = hasB (X[i]).bs bid := by
  rw [abs_split hi, has_mid (h.alone hi)]
/-- Where a service is. -/
theorem at_cases (X : List SM) (id : Int) : (∃ (i : Nat) (h : i < X.length), idxG (fun x : SM => x.s.id == id) X = i ∧ (X[i]).s.id = id) ∨ (idxG (fun x : SM => x.s.id == id) X = -1 ∧ ∀ x ∈ X, x.s.id ≠ id) := by
  rcases idxG_cases (fun x : SM => x.s.id == id) X with ⟨i, h, h1, h2⟩ | ⟨h1, h2⟩
  · exact .inl ⟨i, h, h1, by simpa using List.find?_some h2⟩
  · exact .inr ⟨h1, fun x hx e => List.find?_eq_none.1 h2 x hx (by simpa using e)⟩

/-- One service's backends are laid anew. -/
theorem RefAt.mod (h : RefAt w p t X) {w1 : World} {i : Nat} (hi : i < X.length) (hx : Ext w w1) {k : Sl} {bs : List Bk} (ho : OwnS 21 Ty.api_Backend w1 k (bksC bs)) (hf : ∀ q, ownB k q → w.heap.size ≤ q) {K : World → Prop}
    (hK : ∀ w', RefAt w' p t (X.take i ++ ⟨(X[i]).s, k, bs⟩ :: X.drop (i + 1)) → Chg (rfoot p t X) w w' → (∀ q, rfoot p t (X.take i ++ ⟨(X[i]).s, k, bs⟩ :: X.drop (i + 1)) q → rfoot p t X q ∨ w.heap.size ≤ q) → K w') :
    ∃ A : Addr, t.a = some A ∧ ((0 : Int) ≤ (i : Int) ∧ (i : Int) < ((t.len : Nat) : Int)) ∧ (∃ u : Value, w1.cell? ((A.add (Int.toNat (i : Int) * 23)).add 22) = some u) ∧ w1.frozen? ((A.add (Int.toNat (i : Int) * 23)).add 22) = false ∧
      Nx (w1.setCell ((A.add (Int.toNat (i : Int) * 23)).add 22) (.slice k.a k.len k.cap)) K := by
  have h1 := h.ext hx
  have hl : t.len = X.length := by have := h.o.o.1; rw [smC_length] at this; omega
  obtain ⟨e1, e2, e3, e4⟩ := h1.o.o
  rcases e4 with ⟨_, hc⟩ | ⟨b, c, hba, hblk, hcs, hv⟩
  · omega
  have ha : ((Addr.mk b 0 none).add (Int.toNat (i : Int) * 23)).add 22 = ⟨b, i * 23 + 22, none⟩ := by rw [Int.toNat_natCast, add_mk, add_mk, Nat.zero_add]
  have hsz : i * 23 + 22 < c.size := by rw [hcs]; omega
  have hbt : ownB t b := ⟨_, hba, rfl⟩
  refine ⟨_, hba, ⟨by omega, by omega⟩, ?_, ?_, ?_⟩
  · rw [ha, hblk.cell]; exact ⟨c[i * 23 + 22], by simp [hsz]⟩
  · rw [ha]; exact hblk.frozen _ rfl
  · rw [ha]
    refine nx_stores hblk fun w2 hb2 hc2 _ => hK w2 ⟨h1.v.chg hc2 fun e => ?_, ?_, fun y hy => ?_⟩ ?_ fun q hq => ?_
    · exact h1.np (.inl hbt) e.symm
    · have hlen : (X.take i ++ ⟨(X[i]).s, k, bs⟩ :: X.drop (i + 1)).length = X.length := by simp; omega
      refine ⟨by rw [smC_length, hlen, hl], e2, e3, .inr ⟨b, _, hba, hb2, by simpa using hcs, ?_⟩⟩
      rw [Array.toList_setIfInBounds, List.take_set, hv]
      have e : smC X = smC (X.take i) ++ ((X[i]).s.c (X[i]).k ++ smC (X.drop (i + 1))) := by
        conv => lhs; rw [at_split hi, smC_app, smC_cons]
      have ht : (smC (X.take i)).length = i * 23 := by rw [smC_length, List.length_take, Nat.min_eq_left (by omega)]
      rw [e, List.set_append_right _ _ (by omega), ht, show i * 23 + 22 - i * 23 = 22 by omega, List.set_append_left _ _ (by rw [Sv.c_length]; decide), Sv.set22, smC_app, smC_cons]
    · have hk2 : ∀ (k : Sl) (l : List Bk), OwnS 21 Ty.api_Backend w1 k (bksC l) → OwnS 21 Ty.api_Backend w2 k (bksC l) := fun k l hk => hk.chg hc2 fun q hq e => by
        subst e
        exact absurd (hk.notVar hq hblk) (by decide)
      rcases List.mem_append.1 hy with hy | hy
      · exact hk2 _ _ (h1.o.k y (List.mem_of_mem_take hy))
      · rcases List.mem_cons.1 hy with rfl | hy
        · exact hk2 _ _ ho
        · exact hk2 _ _ (h1.o.k y (List.mem_of_mem_drop hy))
    · exact (Chg.of_ext hx).trans (hc2.mono fun q _ e => by subst e; exact .inr (.inl hbt))
    · rcases hq with rfl | hq | ⟨y, hy, hq⟩
      · exact .inl (.inl rfl)
      · exact .inl (.inr (.inl hq))
      · rcases List.mem_append.1 hy with hy | hy
        · exact .inl (.inr (.inr ⟨y, List.mem_of_mem_take hy, hq⟩))
        · rcases List.mem_cons.1 hy with rfl | hy
          · exact .inr (hf q hq)
          · exact .inl (.inr (.inr ⟨y, List.mem_of_mem_drop hy, hq⟩))
/-- A service's row, read. -/
theorem SvL.row {w : World} {t : Sl} {X : List SM} (h : SvL w t X) {i : Nat} (hi : i < X.length) : ∃ A, t.a = some A ∧ ((0 : Int) ≤ (i : Int) ∧ (i : Int) < ((t.len : Nat) : Int)) ∧ rdCells w (A.add (Int.toNat (i : Int) * 23)) 0 23 = some ((X[i]).s.c (X[i]).k) ∧
    w.cell? ((A.add (Int.toNat (i : Int) * 23)).add 22) = some (.slice (X[i]).k.a (X[i]).k.len (X[i]).k.cap) := by
  obtain ⟨A, h1, h2, h3⟩ := h.get hi
  have := rdGet h3 (j := 22) (v := .slice (X[i]).k.a (X[i]).k.len (X[i]).k.cap) (by simp [Sv.c, List.getElem?_append, Ad.c_length])
  rw [Nat.zero_add] at this
  exact ⟨A, h1, h2, h3, this⟩

theorem ref20_DropService (h : RefAt w p t X) (hs : Small X) (id : Int) : Ret Try.prog F.ref20_Farm_DropService #[.pointer (some ⟨p, 0, none⟩), .int .i64 id] w (fun v w' => RStep p t X w (dropService (X.map SM.ab) id) v w') := by
  refine W.ref20_Farm_DropService_ok (some ⟨p, 0, none⟩) id w _ ?_
  unfold W.ref20_Farm_DropService
  have hlX := hs.len
  have hlen : t.len = X.length := (h.svL hs).len
  refine (ref20_At h.v (h.svL hs) id).use ?_
  rintro _ _ ⟨rfl, rfl⟩
  rcases at_cases X id with ⟨i, hi, e, hid⟩ | ⟨e, hno⟩
  · rw [e]
    refine ⟨_, rfl, fun hc => ?_, fun hc => nx ?_⟩
    · have := of_decide_eq_true hc; omega
    have hd : Ext w w.drew := Chg.drew (.refl _ _)
    have h4 := h.ext hd
    have hx11 : Ext w.drew (w.drew.alloc (.cells #[] Ty.api_Service)) := Chg.alloc (.refl _ _) _
    have ew : IntKind.wrap .i64 ((i : Int) + 1) = ((i + 1 : Nat) : Int) := by rw [wrapi (by omega) (by omega)]; rfl
    rw [ew]
    have hcap := h4.o.o.2.1
    have c1 := Src.cut h4.o.o.src hcap (lo := 0) (hi := i) (Nat.zero_le _) (by omega)
    have c2 := Src.cut h4.o.o.src hcap (lo := i + 1) (hi := t.len) (by omega) (Nat.le_refl _)
    rw [Nat.zero_mul, List.drop_zero, Nat.sub_zero, smC_take] at c1
    rw [smC_drop, List.take_of_length_le (by rw [smC_length, List.length_drop]; omega)] at c2
    have hnp : ¬ w.drew.heap.size ≤ p := by have := h4.v.lt; omega
    have f0 : Fr 23 Ty.api_Service w.drew (w.drew.alloc (.cells #[] Ty.api_Service)) ⟨some ⟨w.drew.heap.size, 0, none⟩, 0, 0⟩ [] := ⟨OwnS.new _ [] 0 rfl (by decide), hx11, fun q hq => by rw [ownB_some] at hq; exact Nat.le_of_eq hq⟩
    obtain ⟨s12, w13, g1, g2, g3, g4, _, _⟩ := Fr.app (oT := Ty.Sl_api_Service) appSv f0 (c1.ext hx11) (smC_plain _) (by simp only; omega)
    rw [List.nil_append] at g3
    obtain ⟨s14, w15, k1, k2, k3, _, _, _⟩ := Fr.app (oT := Ty.Sl_api_Service) appSv g3 (c2.ext g3.x) (smC_plain _) (by simp only at g4 ⊢; omega)
    refine ⟨fun q => w.drew.heap.size ≤ q, _, rfl, hnp, t, h4.v.cell, ⟨by omega, by omega⟩, _, rfl, hnp, t, h4.v.cell, ⟨by omega, by omega⟩,
      ⟨some ⟨w.drew.heap.size, 0, none⟩, 0, 0⟩, _, buildSv0 _, Chg.of_ext hx11, s12, w13, g1, g2, s14, w15, k1, k2, _, rfl, ?_⟩
    have hx15 := Ext.trans hd k3.x
    have hY : OwnSv w15 s14 (X.take i ++ X.drop (i + 1)) := ⟨by rw [smC_app]; exact k3.o, fun y hy => (h4.o.k y ((List.mem_append.1 hy).elim List.mem_of_mem_take List.mem_of_mem_drop)).ext k3.x⟩
    have ed : dropService (X.map SM.ab) id = (0, (X.take i ++ X.drop (i + 1)).map SM.ab) := by
      subst hid
      have ha := hs.alone hi
      unfold dropService
      rw [abs_split hi, if_pos (List.any_eq_true.2 ⟨((X[i]).s, (X[i]).bs), by simp, by simp⟩), List.filter_append, List.filter_cons_of_neg (by simp),
        List.filter_eq_self.2 (fun y hy => by have := ha.1 y hy; simpa using this), List.filter_eq_self.2 (fun y hy => by have := ha.2 y hy; simpa using this), List.map_append]
    rw [ed]
    refine h.put hx15 hY (fun q hq => ?_) fun w17 r1 r2 r3 => ⟨rfl, _, _, r1, rfl, r2, r3⟩
    rcases hq with hq | ⟨y, hy, hq⟩
    · exact .inr (k3.f q hq)
    · exact .inl (.inr ⟨y, (List.mem_append.1 hy).elim List.mem_of_mem_take List.mem_of_mem_drop, hq⟩)
  · rw [e]
    have ed : dropService (X.map SM.ab) id = (6, X.map SM.ab) := by
      unfold dropService
      rw [if_neg]
      intro hh
      obtain ⟨y, hy, hy2⟩ := List.any_eq_true.1 hh
      obtain ⟨x, hx, rfl⟩ := List.mem_map.1 hy
      have hy3 : (x.s.id == id) = true := hy2
      exact hno x hx (beq_iff_eq.1 hy3)
    refine ⟨_, rfl, fun _ => ?_, fun hc => by have := of_decide_eq_false hc; omega⟩
    rw [ed]; exact RStep.same h (.refl _ _) rfl

end Go.Proofs.Ytldeegpcldhjaaa
