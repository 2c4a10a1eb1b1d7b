/- The farm: AddService, DropService. -/
import Derived.Test.YtldeegpcldhjaaaConfC
namespace Go.Proofs.Ytldeegpcldhjaaa
open Go Gx

/-! ### Lists by rising keys -/
section
variable {α β : Type}
def insBy (f : α → Int) (x : α) (l : List α) : List α := l.filter (fun y => decide (f y < f x)) ++ x :: l.filter (fun y => decide (f x < f y))
theorem insBy_map (f : α → Int) (g : β → Int) (h : α → β) (hf : ∀ x, g (h x) = f x) (x : α) (l : List α) : (insBy f x l).map h = insBy g (h x) (l.map h) := by
  unfold insBy
  rw [List.map_append, List.map_cons, List.filter_map, List.filter_map]
  simp only [Function.comp_def, hf]
theorem insBy_perm (f : α → Int) (x : α) : ∀ l : List α, (∀ y ∈ l, f y ≠ f x) → (insBy f x l).Perm (x :: l)
  | l, h => by
    unfold insBy
    refine List.perm_middle.trans (List.Perm.cons _ ?_)
    have e : l.filter (fun y => decide (f x < f y)) = l.filter (fun y => !decide (f y < f x)) := by
      apply List.filter_congr
      intro y hy
      have := h y hy
      rw [Bool.eq_iff_iff]
      simp
      omega
    rw [e]
    exact List.filter_append_perm _ _
theorem insBy_mem {f : α → Int} {x y : α} {l : List α} (h : y ∈ insBy f x l) : y = x ∨ y ∈ l := by
  unfold insBy at h
  rcases List.mem_append.1 h with h | h
  · exact .inr (List.mem_filter.1 h).1
  · rcases List.mem_cons.1 h with h | h
    · exact .inl h
    · exact .inr (List.mem_filter.1 h).1
theorem insBy_ids {f : α → Int} {x : α} {l : List α} (h : l.Pairwise fun a b => f a < f b) : (insBy f x l).Pairwise fun a b => f a < f b := by
  unfold insBy
  rw [List.pairwise_append, List.pairwise_cons]
  refine ⟨h.filter _, ⟨fun y hy => ?_, h.filter _⟩, fun a ha b hb => ?_⟩
  · exact of_decide_eq_true (List.mem_filter.1 hy).2
  · have h1 : f a < f x := of_decide_eq_true (List.mem_filter.1 ha).2
    rcases List.mem_cons.1 hb with rfl | hb
    · exact h1
    · have h2 : f x < f b := of_decide_eq_true (List.mem_filter.1 hb).2
      omega
theorem insBy_len {f : α → Int} {x : α} {l : List α} (h : ∀ y ∈ l, f y ≠ f x) : (insBy f x l).length = l.length + 1 := by
  rw [(insBy_perm f x l h).length_eq]; simp
end

variable {w w' : World} {fm : Fm} {R : List Rec} {r : Rec}

/-- What AddService tells. -/
def addSE (R : List Rec) (s : Sv) (k : Sl) : Int := if mayS s k then if hasId R s.id || hasDoor R s.door then 7 else if R.length ≥ 8 then 2 else 0 else 1

theorem Sv.plain (s : Sv) (k : Sl) : ∀ v ∈ s.c k, Plain v := by
  intro v hv
  rcases List.mem_cons.1 hv with rfl | hv
  · trivial
  rcases List.mem_append.1 hv with hv | hv
  · exact s.addr.plain v hv
  · simp only [List.mem_cons, List.not_mem_nil, or_false] at hv
    rcases hv with rfl | rfl | rfl | rfl | rfl <;> trivial
theorem Sv.set22 (s : Sv) (k k' : Sl) : (s.c k).set 22 (.slice k'.a k'.len k'.cap) = s.c k' := by
  unfold Sv.c
  rw [List.set_cons_succ, List.set_append_right _ _ (by rw [Ad.c_length]; decide), Ad.c_length]
  rfl
/-- A cell of a variable, laid anew. -/
theorem Var.set {b i : Nat} {vs : List Value} {T : TypeId} (h : Var w b vs T) (v : Value) : Var (w.setCell ⟨b, i, none⟩ v) b (vs.set i v) T := by
  have := Blk.set h i v
  rwa [show vs.toArray.setIfInBounds i v = (vs.set i v).toArray by simp] at this
theorem nxSet {b i : Nat} {vs : List Value} {T : TypeId} {v : Value} (hv : Var w b vs T) {K : World → Prop} (h : ∀ w', Var w' b (vs.set i v) T → Chg (fun q => q = b) w w' → w'.heap.size = w.heap.size → K w') : Nx (w.setCell ⟨b, i, none⟩ v) K :=
  h _ (hv.set v) (Chg.set (W := fun q => q = b) (A := ⟨b, i, none⟩) (.refl _ _) (fun _ => rfl) v) (by simp [World.setCell])

theorem farm_AddService (h : FarmAt w fm R) (s : Sv) (k : Sl) : Ret Try.prog F.farm_Farm_AddService #[.pointer (some ⟨fm.p, 0, none⟩), .agg (s.c k).toArray] w
    (fun v w' => v = .int .i64 (addSE R s k) ∧ ((addSE R s k ≠ 0 ∧ FarmAt w' fm R ∧ Ext w w') ∨ (addSE R s k = 0 ∧ ∃ b, w.heap.size ≤ b ∧ FarmAt w' fm (insBy (fun x => x.s.id) ⟨s, [], b, ⟨none, 0, 0⟩⟩ R) ∧ Chg (foot fm R) w w'))) := by
  refine W.farm_Farm_AddService_ok (some ⟨fm.p, 0, none⟩) _ w _ ?_
  unfold W.farm_Farm_AddService
  refine nxVar (vs := s.c k) rfl fun w1 hv hx1 _ => Jn1 (fun b w' => Ext w1 w' ∧ b = !mayS s k) (fun q hq => ⟨fun h => by simp at h, fun _ => ⟨_, hv.rd (Sv.c_length _ _), (farm_may s k w1).use ?_⟩⟩) ?_
  · rintro _ w4 ⟨rfl, hx4⟩
    exact ⟨_, rfl, hq _ _ ⟨hx4, rfl⟩⟩
  rintro _ w8 ⟨hx8, rfl⟩
  have hX8 := Ext.trans hx1 hx8
  refine ⟨fun hm => ?_, fun hm => ?_⟩
  · have hm : mayS s k = false := by simpa using hm
    have e : addSE R s k = 1 := by unfold addSE; rw [hm]; rfl
    rw [e]
    exact ⟨rfl, .inl ⟨by decide, h.ext hX8, hX8⟩⟩
  have hm : mayS s k = true := by simpa using hm
  have hd9 : Ext w8 w8.drew := Chg.drew (.refl _ _)
  have hX9 := Ext.trans hX8 hd9
  have h9 := h.ext hX9
  have hv9 := (hv.ext hx8).ext hd9
  obtain ⟨p14, hl1, hp14⟩ := h9.look s.id
  have hd17 : Ext w8.drew w8.drew.drew := Chg.drew (.refl _ _)
  have hX17 := Ext.trans hX9 hd17
  have h17 := h.ext hX17
  have hv17 := hv9.ext hd17
  refine nx ⟨fun _ => False, _, rfl, id, _, h9.cells.1, id, _, (scell hv9).1, p14, _, _, hl1, nx ⟨fun _ => False, _, rfl, id, _, h17.cells.2, id, _, hv17.rd (Sv.c_length _ _), (farm_of s k _).use ?_⟩⟩
  rintro _ w22 ⟨rfl, hx22⟩
  have hX22 := Ext.trans hX17 hx22
  have h22 := h.ext hX22
  have hv22 := hv17.ext hx22
  obtain ⟨n25, hl2⟩ := h22.lookD s.door
  refine ⟨_, rfl, hx22, n25, _, _, hl2, .refl _ _, fun hb => ?_, fun hb => ?_⟩
  · have e : addSE R s k = 7 := by unfold addSE; rw [hm, hb]; rfl
    rw [e]
    exact ⟨rfl, .inl ⟨by decide, h22, hX22⟩⟩
  refine ⟨_, rfl, _, h22.cells.1, _, _, h22.k1.len mapT1, fun hl => ?_, fun hl => ?_⟩
  · have hl := of_decide_eq_true hl
    rw [List.length_map] at hl
    have e : addSE R s k = 2 := by unfold addSE; rw [hm, hb, if_pos rfl]; simp only [Bool.false_eq_true, if_false]; rw [if_pos (by omega)]
    rw [e]
    exact ⟨rfl, .inl ⟨by decide, h22, hX22⟩⟩
  have hl := of_decide_eq_false hl
  rw [List.length_map] at hl
  have e0 : addSE R s k = 0 := by unfold addSE; rw [hm, hb, if_pos rfl]; simp only [Bool.false_eq_true, if_false]; rw [if_neg (by omega)]
  simp only [Bool.or_eq_false_iff] at hb
  have hnid := hasId_false.1 hb.1
  have hnd := hasDoor_false.1 hb.2
  have hcell : w22.cell? (Addr.add ⟨w.heap.size, 0, none⟩ 22) = some (.slice k.a k.len k.cap) := (scell hv22).2.2.2.2.2.2
  refine ⟨⟨_, hcell⟩, by rw [add_mk]; exact Blk.frozen hv22 _ rfl, ?_⟩
  rw [add_mk]
  refine nxSet hv22 fun w32 hv32 hc32 hs32 => ?_
  have ev : (s.c k).set (0 + 22) (.slice none 0 0) = s.c ⟨none, 0, 0⟩ := s.set22 k ⟨none, 0, 0⟩
  rw [ev] at hv32
  have hX32 : Ext w w32 := Ext.of_chg hX22 hc32 (Nat.le_refl _)
  have hd33 : Ext w32 w32.drew := Chg.drew (.refl _ _)
  have hX33 := Ext.trans hX32 hd33
  have h33 := h.ext hX33
  have hv33 := hv32.ext hd33
  refine nx ⟨fun _ => False, _, rfl, id, _, h33.cells.1, id, _, (scell hv33).1, _, rfl, id, _, h33.cells.2, id, _, hv33.rd (Sv.c_length _ _), id, _, (scell hv33).1, (farm_of s _ _).use ?_⟩
  rintro _ w42 ⟨rfl, hx42⟩
  have hX42 := Ext.trans hX33 hx42
  have h42 := h.ext hX42
  have hv42 := hv33.ext hx42
  obtain ⟨i1, hi1, hz1⟩ := infoZ zeroPS
  obtain ⟨i2, hi2, hz2⟩ := infoZ zeroInt
  obtain ⟨st1, w45, hr45, hc45, hs45, hE45⟩ := h42.k1.entry_new keyI mapT1 (k := s.id) hi1 hz1 (fun v hv => by
    obtain ⟨x, hx, he⟩ := List.mem_map.1 hv
    simp only [Rec.e1, Prod.mk.injEq] at he
    exact hnid x hx he.1)
  obtain ⟨w48, hr48, hc48, hs48, hK48⟩ := hE45.store (P := Try.prog) Ty.map_int_P_api_Service (.pointer (some ⟨w.heap.size, 0, none⟩))
  have hc48' : Chg (fun q => q = fm.m1) w42 w48 := hc45.trans hc48
  have hk2 : MapK w48 fm.m2 encD (R.map Rec.e2) := h42.k2.chg hc48' (fun e => h.ne e.symm)
  obtain ⟨st2, w49, hr49, hc49, hs49, hE49⟩ := hk2.entry_new keyD mapT2 (k := s.door) hi2 hz2 (fun v hv => by
    obtain ⟨x, hx, he⟩ := List.mem_map.1 hv
    simp only [Rec.e2, Prod.mk.injEq] at he
    exact hnd x hx he.1)
  obtain ⟨w52, hr52, hc52, hs52, hK52⟩ := hE49.store (P := Try.prog) Ty.map_farm_door_int (.int .i64 s.id)
  have hc52' : Chg (fun q => q = fm.m2) w48 w52 := hc49.trans hc52
  refine ⟨_, rfl, hx42, _, st1, w45, hr45, w48, hr48, _, st2, w49, hr49, w52, hr52, by rw [e0], .inr ⟨e0, w.heap.size, Nat.le_refl _, ?_, ?_⟩⟩
  · have hC : Chg (fun q => q = fm.m1 ∨ q = fm.m2) w42 w52 := (Chg.mono hc48' fun _ _ h => .inl h).trans (Chg.mono hc52' fun _ _ h => .inr h)
    have hid : ∀ y ∈ R, y.s.id ≠ s.id := hnid
    obtain ⟨x, hx⟩ : ∃ x : Rec, x = ⟨s, [], w.heap.size, ⟨none, 0, 0⟩⟩ := ⟨_, rfl⟩
    have hp : (insBy (fun x : Rec => x.s.id) x R).Perm (x :: R) := insBy_perm _ _ _ (by rw [hx]; exact hid)
    rw [← hx]
    have hmem : ∀ y ∈ insBy (fun x : Rec => x.s.id) x R, y = x ∨ y ∈ R := fun y hy => insBy_mem hy
    have hk1' : MapK w52 fm.m1 encI ((insBy (fun x : Rec => x.s.id) x R).map Rec.e1) := by
      refine (hK48.chg hc52' h.ne).perm ?_
      have := (hp.map Rec.e1).symm
      rw [List.map_cons] at this
      rw [hx] at this ⊢
      exact this
    have hk2' : MapK w52 fm.m2 encD ((insBy (fun x : Rec => x.s.id) x R).map Rec.e2) := by
      refine hK52.perm ?_
      have := (hp.map Rec.e2).symm
      rw [List.map_cons] at this
      rw [hx] at this ⊢
      exact this
    have hnm : ∀ q c T, Blk w42 q c T → ¬ (q = fm.m1 ∨ q = fm.m2) := by
      rintro q c T hB (rfl | rfl)
      · exact h42.k1.notVar hB
      · exact h42.k2.notVar hB
    have hlt : ∀ y ∈ R, y.blk < w.heap.size := fun y hy => (h.sv y hy).lt
    refine ⟨h42.v.chg hC (hnm _ _ _ h42.v), hk1', hk2', h.ne, fun y hy => ?_, fun y hy => ?_, fun y hy => ?_, fun y hy => ?_, insBy_ids h.ids, ?_, fun a ha b hb hne => ?_⟩
    · rcases hmem y hy with rfl | hy
      · rw [hx]; exact hv42.chg hC (hnm _ _ _ hv42)
      · exact (h42.sv y hy).chg hC (hnm _ _ _ (h42.sv y hy))
    · rcases hmem y hy with rfl | hy
      · rw [hx]; exact OwnS.none _ _ _
      · exact (h42.bk y hy).chg hC fun q hq hm => hm.elim (fun e => by subst e; exact (h42.bk y hy).notMap hq h42.k1) (fun e => by subst e; exact (h42.bk y hy).notMap hq h42.k2)
    · rcases hmem y hy with rfl | hy
      · rw [hx]; exact List.Pairwise.nil
      · exact h.rise y hy
    · rcases hmem y hy with rfl | hy
      · rw [hx]; exact Nat.zero_le _
      · exact h.few y hy
    · rw [insBy_len (by rw [hx]; exact hid)]; omega
    · rcases hmem a ha with rfl | ha2 <;> rcases hmem b hb with rfl | hb2
      · exact absurd rfl hne
      · refine ⟨?_, fun q hq => ?_⟩
        · have := hlt b hb2; rw [hx]; show w.heap.size ≠ _; omega
        · rw [hx] at hq; exact (ownB_none q hq).elim
      · refine ⟨?_, fun q _ hq => ?_⟩
        · have := hlt a ha2; rw [hx]; show _ ≠ w.heap.size; omega
        · rw [hx] at hq; exact (ownB_none q hq).elim
      · exact h.apart a ha2 b hb2 hne
  · exact (Chg.of_ext hX42).trans ((Chg.mono hc48' fun q _ e => .inr (.inl e)).trans (Chg.mono hc52' fun q _ e => .inr (.inr (.inl e))))

end Go.Proofs.Ytldeegpcldhjaaa
