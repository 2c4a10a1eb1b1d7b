/- The farm: AddBackend, DropBackend, Drain, Weigh, Service. -/
import Derived.Test.YtldeegpcldhjaaaConfE
namespace Go.Proofs.Ytldeegpcldhjaaa
open Go Gx

variable {w w' : World} {fm : Fm} {R : List Rec} {r : Rec}

theorem farm_at (h : FarmAt w fm R) (hr : r ∈ R) (id : Int) : Ret Try.prog F.farm_at #[.pointer (some ⟨r.blk, 0, none⟩), .int .i64 id] w (fun v w' => v = .tuple #[.int .i64 ((posB r.bs id : Nat) : Int), .bool (hasB r.bs id)] ∧ Ext w w') := by
  refine W.farm_at_ok (some ⟨r.blk, 0, none⟩) id w _ ?_
  unfold W.farm_at
  refine ⟨_, rfl, r.k, (scell (h.sv r hr)).2.2.2.2.2.2, (bk_Search id (h.bk r hr).src (h.rise r hr) (by have := h.few r hr; omega)).use ?_⟩
  rintro _ w3 ⟨rfl, hx3⟩
  exact ⟨_, _, rfl, rfl, hx3⟩

theorem find_abs (h : FarmAt w fm R) (sid : Int) : (absR R).find? (fun x => x.1.id == sid) = (R.find? fun r => r.s.id == sid).map fun r => (r.s, r.bs) := by
  unfold absR; rw [List.find?_map]; rfl
theorem find_some (h : FarmAt w fm R) (hr : r ∈ R) : R.find? (fun x => x.s.id == r.s.id) = some r := by
  cases hf : R.find? (fun x => x.s.id == r.s.id) with
  | none =>
    have := List.find?_eq_none.1 hf r hr
    simp at this
  | some x =>
    have hx := List.find?_some hf
    have hm := List.mem_of_find?_eq_some hf
    rw [h.uniq hm hr (eq_of_beq hx)]
theorem hasSB_some (h : FarmAt w fm R) (hr : r ∈ R) (bid : Int) : hasSB (absR R) r.s.id bid = hasB r.bs bid := by
  unfold hasSB
  rw [any_abs, Bool.eq_iff_iff, List.any_eq_true]
  constructor
  · rintro ⟨x, hx, he⟩
    simp only [Bool.and_eq_true, beq_iff_eq] at he
    rw [h.uniq hx hr he.1] at he
    exact he.2
  · intro he
    exact ⟨r, hr, by simp [he]⟩
theorem hasSB_none {sid : Int} (hn : hasId R sid = false) (bid : Int) : hasSB (absR R) sid bid = false := by
  unfold hasSB
  rw [any_abs, List.any_eq_false]
  intro x hx
  have := hasId_false.1 hn x hx
  simp [this]

theorem farm_find (h : FarmAt w fm R) (sid bid : Int) : Ret Try.prog F.farm_Farm_find #[.pointer (some ⟨fm.p, 0, none⟩), .int .i64 sid, .int .i64 bid] w
    (fun v w' => Ext w w' ∧ ((∃ r ∈ R, r.s.id = sid ∧ hasB r.bs bid = true ∧ v = .tuple #[.pointer (some ⟨r.blk, 0, none⟩), .int .i64 ((posB r.bs bid : Nat) : Int), .int .i64 0]) ∨ (hasSB (absR R) sid bid = false ∧ v = .tuple #[.pointer none, .int .i64 0, .int .i64 6]))) := by
  refine W.farm_Farm_find_ok (some ⟨fm.p, 0, none⟩) sid bid w _ ?_
  unfold W.farm_Farm_find
  obtain ⟨p3, hl, hp3⟩ := h.look sid
  refine ⟨fun hn => by simp at hn, fun _ => ⟨_, rfl, _, h.cells.1, p3, _, w, hl, fun hb => ?_, fun hb => ?_⟩⟩
  · have hb : hasId R sid = false := by simpa using hb
    exact ⟨.refl _ _, .inr ⟨hasSB_none hb bid, rfl⟩⟩
  · have hb : hasId R sid = true := by simpa using hb
    obtain ⟨r, hr, rfl⟩ := hasId_true.1 hb
    rw [hp3 r hr rfl]
    refine (farm_at h hr bid).use ?_
    rintro _ w6 ⟨rfl, hx6⟩
    refine ⟨_, _, rfl, fun hb => ?_, fun hb => ?_⟩
    · have hb : hasB r.bs bid = false := by simpa using hb
      exact ⟨hx6, .inr ⟨by rw [hasSB_some h hr, hb], rfl⟩⟩
    · have hb : hasB r.bs bid = true := by simpa using hb
      exact ⟨hx6, .inl ⟨r, hr, rfl, hb, rfl⟩⟩

theorem updL_abs {sid : Int} (h : FarmAt w fm R) (hr : r ∈ R) (hid : r.s.id = sid) (g : List Bk → List Bk) : (absR R).map (fun x => if x.1.id = r.s.id then (x.1, g r.bs) else x) = updL (absR R) sid g := by
  subst hid
  unfold updL absR
  rw [List.map_map, List.map_map]
  refine List.map_congr_left fun x hx => ?_
  simp only [Function.comp]
  by_cases he : x.s.id = r.s.id
  · rw [if_pos he, if_pos he, h.uniq hx hr he]
  · rw [if_neg he, if_neg he]

/-! ### What stays by rising ids -/
theorem insB_rise {l : List Bk} (h : Rise l) {b : Bk} (hn : hasB l b.id = false) : Rise (insB b l) := by
  unfold insB Rise
  rw [List.append_assoc, List.pairwise_append]
  refine ⟨List.Pairwise.sublist (List.take_sublist _ _) h, ?_, fun x hx y hy => ?_⟩
  · rw [List.singleton_append, List.pairwise_cons]
    refine ⟨fun x hx => ?_, List.Pairwise.sublist (List.drop_sublist _ _) h⟩
    obtain ⟨j, hj, rfl⟩ := List.getElem_of_mem hx
    rw [List.getElem_drop]
    rw [List.length_drop] at hj
    have h1 := posB_hi h (id := b.id) (j := posB l b.id + j) (by omega) (by omega)
    have h2 : (l[posB l b.id + j]'(by omega)).id ≠ b.id := by
      intro e
      have : hasB l b.id = true := by unfold hasB; exact List.any_eq_true.2 ⟨_, List.getElem_mem _, by rw [e]; simp⟩
      rw [this] at hn; cases hn
    omega
  · obtain ⟨j, hj, rfl⟩ := List.mem_take_iff_getElem.1 hx
    have h1 : (l[j]'(by omega)).id < b.id := posB_lo (by omega)
    rcases List.mem_append.1 hy with hy | hy
    · rw [List.mem_singleton.1 hy]; exact h1
    · obtain ⟨i, hi, rfl⟩ := List.getElem_of_mem hy
      rw [List.length_drop] at hi
      rw [List.getElem_drop]
      have h2 := posB_hi h (id := b.id) (j := posB l b.id + i) (by omega) (by omega)
      omega
theorem insB_length {l : List Bk} (b : Bk) : (insB b l).length = l.length + 1 := by
  unfold insB
  have := posB_le l b.id
  simp
  omega
theorem delB_rise {l : List Bk} (h : Rise l) (id : Int) : Rise (delB id l) := by
  unfold delB Rise
  refine List.Pairwise.sublist ?_ h
  have : (l.take (posB l id) ++ l.drop (posB l id + 1)).Sublist (l.take (posB l id) ++ l.drop (posB l id)) := List.Sublist.append_left (by rw [← List.drop_drop]; exact List.drop_sublist _ _) _
  rwa [List.take_append_drop] at this
theorem modB_rise {l : List Bk} (h : Rise l) (id : Int) {g : Bk → Bk} (hg : ∀ b, (g b).id = b.id) : Rise (modB id g l) := by
  unfold modB
  unfold Rise at h ⊢
  rw [List.pairwise_iff_getElem] at h ⊢
  intro i j hi hj hij
  rw [List.getElem_modify, List.getElem_modify]
  rw [List.length_modify] at hi hj
  have := h i j hi hj hij
  split <;> split <;> simpa [hg] using this
theorem modB_split {l : List Bk} {id : Int} (h : posB l id < l.length) (g : Bk → Bk) : modB id g l = l.take (posB l id) ++ [g l[posB l id]] ++ l.drop (posB l id + 1) := by
  unfold modB
  rw [List.modify_eq_take_cons_drop h]
  simp

theorem nx_stores {b o : Nat} {c : Array Value} {T : TypeId} {v : Value} (hb : Blk w b c T) {K : World → Prop} (h : ∀ w', Blk w' b (c.setIfInBounds o v) T → Chg (fun q => q = b) w w' → w'.heap.size = w.heap.size → K w') : Nx (w.setCell ⟨b, o, none⟩ v) K :=
  h _ (hb.set o v) (Chg.set (W := fun q => q = b) (A := ⟨b, o, none⟩) (.refl _ _) (fun _ => rfl) v) (by simp [World.setCell])

/-- One field of one backend, laid anew in its row. -/
theorem bk_field {k : Sl} {l : List Bk} {i o : Nat} {b' : Bk} {v : Value} (ho : OwnS 21 Ty.api_Backend w k (bksC l)) (hi : i < l.length) (ho2 : o < 21) (hb : (l[i]).c.set o v = b'.c) :
    ∃ A : Addr, k.a = some A ∧ ((0 : Int) ≤ (i : Int) ∧ (i : Int) < ((k.len : Nat) : Int)) ∧ (∃ u : Value, w.cell? ((A.add (Int.toNat (i : Int) * 21)).add o) = some u) ∧ w.frozen? ((A.add (Int.toNat (i : Int) * 21)).add o) = false ∧
      OwnS 21 Ty.api_Backend (w.setCell ((A.add (Int.toNat (i : Int) * 21)).add o) v) k (bksC (l.take i ++ [b'] ++ l.drop (i + 1))) ∧ Chg (ownB k) w (w.setCell ((A.add (Int.toNat (i : Int) * 21)).add o) v) := by
  have hl := BR.len ho.src
  obtain ⟨h1, h2, h3, h4⟩ := ho
  rcases h4 with ⟨_, hc⟩ | ⟨b, c, hba, hblk, hcs, hv⟩
  · omega
  have ha : ((Addr.mk b 0 none).add (Int.toNat (i : Int) * 21)).add o = ⟨b, i * 21 + o, none⟩ := by rw [Int.toNat_natCast, add_mk, add_mk, Nat.zero_add]
  have hsz : i * 21 + o < c.size := by rw [hcs]; omega
  refine ⟨_, hba, ⟨by omega, by omega⟩, ?_, ?_, ?_, ?_⟩
  · rw [ha, hblk.cell]; exact ⟨c[i * 21 + o], by simp [hsz]⟩
  · rw [ha]; exact hblk.frozen _ rfl
  · rw [ha]
    have hlen : (l.take i ++ [b'] ++ l.drop (i + 1)).length = l.length := by simp; omega
    refine ⟨by rw [bksC_length, hlen, hl], h2, h3, .inr ⟨b, _, hba, hblk.set _ v, by simpa using hcs, ?_⟩⟩
    rw [Array.toList_setIfInBounds, List.take_set, hv]
    have e : bksC l = bksC (l.take i) ++ ((l[i]).c ++ bksC (l.drop (i + 1))) := by
      conv => lhs; rw [← List.take_append_drop i l, bksC_app, List.drop_eq_getElem_cons hi]
      rfl
    have ht : (bksC (l.take i)).length = i * 21 := by rw [bksC_length, List.length_take, Nat.min_eq_left (by omega)]
    rw [e, List.set_append_right _ _ (by omega), ht, show i * 21 + o - i * 21 = o by omega, List.set_append_left _ _ (by rw [Bk.c_length]; exact ho2), hb, bksC_app, bksC_app, bksC_one, List.append_assoc]
  · rw [ha]
    exact Chg.set (W := ownB k) (A := ⟨b, i * 21 + o, none⟩) (.refl _ _) (fun _ => ⟨_, hba, rfl⟩) v

theorem Bk.setD (b : Bk) (on : Bool) : b.c.set 20 (.bool on) = ({ b with drained := on } : Bk).c := by
  unfold Bk.c
  rw [List.set_cons_succ, List.set_append_right _ _ (by rw [Ad.c_length]; decide), Ad.c_length]
  rfl
theorem Bk.setW (b : Bk) (n : Int) : b.c.set 19 (.int .i64 n) = ({ b with weight := n } : Bk).c := by
  unfold Bk.c
  rw [List.set_cons_succ, List.set_append_right _ _ (by rw [Ad.c_length]; decide), Ad.c_length]
  rfl
theorem Step.trans_ext {x : Int × List SB} {v : Value} {w1 : World} (hx : Ext w w1) (h : Step fm R w1 x v w') : Step fm R w x v w' := by
  obtain ⟨hv, R', h1, h2, h3, h4⟩ := h
  exact ⟨hv, R', h1, h2, (Chg.of_ext hx).trans h3, fun q hq => (h4 q hq).imp id fun h => Nat.le_trans hx.size h⟩
theorem sub_foot (hr : r ∈ R) : ∀ q, q = r.blk ∨ ownB r.k q → foot fm R q := fun _ hq => .inr (.inr (.inr ⟨r, hr, hq⟩))

theorem farm_Drain (h : FarmAt w fm R) (sid bid : Int) (on : Bool) : Ret Try.prog F.farm_Farm_Drain #[.pointer (some ⟨fm.p, 0, none⟩), .int .i64 sid, .int .i64 bid, .bool on] w (fun v w' => Step fm R w (drain (absR R) sid bid on) v w') := by
  refine W.farm_Farm_Drain_ok (some ⟨fm.p, 0, none⟩) sid bid on w _ ?_
  unfold W.farm_Farm_Drain
  refine (farm_find h sid bid).use ?_
  rintro _ w1 ⟨hx1, ⟨r, hr, rfl, hb, rfl⟩ | ⟨hb, rfl⟩⟩
  · have h1 := h.ext hx1
    have hs : hasSB (absR R) r.s.id bid = true := by rw [hasSB_some h hr, hb]
    refine ⟨_, _, _, rfl, Jn0 (Step fm R w (drain (absR R) r.s.id bid on) (.int .i64 0)) (fun q hq => ⟨fun _ => ?_, fun h => by simp at h⟩) (fun w2 hw => hw)⟩
    have hp : posB r.bs bid < r.bs.length := ((hasB_at (h.rise r hr) bid).1 hb).1
    obtain ⟨A, hA, hbd, hc, hf, ho2, hch⟩ := bk_field (h1.bk r hr) hp (by decide : 20 < 21) (Bk.setD _ on)
    have hm : modB bid (fun b : Bk => { b with drained := on }) r.bs = r.bs.take (posB r.bs bid) ++ [{ r.bs[posB r.bs bid] with drained := on }] ++ r.bs.drop (posB r.bs bid + 1) := modB_split hp _
    rw [← hm] at ho2
    refine ⟨_, rfl, r.k, (scell (h1.sv r hr)).2.2.2.2.2.2, A, hA, hbd, hc, hf, nx (hq _ (Step.trans_ext hx1 ?_))⟩
    obtain ⟨R', g1, g2, g3⟩ := h1.set hr (Chg.mono hch fun _ _ h => .inr h) ((h1.sv r hr).chg hch fun hq => absurd ((h1.bk r hr).notVar hq (h1.sv r hr)) (by decide)) ho2 (modB_rise (h.rise r hr) bid fun _ => rfl) (by have := h.few r hr; unfold modB; rw [List.length_modify]; exact this) (fun _ h => .inl h)
    refine ⟨by unfold drain; rw [hs]; rfl, R', g1, ?_, Chg.mono hch fun q _ hq => sub_foot hr q (.inr hq), g3⟩
    rw [g2, updL_abs h hr rfl (modB bid fun b => { b with drained := on })]
    unfold drain; rw [hs]; rfl
  · refine ⟨_, _, _, rfl, Jn0 (Step fm R w (drain (absR R) sid bid on) (.int .i64 6)) (fun q hq => ⟨fun h => by simp at h, fun _ => hq _ ?_⟩) (fun w2 hw => hw)⟩
    have e : drain (absR R) sid bid on = (6, absR R) := by unfold drain; rw [hb]; rfl
    rw [e]
    exact Step.same h hx1 rfl

theorem farm_Weigh (h : FarmAt w fm R) (sid bid n : Int) : Ret Try.prog F.farm_Farm_Weigh #[.pointer (some ⟨fm.p, 0, none⟩), .int .i64 sid, .int .i64 bid, .int .i64 n] w (fun v w' => Step fm R w (weigh (absR R) sid bid n) v w') := by
  refine W.farm_Farm_Weigh_ok (some ⟨fm.p, 0, none⟩) sid bid n w _ ?_
  unfold W.farm_Farm_Weigh
  refine (farm_find h sid bid).use ?_
  rintro _ w1 ⟨hx1, ⟨r, hr, rfl, hb, rfl⟩ | ⟨hb, rfl⟩⟩
  · have h1 := h.ext hx1
    have hs : hasSB (absR R) r.s.id bid = true := by rw [hasSB_some h hr, hb]
    refine ⟨_, _, _, rfl, fun h => by simp at h, fun _ => (farm_weight n w1).use ?_⟩
    rintro _ _ ⟨rfl, rfl⟩
    refine ⟨_, rfl, fun hw => ?_, fun hw => ?_⟩
    · have hw : weightOk n = false := by simpa using hw
      have e : weigh (absR R) r.s.id bid n = (1, absR R) := by unfold weigh; rw [hs, hw]; rfl
      rw [e]
      exact Step.same h hx1 rfl
    · have hw : weightOk n = true := by simpa using hw
      have hp : posB r.bs bid < r.bs.length := ((hasB_at (h.rise r hr) bid).1 hb).1
      obtain ⟨A, hA, hbd, hc, hf, ho2, hch⟩ := bk_field (h1.bk r hr) hp (by decide : 19 < 21) (Bk.setW _ n)
      have hm : modB bid (fun b : Bk => { b with weight := n }) r.bs = r.bs.take (posB r.bs bid) ++ [{ r.bs[posB r.bs bid] with weight := n }] ++ r.bs.drop (posB r.bs bid + 1) := modB_split hp _
      rw [← hm] at ho2
      refine ⟨_, rfl, r.k, (scell (h1.sv r hr)).2.2.2.2.2.2, A, hA, hbd, hc, hf, nx (Step.trans_ext hx1 ?_)⟩
      obtain ⟨R', g1, g2, g3⟩ := h1.set hr (Chg.mono hch fun _ _ h => .inr h) ((h1.sv r hr).chg hch fun hq => absurd ((h1.bk r hr).notVar hq (h1.sv r hr)) (by decide)) ho2 (modB_rise (h.rise r hr) bid fun _ => rfl) (by have := h.few r hr; unfold modB; rw [List.length_modify]; exact this) (fun _ h => .inl h)
      refine ⟨by unfold weigh; rw [hs, hw]; rfl, R', g1, ?_, Chg.mono hch fun q _ hq => sub_foot hr q (.inr hq), g3⟩
      rw [g2, updL_abs h hr rfl (modB bid fun b => { b with weight := n })]
      unfold weigh; rw [hs, hw]; rfl
  · refine ⟨_, _, _, rfl, fun _ => ?_, fun h => by simp at h⟩
    have e : weigh (absR R) sid bid n = (6, absR R) := by unfold weigh; rw [hb]; rfl
    rw [e]
    exact Step.same h hx1 rfl

theorem bkZero : ∀ z, (Try.prog.info? Ty.api_Backend).bind (·.zero) = some z → ∀ u ∈ z.cells.toList, Plain u := by
  intro z hz
  have : (Try.prog.info? Ty.api_Backend).bind (·.zero) = some (.agg (Bk.mk 0 Ad.zero 0 0 false).c.toArray) := by kernel_rfl
  rw [this] at hz
  cases hz
  exact Bk.plain _

theorem farm_DropBackend (h : FarmAt w fm R) (sid bid : Int) : Ret Try.prog F.farm_Farm_DropBackend #[.pointer (some ⟨fm.p, 0, none⟩), .int .i64 sid, .int .i64 bid] w (fun v w' => Step fm R w (dropBackend (absR R) sid bid) v w') := by
  refine W.farm_Farm_DropBackend_ok (some ⟨fm.p, 0, none⟩) sid bid w _ ?_
  unfold W.farm_Farm_DropBackend
  refine (farm_find h sid bid).use ?_
  rintro _ w1 ⟨hx1, ⟨r, hr, rfl, hb, rfl⟩ | ⟨hb, rfl⟩⟩
  · have h1 := h.ext hx1
    have hs : hasSB (absR R) r.s.id bid = true := by rw [hasSB_some h hr, hb]
    refine ⟨_, _, _, rfl, Jn0 (Step fm R w (dropBackend (absR R) r.s.id bid) (.int .i64 0)) (fun q hq => ⟨fun _ => ?_, fun h => by simp at h⟩) (fun w2 hw => hw)⟩
    have hp : posB r.bs bid < r.bs.length := ((hasB_at (h.rise r hr) bid).1 hb).1
    have hbk := h1.bk r hr
    have hl := BR.len hbk.src
    have hfew := h.few r hr
    have ew : IntKind.wrap .i64 (((posB r.bs bid : Nat) : Int) + 1) = ((posB r.bs bid + 1 : Nat) : Int) := by rw [wrapi (by omega) (by omega)]; rfl
    refine ⟨_, rfl, r.k, (scell (h1.sv r hr)).2.2.2.2.2.2, ?_⟩
    rw [ew]
    refine (bk_Delete hbk (bksC_plain _) bkZero (i := posB r.bs bid) (by omega) (by omega)).use ?_
    rintro _ w9 ⟨s', rfl, ho9, hl9, ha9, hc9⟩
    have hsv := h1.sv r hr
    have hsv9 : Var w9 r.blk (r.s.c r.k) Ty.api_Service := hsv.chg hc9 fun hq => absurd (hbk.notVar hq hsv) (by decide)
    have hc22 := (scell hsv9).2.2.2.2.2.2
    refine ⟨s', rfl, _, rfl, ⟨_, hc22⟩, by rw [add_mk]; exact Blk.frozen hsv9 _ rfl, ?_⟩
    rw [add_mk]
    refine nxSet hsv9 fun w13 hv13 hc13 hs13 => hq _ (Step.trans_ext hx1 ?_)
    have hC : Chg (fun q => q = r.blk ∨ ownB r.k q) w1 w13 := (Chg.mono hc9 fun _ _ h => .inr h).trans (Chg.mono hc13 fun _ _ h => .inl h)
    have ev : (r.s.c r.k).set (0 + 22) (.slice s'.a s'.len s'.cap) = r.s.c s' := r.s.set22 r.k s'
    rw [ev] at hv13
    have hsub : ∀ q, ownB s' q → ownB r.k q := fun q ⟨A, hA, e⟩ => ⟨A, by rw [← ha9]; exact hA, e⟩
    have ho13 : OwnS 21 Ty.api_Backend w13 s' (bksC (delB bid r.bs)) := by
      have := ho9.chg hc13 (fun q hq e => by subst e; exact absurd (hbk.notVar (hsub _ hq) hsv) (by decide))
      unfold delB
      rw [bksC_app, ← bksC_take, ← bksC_drop]
      exact this
    obtain ⟨R', g1, g2, g3⟩ := h1.set hr hC hv13 ho13 (delB_rise (h.rise r hr) bid) (by unfold delB; simp; omega) (fun q hq => .inl (hsub q hq))
    refine ⟨by unfold dropBackend; rw [hs]; rfl, R', g1, ?_, Chg.mono hC fun q _ hq => sub_foot hr q hq, g3⟩
    rw [g2, updL_abs h hr rfl (delB bid)]
    unfold dropBackend; rw [hs]; rfl
  · refine ⟨_, _, _, rfl, Jn0 (Step fm R w (dropBackend (absR R) sid bid) (.int .i64 6)) (fun q hq => ⟨fun h => by simp at h, fun _ => hq _ ?_⟩) (fun w2 hw => hw)⟩
    have e : dropBackend (absR R) sid bid = (6, absR R) := by unfold dropBackend; rw [hb]; rfl
    rw [e]
    exact Step.same h hx1 rfl

end Go.Proofs.Ytldeegpcldhjaaa
