/- Contracts of the functions that the statement reaches, and the plain laws over them; each theorem stands with its conditions. -/
import Derived.Shelf.SlIterI.Nil
import Derived.Shelf.SortM.Plain
import Derived.Shelf.SortM.SortNone
import Derived.Test.YtgljoledlhmhnaaGreatDoorProg
import Derived.Test.YtgljoledlhmhnaaGreatDoorBDiffs1
namespace Go.Proofs.YtgljoledlhmhnaaGreatDoor
open Go Gx
variable {w w' : World} {fm : Fm} {R : List Rec} {r : Rec}
theorem farm_at (h : FarmAt w fm R) (hr : r ∈ R) (id : Int) : Ret Tryz.prog F.farm_at #[.pointer (some ⟨r.blk, 0, none⟩), .int .i64 id] w (fun v w' => v = .tuple #[.int .i64 ((posB r.bs id : Nat) : Int), .bool (hasB r.bs id)] ∧ Ext w w') := by
 refine W.farm_at_ok (some ⟨r.blk, 0, none⟩) id w _ ?_
 (delta W.farm_at r1 c19; dsimp only)
 refine ⟨_, rfl, r.k, (scell (h.sv r hr)).2.2.2.2.2.2, (bk_Search id (h.bk r hr).src (h.rise r hr) (by have := h.few r hr; omega)).use ?_⟩
 rintro _ w3 ⟨rfl, hx3⟩
 exact ⟨_, _, rfl, rfl, hx3⟩
theorem find_abs (h : FarmAt w fm R) (sid : Int) : (absR R).find? (fun x => x.1.id == sid) = (R.find? fun r => r.s.id == sid).map fun r => (r.s, r.bs) := by
 unfold absR; rw [List.find?_map]; rfl
theorem find_some (h : FarmAt w fm R) (hr : r ∈ R) : R.find? (fun x => x.s.id == r.s.id) = some r := by
 cases hf : R.find? (fun x => x.s.id == r.s.id) with
 | none =>
   have := List.find?_eq_none.1 hf r hr
   simp at this
 | some x =>
   have hx := List.find?_some hf
   have hm := List.mem_of_find?_eq_some hf
   rw [h.uniq hm hr (eq_of_beq hx)]
theorem hasSB_some (h : FarmAt w fm R) (hr : r ∈ R) (bid : Int) : hasSB (absR R) r.s.id bid = hasB r.bs bid := by
 unfold hasSB
 rw [any_abs, Bool.eq_iff_iff, List.any_eq_true]
 constructor
 · rintro ⟨x, hx, he⟩
   simp only [Bool.and_eq_true, beq_iff_eq] at he
   rw [h.uniq hx hr he.1] at he
   exact he.2
 · intro he
   exact ⟨r, hr, by simp [he]⟩
theorem hasSB_none {sid : Int} (hn : hasId R sid = false) (bid : Int) : hasSB (absR R) sid bid = false := by
 unfold hasSB
 rw [any_abs, List.any_eq_false]
 intro x hx
 have := hasId_false.1 hn x hx
 simp [this]
theorem farm_find (h : FarmAt w fm R) (sid bid : Int) : Ret Tryz.prog F.farm_Farm_find #[.pointer (some ⟨fm.p, 0, none⟩), .int .i64 sid, .int .i64 bid] w
   (fun v w' => Ext w w' ∧ ((∃ r ∈ R, r.s.id = sid ∧ hasB r.bs bid = true ∧ v = .tuple #[.pointer (some ⟨r.blk, 0, none⟩), .int .i64 ((posB r.bs bid : Nat) : Int), .int .i64 0]) ∨ (hasSB (absR R) sid bid = false ∧ v = .tuple #[.pointer none, .int .i64 0, .int .i64 6]))) := by
 refine W.farm_Farm_find_ok (some ⟨fm.p, 0, none⟩) sid bid w _ ?_
 (delta W.farm_Farm_find Br c19; dsimp only)
 obtain ⟨p3, hl, hp3⟩ := h.look sid
 refine ⟨fun hn => by simp at hn, fun _ => ⟨_, rfl, _, h.cells.1, p3, _, w, hl, fun hb => ?_, fun hb => ?_⟩⟩
 · have hb : hasId R sid = false := by simpa using hb
   exact ⟨.refl _ _, .inr ⟨hasSB_none hb bid, rfl⟩⟩
 · have hb : hasId R sid = true := by simpa using hb
   obtain ⟨r, hr, rfl⟩ := hasId_true.1 hb
   rw [hp3 r hr rfl]
   refine (farm_at h hr bid).use ?_
   rintro _ w6 ⟨rfl, hx6⟩
   refine ⟨_, _, rfl, fun hb => ?_, fun hb => ?_⟩
   · have hb : hasB r.bs bid = false := by simpa using hb
     exact ⟨hx6, .inr ⟨by rw [hasSB_some h hr, hb], rfl⟩⟩
   · have hb : hasB r.bs bid = true := by simpa using hb
     exact ⟨hx6, .inl ⟨r, hr, rfl, hb, rfl⟩⟩
theorem updL_abs {sid : Int} (h : FarmAt w fm R) (hr : r ∈ R) (hid : r.s.id = sid) (g : List Bk → List Bk) : (absR R).map (fun x => if x.1.id = r.s.id then (x.1, g r.bs) else x) = updL (absR R) sid g := by
 subst hid
 unfold updL absR
 rw [List.map_map, List.map_map]
 refine List.map_congr_left fun x hx => ?_
 simp only [Function.comp]
 by_cases he : x.s.id = r.s.id
 · rw [if_pos he, if_pos he, h.uniq hx hr he]
 · rw [if_neg he, if_neg he]
theorem insB_rise {l : List Bk} (h : Rise l) {b : Bk} (hn : hasB l b.id = false) : Rise (insB b l) := by
 unfold insB Rise
 rw [List.append_assoc, List.pairwise_append]
 refine ⟨List.Pairwise.sublist (List.take_sublist _ _) h, ?_, fun x hx y hy => ?_⟩
 · rw [List.singleton_append, List.pairwise_cons]
   refine ⟨fun x hx => ?_, List.Pairwise.sublist (List.drop_sublist _ _) h⟩
   obtain ⟨j, hj, rfl⟩ := List.getElem_of_mem hx
   rw [List.getElem_drop]
   rw [List.length_drop] at hj
   have h1 := posB_hi h (id := b.id) (j := posB l b.id + j) (by omega) (by omega)
   have h2 : (l[posB l b.id + j]'(by omega)).id ≠ b.id := by
     intro e
     have : hasB l b.id = true := by unfold hasB; exact List.any_eq_true.2 ⟨_, List.getElem_mem _, by rw [e]; simp⟩
     rw [this] at hn; cases hn
   omega
 · obtain ⟨j, hj, rfl⟩ := List.mem_take_iff_getElem.1 hx
   have h1 : (l[j]'(by omega)).id < b.id := posB_lo (by omega)
   rcases List.mem_append.1 hy with hy | hy
   · rw [List.mem_singleton.1 hy]; exact h1
   · obtain ⟨i, hi, rfl⟩ := List.getElem_of_mem hy
     rw [List.length_drop] at hi
     rw [List.getElem_drop]
     have h2 := posB_hi h (id := b.id) (j := posB l b.id + i) (by omega) (by omega)
     omega
theorem insB_length {l : List Bk} (b : Bk) : (insB b l).length = l.length + 1 := by
 unfold insB
 have := posB_le l b.id
 simp
 omega
theorem delB_rise {l : List Bk} (h : Rise l) (id : Int) : Rise (delB id l) := by
 unfold delB Rise
 refine List.Pairwise.sublist ?_ h
 have : (l.take (posB l id) ++ l.drop (posB l id + 1)).Sublist (l.take (posB l id) ++ l.drop (posB l id)) := List.Sublist.append_left (by rw [← List.drop_drop]; exact List.drop_sublist _ _) _
 rwa [List.take_append_drop] at this
theorem modB_rise {l : List Bk} (h : Rise l) (id : Int) {g : Bk → Bk} (hg : ∀ b, (g b).id = b.id) : Rise (modB id g l) := by
 unfold modB
 unfold Rise at h ⊢
 rw [List.pairwise_iff_getElem] at h ⊢
 intro i j hi hj hij
 rw [List.getElem_modify, List.getElem_modify]
 rw [List.length_modify] at hi hj
 have := h i j hi hj hij
 split <;> split <;> simpa [hg] using this
theorem modB_split {l : List Bk} {id : Int} (h : posB l id < l.length) (g : Bk → Bk) : modB id g l = l.take (posB l id) ++ [g l[posB l id]] ++ l.drop (posB l id + 1) := by
 unfold modB
 rw [List.modify_eq_take_cons_drop h]
 simp
theorem bk_field {k : Sl} {l : List Bk} {i o : Nat} {b' : Bk} {v : Value} (ho : OwnS 21 Ty.api_Backend w k (bksC l)) (hi : i < l.length) (ho2 : o < 21) (hb : (l[i]).c.set o v = b'.c) :
   ∃ A : Addr, k.a = some A ∧ ((0 : Int) ≤ (i : Int) ∧ (i : Int) < ((k.len : Nat) : Int)) ∧ (∃ u : Value, w.cell? ((A.add (Int.toNat (i : Int) * 21)).add o) = some u) ∧ w.frozen? ((A.add (Int.toNat (i : Int) * 21)).add o) = false ∧
     OwnS 21 Ty.api_Backend (w.setCell ((A.add (Int.toNat (i : Int) * 21)).add o) v) k (bksC (l.take i ++ [b'] ++ l.drop (i + 1))) ∧ Chg (ownB k) w (w.setCell ((A.add (Int.toNat (i : Int) * 21)).add o) v) := by
 have hl := BR.len ho.src
 obtain ⟨h1, h2, h3, h4⟩ := ho
 rcases h4 with ⟨_, hc⟩ | ⟨b, c, hba, hblk, hcs, hv⟩
 · omega
 have ha : ((Addr.mk b 0 none).add (Int.toNat (i : Int) * 21)).add o = ⟨b, i * 21 + o, none⟩ := by rw [Int.toNat_natCast, add_mk, add_mk, Nat.zero_add]
 have hsz : i * 21 + o < c.size := by rw [hcs]; omega
 refine ⟨_, hba, ⟨by omega, by omega⟩, ?_, ?_, ?_, ?_⟩
 · rw [ha, hblk.cell]; exact ⟨c[i * 21 + o], by simp [hsz]⟩
 · rw [ha]; exact hblk.frozen _ rfl
 · rw [ha]
   have hlen : (l.take i ++ [b'] ++ l.drop (i + 1)).length = l.length := by simp; omega
   refine ⟨by rw [bksC_length, hlen, hl], h2, h3, .inr ⟨b, _, hba, hblk.set _ v, by simpa using hcs, ?_⟩⟩
   rw [Array.toList_setIfInBounds, List.take_set, hv]
   have e : bksC l = bksC (l.take i) ++ ((l[i]).c ++ bksC (l.drop (i + 1))) := by
     conv => lhs; rw [← List.take_append_drop i l, bksC_app, List.drop_eq_getElem_cons hi]
     rfl
   have ht : (bksC (l.take i)).length = i * 21 := by rw [bksC_length, List.length_take, Nat.min_eq_left (by omega)]
   rw [e, List.set_append_right _ _ (by omega), ht, show i * 21 + o - i * 21 = o by omega, List.set_append_left _ _ (by rw [Bk.c_length]; exact ho2), hb, bksC_app, bksC_app, bksC_one, List.append_assoc]
 · rw [ha]
   exact Chg.set (W := ownB k) (A := ⟨b, i * 21 + o, none⟩) (.refl _ _) (fun _ => ⟨_, hba, rfl⟩) v
theorem Bk.setD (b : Bk) (on : Bool) : b.c.set 20 (.bool on) = ({ b with drained := on } : Bk).c := by
 unfold Bk.c
 rw [List.set_cons_succ, List.set_append_right _ _ (by rw [Ad.c_length]; decide), Ad.c_length]
 rfl
theorem Bk.setW (b : Bk) (n : Int) : b.c.set 19 (.int .i64 n) = ({ b with weight := n } : Bk).c := by
 unfold Bk.c
 rw [List.set_cons_succ, List.set_append_right _ _ (by rw [Ad.c_length]; decide), Ad.c_length]
 rfl
theorem Step.trans_ext {x : Int × List SB} {v : Value} {w1 : World} (hx : Ext w w1) (h : Step fm R w1 x v w') : Step fm R w x v w' := by
 obtain ⟨hv, R', h1, h2, h3, h4⟩ := h
 exact ⟨hv, R', h1, h2, (Chg.of_ext hx).trans h3, fun q hq => (h4 q hq).imp id fun h => Nat.le_trans hx.size h⟩
theorem sub_foot (hr : r ∈ R) : ∀ q, q = r.blk ∨ ownB r.k q → foot fm R q := fun _ hq => .inr (.inr (.inr ⟨r, hr, hq⟩))
theorem farm_Drain (h : FarmAt w fm R) (sid bid : Int) (on : Bool) : Ret Tryz.prog F.farm_Farm_Drain #[.pointer (some ⟨fm.p, 0, none⟩), .int .i64 sid, .int .i64 bid, .bool on] w (fun v w' => Step fm R w (drain (absR R) sid bid on) v w') := by
 refine W.farm_Farm_Drain_ok (some ⟨fm.p, 0, none⟩) sid bid on w _ ?_
 (delta W.farm_Farm_Drain c20 Br r1 bd st; dsimp only)
 refine (farm_find h sid bid).use ?_
 rintro _ w1 ⟨hx1, ⟨r, hr, rfl, hb, rfl⟩ | ⟨hb, rfl⟩⟩
 · have h1 := h.ext hx1
   have hs : hasSB (absR R) r.s.id bid = true := by rw [hasSB_some h hr, hb]
   refine ⟨_, _, _, rfl, Jn0 (Step fm R w (drain (absR R) r.s.id bid on) (.int .i64 0)) (fun q hq => ⟨fun _ => ?_, fun h => by simp at h⟩) (fun w2 hw => hw)⟩
   have hp : posB r.bs bid < r.bs.length := ((hasB_at (h.rise r hr) bid).1 hb).1
   obtain ⟨A, hA, hbd, hc, hf, ho2, hch⟩ := bk_field (h1.bk r hr) hp (by decide : 20 < 21) (Bk.setD _ on)
   have hm : modB bid (fun b : Bk => { b with drained := on }) r.bs = r.bs.take (posB r.bs bid) ++ [{ r.bs[posB r.bs bid] with drained := on }] ++ r.bs.drop (posB r.bs bid + 1) := modB_split hp _
   rw [← hm] at ho2
   refine ⟨_, rfl, r.k, (scell (h1.sv r hr)).2.2.2.2.2.2, A, hA, hbd, hc, hf, nx (hq _ (Step.trans_ext hx1 ?_))⟩
   obtain ⟨R', g1, g2, g3⟩ := h1.set hr (Chg.mono hch fun _ _ h => .inr h) ((h1.sv r hr).chg hch fun hq => absurd ((h1.bk r hr).notVar hq (h1.sv r hr)) (by decide)) ho2 (modB_rise (h.rise r hr) bid fun _ => rfl) (by have := h.few r hr; unfold modB; rw [List.length_modify]; exact this) (fun _ h => .inl h)
   refine ⟨by unfold drain; rw [hs]; rfl, R', g1, ?_, Chg.mono hch fun q _ hq => sub_foot hr q (.inr hq), g3⟩
   rw [g2, updL_abs h hr rfl (modB bid fun b => { b with drained := on })]
   unfold drain; rw [hs]; rfl
 · refine ⟨_, _, _, rfl, Jn0 (Step fm R w (drain (absR R) sid bid on) (.int .i64 6)) (fun q hq => ⟨fun h => by simp at h, fun _ => hq _ ?_⟩) (fun w2 hw => hw)⟩
   have e : drain (absR R) sid bid on = (6, absR R) := by unfold drain; rw [hb]; rfl
   rw [e]
   exact Step.same h hx1 rfl
theorem farm_Weigh (h : FarmAt w fm R) (sid bid n : Int) : Ret Tryz.prog F.farm_Farm_Weigh #[.pointer (some ⟨fm.p, 0, none⟩), .int .i64 sid, .int .i64 bid, .int .i64 n] w (fun v w' => Step fm R w (weigh (absR R) sid bid n) v w') := by
 refine W.farm_Farm_Weigh_ok (some ⟨fm.p, 0, none⟩) sid bid n w _ ?_
 (delta W.farm_Farm_Weigh c20 Br c9 r1 bd st; dsimp only)
 refine (farm_find h sid bid).use ?_
 rintro _ w1 ⟨hx1, ⟨r, hr, rfl, hb, rfl⟩ | ⟨hb, rfl⟩⟩
 · have h1 := h.ext hx1
   have hs : hasSB (absR R) r.s.id bid = true := by rw [hasSB_some h hr, hb]
   refine ⟨_, _, _, rfl, fun h => by simp at h, fun _ => (farm_weight n w1).use ?_⟩
   rintro _ _ ⟨rfl, rfl⟩
   refine ⟨_, rfl, fun hw => ?_, fun hw => ?_⟩
   · have hw : weightOk n = false := by simpa using hw
     have e : weigh (absR R) r.s.id bid n = (1, absR R) := by unfold weigh; rw [hs, hw]; rfl
     rw [e]
     exact Step.same h hx1 rfl
   · have hw : weightOk n = true := by simpa using hw
     have hp : posB r.bs bid < r.bs.length := ((hasB_at (h.rise r hr) bid).1 hb).1
     obtain ⟨A, hA, hbd, hc, hf, ho2, hch⟩ := bk_field (h1.bk r hr) hp (by decide : 19 < 21) (Bk.setW _ n)
     have hm : modB bid (fun b : Bk => { b with weight := n }) r.bs = r.bs.take (posB r.bs bid) ++ [{ r.bs[posB r.bs bid] with weight := n }] ++ r.bs.drop (posB r.bs bid + 1) := modB_split hp _
     rw [← hm] at ho2
     refine ⟨_, rfl, r.k, (scell (h1.sv r hr)).2.2.2.2.2.2, A, hA, hbd, hc, hf, nx (Step.trans_ext hx1 ?_)⟩
     obtain ⟨R', g1, g2, g3⟩ := h1.set hr (Chg.mono hch fun _ _ h => .inr h) ((h1.sv r hr).chg hch fun hq => absurd ((h1.bk r hr).notVar hq (h1.sv r hr)) (by decide)) ho2 (modB_rise (h.rise r hr) bid fun _ => rfl) (by have := h.few r hr; unfold modB; rw [List.length_modify]; exact this) (fun _ h => .inl h)
     refine ⟨by unfold weigh; rw [hs, hw]; rfl, R', g1, ?_, Chg.mono hch fun q _ hq => sub_foot hr q (.inr hq), g3⟩
     rw [g2, updL_abs h hr rfl (modB bid fun b => { b with weight := n })]
     unfold weigh; rw [hs, hw]; rfl
 · refine ⟨_, _, _, rfl, fun _ => ?_, fun h => by simp at h⟩
   have e : weigh (absR R) sid bid n = (6, absR R) := by unfold weigh; rw [hb]; rfl
   rw [e]
   exact Step.same h hx1 rfl
theorem bkZero : ∀ z, (Tryz.prog.info? Ty.api_Backend).bind (·.zero) = some z → ∀ u ∈ z.cells.toList, Plain u := by
 intro z hz
 have : (Tryz.prog.info? Ty.api_Backend).bind (·.zero) = some (.agg (Bk.mk 0 Ad.zero 0 0 false).c.toArray) := by kernel_rfl
 rw [this] at hz
 cases hz
 exact Bk.plain _
theorem farm_DropBackend (h : FarmAt w fm R) (sid bid : Int) : Ret Tryz.prog F.farm_Farm_DropBackend #[.pointer (some ⟨fm.p, 0, none⟩), .int .i64 sid, .int .i64 bid] w (fun v w' => Step fm R w (dropBackend (absR R) sid bid) v w') := by
 refine W.farm_Farm_DropBackend_ok (some ⟨fm.p, 0, none⟩) sid bid w _ ?_
 (delta W.farm_Farm_DropBackend c20 Br r1 c5 wI st; dsimp only)
 refine (farm_find h sid bid).use ?_
 rintro _ w1 ⟨hx1, ⟨r, hr, rfl, hb, rfl⟩ | ⟨hb, rfl⟩⟩
 · have h1 := h.ext hx1
   have hs : hasSB (absR R) r.s.id bid = true := by rw [hasSB_some h hr, hb]
   refine ⟨_, _, _, rfl, Jn0 (Step fm R w (dropBackend (absR R) r.s.id bid) (.int .i64 0)) (fun q hq => ⟨fun _ => ?_, fun h => by simp at h⟩) (fun w2 hw => hw)⟩
   have hp : posB r.bs bid < r.bs.length := ((hasB_at (h.rise r hr) bid).1 hb).1
   have hbk := h1.bk r hr
   have hl := BR.len hbk.src
   have hfew := h.few r hr
   have ew : IntKind.wrap .i64 (((posB r.bs bid : Nat) : Int) + 1) = ((posB r.bs bid + 1 : Nat) : Int) := by rw [wrapi (by omega) (by omega)]; rfl
   refine ⟨_, rfl, r.k, (scell (h1.sv r hr)).2.2.2.2.2.2, ?_⟩
   rw [ew]
   refine (bk_Delete hbk (bksC_plain _) bkZero (i := posB r.bs bid) (by omega) (by omega)).use ?_
   rintro _ w9 ⟨s', rfl, ho9, hl9, ha9, hc9⟩
   have hsv := h1.sv r hr
   have hsv9 : Var w9 r.blk (r.s.c r.k) Ty.api_Service := hsv.chg hc9 fun hq => absurd (hbk.notVar hq hsv) (by decide)
   have hc22 := (scell hsv9).2.2.2.2.2.2
   refine ⟨s', rfl, _, rfl, ⟨_, hc22⟩, by rw [add_mk]; exact Blk.frozen hsv9 _ rfl, ?_⟩
   rw [add_mk]
   refine nxSet hsv9 fun w13 hv13 hc13 hs13 => hq _ (Step.trans_ext hx1 ?_)
   have hC : Chg (fun q => q = r.blk ∨ ownB r.k q) w1 w13 := (Chg.mono hc9 fun _ _ h => .inr h).trans (Chg.mono hc13 fun _ _ h => .inl h)
   have ev : (r.s.c r.k).set (0 + 22) (.slice s'.a s'.len s'.cap) = r.s.c s' := r.s.set22 r.k s'
   rw [ev] at hv13
   have hsub : ∀ q, ownB s' q → ownB r.k q := fun q ⟨A, hA, e⟩ => ⟨A, by rw [← ha9]; exact hA, e⟩
   have ho13 : OwnS 21 Ty.api_Backend w13 s' (bksC (delB bid r.bs)) := by
     have := ho9.chg hc13 (fun q hq e => by subst e; exact absurd (hbk.notVar (hsub _ hq) hsv) (by decide))
     unfold delB
     rw [bksC_app, ← bksC_take, ← bksC_drop]
     exact this
   obtain ⟨R', g1, g2, g3⟩ := h1.set hr hC hv13 ho13 (delB_rise (h.rise r hr) bid) (by unfold delB; simp; omega) (fun q hq => .inl (hsub q hq))
   refine ⟨by unfold dropBackend; rw [hs]; rfl, R', g1, ?_, Chg.mono hC fun q _ hq => sub_foot hr q hq, g3⟩
   rw [g2, updL_abs h hr rfl (delB bid)]
   unfold dropBackend; rw [hs]; rfl
 · refine ⟨_, _, _, rfl, Jn0 (Step fm R w (dropBackend (absR R) sid bid) (.int .i64 6)) (fun q hq => ⟨fun h => by simp at h, fun _ => hq _ ?_⟩) (fun w2 hw => hw)⟩
   have e : dropBackend (absR R) sid bid = (6, absR R) := by unfold dropBackend; rw [hb]; rfl
   rw [e]
   exact Step.same h hx1 rfl
end Go.Proofs.YtgljoledlhmhnaaGreatDoor
namespace Go.Proofs.YtgljoledlhmhnaaGreatDoor
open Go Gx
variable {w w' : World} {fm : Fm} {R : List Rec} {r : Rec}
theorem bcell {b : Nat} {T : TypeId} {x : Bk} (h : Var w b x.c T) : w.cell? ⟨b, 0, none⟩ = some (.int .i64 x.id) ∧ w.cell? (Addr.add ⟨b, 0, none⟩ 1) = some (.bool x.addr.six) ∧ w.cell? (Addr.add ⟨b, 0, none⟩ 18) = some (.int .u16 x.port) ∧ w.cell? (Addr.add ⟨b, 0, none⟩ 19) = some (.int .i64 x.weight) ∧ w.cell? (Addr.add ⟨b, 0, none⟩ 20) = some (.bool x.drained) := by
 simp only [add_mk, h.cell]
 refine ⟨rfl, rfl, ?_, ?_, ?_⟩ <;> simp [Bk.c, List.getElem?_append, Ad.c_length]
theorem brd {b : Nat} {T : TypeId} {x : Bk} (h : Var w b x.c T) : rdCells w (Addr.add ⟨b, 0, none⟩ 1) 0 17 = some x.addr.c := by
 rw [add_mk, h.rdAt (by rw [Bk.c_length]; decide)]
 show some ((x.addr.c ++ _).take 17) = _
 rw [List.take_append_of_le_length (by rw [Ad.c_length]; decide), List.take_of_length_le (by rw [Ad.c_length]; decide)]
theorem buildBk (x : Bk) (w : World) : Sem.run Tryz.prog (Instr.buildSlice Ty.Sl_api_Backend 1 #[(0, .agg x.c.toArray)]) w = .ok (.slice (some ⟨w.heap.size, 0, none⟩) 1 1) (w.alloc (.cells x.c.toArray Ty.api_Backend)) := by
 obtain ⟨id, ⟨six, b, h⟩, port, weight, drained⟩ := x
 obtain ⟨x0, x1, x2, x3, x4, x5, x6, x7, x8, x9, x10, x11, x12, x13, x14, x15, rfl⟩ := list16 b h
 kernel_rfl
def badB (s : Sv) (b : Bk) : Bool := !idOk b.id || !b.addr.good || !(b.addr.six == s.addr.six) || b.port == 0 || !weightOk b.weight || b.drained
theorem badB_not (s : Sv) (b : Bk) : badB s b = !canB s b := by
 unfold badB canB
 cases idOk b.id <;> cases b.addr.good <;> cases (b.addr.six == s.addr.six) <;> cases (b.port == 0) <;> cases weightOk b.weight <;> cases b.drained <;> rfl
theorem badB_tail {x : Nat} {T : TypeId} {b : Bk} {w1 : World} (c : Bool) {b0 : Bool} (hc : c = (b0 || b.port == 0 || !weightOk b.weight || b.drained)) (hv : Var w1 x b.c T) {q : Bool → World → Prop} (hq : ∀ w', Ext w1 w' → q c w') :
   Jn (fun k20 : Bool → World → Prop => (b0 = true → k20 true w1) ∧ (b0 = false → ∃ n21 : Int, w1.cell? (Addr.add ⟨x, 0, none⟩ 18) = some (.int .u16 n21) ∧ k20 ((n21 : Int) == 0) w1))
     (fun (b22 : Bool) (w23 : World) => Jn (fun k24 : Bool → World → Prop => (b22 = true → k24 true w23) ∧ (b22 = false → ∃ n25 : Int, w23.cell? (Addr.add ⟨x, 0, none⟩ 19) = some (.int .i64 n25) ∧
         Calls Tryz.prog F.farm_weight #[.int .i64 n25] w23 fun e27 w26 => ∃ b28 : Bool, e27 = .returned (.bool b28) ∧ k24 (!b28) w26))
       (fun (b29 : Bool) (w30 : World) => Jn (fun k31 : Bool → World → Prop => (b29 = true → k31 true w30) ∧ (b29 = false → ∃ b32 : Bool, w30.cell? (Addr.add ⟨x, 0, none⟩ 20) = some (.bool b32) ∧ k31 b32 w30))
         (fun (b33 : Bool) (w34 : World) => q b33 w34))) := by
 subst hc
 refine jnOr (b.port == 0) (fun _ q hq => ⟨_, (bcell hv).2.2.1, hq _ (.refl _ _)⟩) fun w2 hx2 => ?_
 have hv2 := hv.ext hx2
 refine jnOr (!weightOk b.weight) (fun _ q hq => ⟨_, (bcell hv2).2.2.2.1, (farm_weight _ w2).use ?_⟩) fun w3 hx3 => ?_
 · rintro _ _ ⟨rfl, rfl⟩
   exact ⟨_, rfl, hq _ (.refl _ _)⟩
 have hv3 := hv2.ext hx3
 exact jnOr b.drained (fun _ q hq => ⟨_, (bcell hv3).2.2.2.2, hq _ (.refl _ _)⟩) fun w4 hx4 => hq _ (Ext.trans hx2 (Ext.trans hx3 hx4))
theorem farm_AddBackend (h : FarmAt w fm R) (sid : Int) (b : Bk) : Ret Tryz.prog F.farm_Farm_AddBackend #[.pointer (some ⟨fm.p, 0, none⟩), .int .i64 sid, .agg b.c.toArray] w (fun v w' => Step fm R w (addBackend (absR R) sid b) v w') := by
 refine W.farm_Farm_AddBackend_ok (some ⟨fm.p, 0, none⟩) sid _ w _ ?_
 (delta W.farm_Farm_AddBackend Br r3 nA c19 c9 r7 r8 r1 c5 st; dsimp only)
 refine nxVar (vs := b.c) rfl fun w1 hv hx1 hs1 => ⟨fun hn => by simp at hn, fun _ => ?_⟩
 have h1 := h.ext hx1
 obtain ⟨p4, hl, hp4⟩ := h1.look sid
 refine ⟨_, rfl, _, h1.cells.1, p4, _, w1, hl, fun hb => ?_, fun hb => ?_⟩
 · have hb : hasId R sid = false := by simpa using hb
   have e : addBackend (absR R) sid b = (6, absR R) := by
     unfold addBackend
     rw [find_abs h]
     have : R.find? (fun r => r.s.id == sid) = none := List.find?_eq_none.2 fun x hx => by simpa using hasId_false.1 hb x hx
     rw [this]; rfl
   rw [e]
   exact Step.same h hx1 rfl
 have hb : hasId R sid = true := by simpa using hb
 obtain ⟨r, hr, rfl⟩ := hasId_true.1 hb
 have hp := hp4 r hr rfl
 rw [hp]
 have hab : addBackend (absR R) r.s.id b = if canB r.s b then if hasB r.bs b.id then (7, absR R) else if r.bs.length ≥ 16 then (2, absR R) else (0, updL (absR R) r.s.id (insB b)) else (1, absR R) := by
   unfold addBackend
   rw [find_abs h, find_some h hr]; rfl
 refine ⟨_, (bcell hv).1, (farm_at h1 hr b.id).use ?_⟩
 rintro _ w8 ⟨rfl, hx8⟩
 have hX8 := Ext.trans hx1 hx8
 refine ⟨_, _, rfl, Jn1 (fun c w' => Ext w8 w' ∧ c = badB r.s b) (fun q hq => ?_) ?_⟩
 · have hd : Ext w8 w8.drew := Chg.drew (.refl _ _)
   have hv13 := (hv.ext hx8).ext hd
   refine nx ⟨fun _ => False, id, _, (bcell hv13).1, (farm_id b.id _).use ?_⟩
   rintro _ _ ⟨rfl, rfl⟩
   refine ⟨_, rfl, fun _ => False, fun hi => ?_, fun hi => ⟨id, _, brd hv13, (addr_Good' b.addr _).use ?_⟩⟩
   · refine badB_tail (b0 := true) (badB r.s b) ?_ hv13 fun w' hx => hq _ _ ⟨Ext.trans hd hx, rfl⟩
     unfold badB; rw [hi]; rfl
   rintro _ w36 ⟨rfl, hx36⟩
   have hv36 := hv13.ext hx36
   have hX36 := Ext.trans hd hx36
   refine ⟨_, rfl, hx36, fun hg => ?_, fun hg => ?_⟩
   · refine badB_tail (b0 := true) (badB r.s b) ?_ hv36 fun w' hx => hq _ _ ⟨Ext.trans hX36 hx, rfl⟩
     unfold badB; rw [hi, hg]; rfl
   · have h36 := (h1.ext hx8).ext hX36
     refine ⟨id, _, (bcell hv36).2.1, _, rfl, id, _, (scell (h36.sv r hr)).2.1, ?_⟩
     refine badB_tail (b0 := !(b.addr.six == r.s.addr.six)) (badB r.s b) ?_ hv36 fun w' hx => hq _ _ ⟨Ext.trans hX36 hx, rfl⟩
     unfold badB; rw [hi, hg]; rfl
 rintro _ w73 ⟨hx73, rfl⟩
 rw [badB_not]
 have hX73 := Ext.trans hX8 hx73
 have h73 := h.ext hX73
 refine ⟨fun hc => ?_, fun hc => ⟨fun hh => ?_, fun hh => ⟨_, rfl, r.k, (scell (h73.sv r hr)).2.2.2.2.2.2, fun hl => ?_, fun hl => ?_⟩⟩⟩
 · have hc : canB r.s b = false := by simpa using hc
   rw [hc] at hab
   rw [hab]
   exact Step.same h hX73 rfl
 all_goals have hc : canB r.s b = true := by simpa using hc
 all_goals rw [hc, if_pos rfl] at hab
 · rw [hh, if_pos rfl] at hab
   rw [hab]
   exact Step.same h hX73 rfl
 all_goals rw [hh] at hab
 all_goals simp only [Bool.false_eq_true, if_false] at hab
 all_goals have hbl := BR.len (h73.bk r hr).src
 · have hl : ((r.k.len : Nat) : Int) ≥ 16 := of_decide_eq_true hl
   rw [if_pos (by omega)] at hab
   rw [hab]
   exact Step.same h hX73 rfl
 have hl : ¬ ((r.k.len : Nat) : Int) ≥ 16 := of_decide_eq_false hl
 rw [if_neg (by omega)] at hab
 have hd : Ext w73 w73.drew := Chg.drew (.refl _ _)
 have hX76 := Ext.trans hX73 hd
 have h76 := h.ext hX76
 have hv76 := ((hv.ext hx8).ext hx73).ext hd
 have hw : w.heap.size < w73.drew.heap.size := hv76.lt
 have hxa : Ext w73.drew (w73.drew.alloc (.cells b.c.toArray Ty.api_Backend)) := Chg.alloc (.refl _ _) _
 have hX82 := Ext.trans hX76 hxa
 have h82 := h.ext hX82
 have hbk := h82.bk r hr
 have hsv := h82.sv r hr
 have hnb : ¬ ownB r.k w73.drew.heap.size := fun hq => by have := (h76.bk r hr).lt _ hq; omega
 refine nx ⟨ownB r.k, _, rfl, ?_, r.k, (scell (h76.sv r hr)).2.2.2.2.2.2, ?_, _, hv76.rd b.c_length, ⟨some ⟨w73.drew.heap.size, 0, none⟩, 1, 1⟩, _, buildBk b _, Chg.of_ext hxa, ?_⟩
 · rw [add_mk]; intro hq; exact absurd ((h76.bk r hr).notVar hq (h76.sv r hr)) (by decide)
 · intro hq
   have := (h.bk r hr).lt _ hq
   simp at this
 refine (bk_Insert (v := ⟨some ⟨w73.drew.heap.size, 0, none⟩, 1, 1⟩) (i := posB r.bs b.id) hbk (Src.new _ _ 1 (by rw [b.c_length])) rfl rfl (Blk.new _ _ _) hnb b.plain (bksC_plain _) (by have := posB_le r.bs b.id; omega) (by omega)).use ?_
 rintro _ w83 ⟨s', rfl, ho83, hl83, hc83, hfr83⟩
 have hsv83 : Var w83 r.blk (r.s.c r.k) Ty.api_Service := hsv.chg hc83 fun hq => absurd (hbk.notVar hq hsv) (by decide)
 refine ⟨s', rfl, hc83, _, rfl, ⟨_, (scell hsv83).2.2.2.2.2.2⟩, by rw [add_mk]; exact Blk.frozen hsv83 _ rfl, ?_⟩
 rw [add_mk]
 refine nxSet hsv83 fun w87 hv87 hc87 hs87 => ?_
 have ev : (r.s.c r.k).set (0 + 22) (.slice s'.a s'.len s'.cap) = r.s.c s' := r.s.set22 r.k s'
 rw [ev] at hv87
 have hC : Chg (fun q => q = r.blk ∨ ownB r.k q) (w73.drew.alloc (.cells b.c.toArray Ty.api_Backend)) w87 := (Chg.mono hc83 fun _ _ h => .inr h).trans (Chg.mono hc87 fun _ _ h => .inl h)
 have hnr : ¬ ownB s' r.blk := fun hq => by
   rcases hfr83 _ hq with h1 | h1
   · exact absurd (hbk.notVar h1 hsv) (by decide)
   · have := hsv.lt; omega
 have ho87 : OwnS 21 Ty.api_Backend w87 s' (bksC (insB b r.bs)) := by
   have := ho83.chg hc87 (fun q hq e => by subst e; exact hnr hq)
   unfold insB
   rw [bksC_app, bksC_app, bksC_one, ← bksC_take, ← bksC_drop]
   exact this
 rw [hab]
 obtain ⟨R', g1, g2, g3⟩ := h82.set hr hC hv87 ho87 (insB_rise (h.rise r hr) hh) (by rw [insB_length]; omega) hfr83
 refine Step.trans_ext hX82 ⟨rfl, R', g1, ?_, Chg.mono hC fun q _ hq => sub_foot hr q hq, g3⟩
 rw [g2, updL_abs h hr rfl (insB b)]
end Go.Proofs.YtgljoledlhmhnaaGreatDoor
namespace Go.Proofs.YtgljoledlhmhnaaGreatDoor
open Go Go.Proofs Go.Shelf
def keysA_ren : Go.Shelf.Ren := ⟨fun | 7 => 99 | 10 => 132 | n => n, fun | 23 => 109 | 26 => 3 | 3 => 146 | 28 => 144 | 0 => 0 | 27 => 143 | 33 => 168 | 4 => 4 | n => n, fun | n => n⟩
theorem keysA : Go.Proofs.SlLaysZI.n7 Tryz.prog keysA_ren := {
 mixed := by kernel_rfl
 f7 := ⟨Tryz.f99.name, by decide, Tryz.func99.trans (congrArg some (by kernel_rfl))⟩
 f10 := ⟨Tryz.f132.name, by decide, Tryz.func132.trans (congrArg some (by kernel_rfl))⟩
 t0 := Tryz.underlying0
 a0 := Tryz.isAgg0
 z0 := Tryz.sizeOf0
 v0 := Tryz.zeroValue0
 t4 := Tryz.underlying4
 a4 := Tryz.isAgg4
 z4 := Tryz.sizeOf4
 v4 := Tryz.zeroValue4
 t23 := Tryz.underlying109
 a23 := Tryz.isAgg109
 z23 := Tryz.sizeOf109
 v23 := Tryz.zeroValue109
 t26 := Tryz.underlying3
 a26 := Tryz.isAgg3
 z26 := Tryz.sizeOf3
 v26 := Tryz.zeroValue3
 t27 := Tryz.underlying143
 a27 := Tryz.isAgg143
 z27 := Tryz.sizeOf143
 v27 := Tryz.zeroValue143
 t28 := Tryz.underlying144
 a28 := Tryz.isAgg144
 z28 := Tryz.sizeOf144
 v28 := Tryz.zeroValue144
 t33 := Tryz.underlying168
 a33 := Tryz.isAgg168
 z33 := Tryz.sizeOf168
 v33 := Tryz.zeroValue168 }
def sortedA_ren : Go.Shelf.Ren := ⟨fun | 6 => 98 | 8 => 130 | 9 => 131 | 11 => 152 | 13 => 154 | 12 => 153 | 23 => 179 | 24 => 180 | 14 => 170 | 15 => 171 | 16 => 172 | 17 => 173 | 18 => 174 | 19 => 175 | 20 => 176 | 21 => 177 | 22 => 178 | 25 => 199 | 26 => 200 | 27 => 201 | 28 => 202 | 29 => 203 | 30 => 168 | 31 => 210 | n => n, fun | 26 => 3 | 28 => 144 | 24 => 33 | 0 => 0 | 3 => 3 | 37 => 151 | 48 => 186 | 50 => 23 | 4 => 4 | 40 => 214 | 39 => 213 | 45 => 163 | 5 => 5 | 9 => 9 | 51 => 245 | 55 => 248 | 57 => 261 | 58 => 262 | 33 => 168 | n => n, fun | n => n⟩
theorem sortedA : Go.Proofs.SlLaysZI.n6 Tryz.prog sortedA_ren := {
 mixed := by kernel_rfl
 f6 := ⟨Tryz.f98.name, by decide, Tryz.func98.trans (congrArg some (by kernel_rfl))⟩
 f8 := ⟨Tryz.f130.name, by decide, Tryz.func130.trans (congrArg some (by kernel_rfl))⟩
 f11 := ⟨Tryz.f152.name, by decide, Tryz.func152.trans (congrArg some (by kernel_rfl))⟩
 t0 := Tryz.underlying0
 a0 := Tryz.isAgg0
 z0 := Tryz.sizeOf0
 v0 := Tryz.zeroValue0
 t24 := Tryz.underlying33
 a24 := Tryz.isAgg33
 z24 := Tryz.sizeOf33
 v24 := Tryz.zeroValue33
 t26 := Tryz.underlying3
 a26 := Tryz.isAgg3
 z26 := Tryz.sizeOf3
 v26 := Tryz.zeroValue3
 t28 := Tryz.underlying144
 a28 := Tryz.isAgg144
 z28 := Tryz.sizeOf144
 v28 := Tryz.zeroValue144
 i26 := by kernel_rfl }
def sortA_ren : Go.Shelf.Ren := ⟨fun | 5 => 131 | 8 => 154 | 7 => 153 | 19 => 179 | 20 => 180 | 10 => 170 | 11 => 171 | 12 => 172 | 13 => 173 | 14 => 174 | 15 => 175 | 16 => 176 | 17 => 177 | 18 => 178 | 30 => 199 | 31 => 200 | 32 => 201 | 33 => 202 | 34 => 203 | 35 => 168 | 40 => 210 | n => n, fun | 23 => 33 | 25 => 3 | 3 => 3 | 32 => 151 | 22 => 33 | 0 => 0 | 44 => 186 | 46 => 23 | 4 => 4 | 36 => 214 | 35 => 213 | 41 => 163 | 5 => 5 | 9 => 9 | 53 => 245 | 57 => 248 | 63 => 261 | 64 => 262 | n => n, fun | n => n⟩
theorem sortA : Go.Proofs.SlLaysM.n5 Tryz.prog sortA_ren := {
 mixed := by kernel_rfl
 f5 := ⟨Tryz.f131.name, by decide, Tryz.func131.trans (congrArg some (by kernel_rfl))⟩
 f7 := ⟨Tryz.f153.name, by decide, Tryz.func153.trans (congrArg some (by kernel_rfl))⟩
 f8 := Tryz.func154.trans (congrArg some (by kernel_rfl))
 f10 := ⟨Tryz.f170.name, by decide, Tryz.func170.trans (congrArg some (by kernel_rfl))⟩
 f11 := ⟨Tryz.f171.name, by decide, Tryz.func171.trans (congrArg some (by kernel_rfl))⟩
 f12 := ⟨Tryz.f172.name, by decide, Tryz.func172.trans (congrArg some (by kernel_rfl))⟩
 f13 := ⟨Tryz.f173.name, by decide, Tryz.func173.trans (congrArg some (by kernel_rfl))⟩
 f14 := ⟨Tryz.f174.name, by decide, Tryz.func174.trans (congrArg some (by kernel_rfl))⟩
 f15 := ⟨Tryz.f175.name, by decide, Tryz.func175.trans (congrArg some (by kernel_rfl))⟩
 f16 := ⟨Tryz.f176.name, by decide, Tryz.func176.trans (congrArg some (by kernel_rfl))⟩
 f17 := ⟨Tryz.f177.name, by decide, Tryz.func177.trans (congrArg some (by kernel_rfl))⟩
 f18 := ⟨Tryz.f178.name, by decide, Tryz.func178.trans (congrArg some (by kernel_rfl))⟩
 f19 := Tryz.func179.trans (congrArg some (by kernel_rfl))
 f20 := Tryz.func180.trans (congrArg some (by kernel_rfl))
 f30 := ⟨Tryz.f199.name, by decide, Tryz.func199.trans (congrArg some (by kernel_rfl))⟩
 f31 := Tryz.func200.trans (congrArg some (by kernel_rfl))
 f32 := Tryz.func201.trans (congrArg some (by kernel_rfl))
 f33 := ⟨Tryz.f202.name, by decide, Tryz.func202.trans (congrArg some (by kernel_rfl))⟩
 f34 := ⟨Tryz.f203.name, by decide, Tryz.func203.trans (congrArg some (by kernel_rfl))⟩
 f35 := ⟨Tryz.f168.name, by decide, Tryz.func168.trans (congrArg some (by kernel_rfl))⟩
 f40 := ⟨Tryz.f210.name, by decide, Tryz.func210.trans (congrArg some (by kernel_rfl))⟩
 t0 := Tryz.underlying0
 a0 := Tryz.isAgg0
 z0 := Tryz.sizeOf0
 v0 := Tryz.zeroValue0
 t3 := Tryz.underlying3
 a3 := Tryz.isAgg3
 z3 := Tryz.sizeOf3
 v3 := Tryz.zeroValue3
 t4 := Tryz.underlying4
 a4 := Tryz.isAgg4
 z4 := Tryz.sizeOf4
 v4 := Tryz.zeroValue4
 t5 := Tryz.underlying5
 a5 := Tryz.isAgg5
 z5 := Tryz.sizeOf5
 v5 := Tryz.zeroValue5
 t9 := Tryz.underlying9
 a9 := Tryz.isAgg9
 z9 := Tryz.sizeOf9
 v9 := Tryz.zeroValue9
 t22 := Tryz.underlying33
 a22 := Tryz.isAgg33
 z22 := Tryz.sizeOf33
 v22 := Tryz.zeroValue33
 t23 := Tryz.underlying33
 a23 := Tryz.isAgg33
 z23 := Tryz.sizeOf33
 v23 := Tryz.zeroValue33
 t25 := Tryz.underlying3
 a25 := Tryz.isAgg3
 z25 := Tryz.sizeOf3
 v25 := Tryz.zeroValue3
 t32 := Tryz.underlying151
 a32 := Tryz.isAgg151
 z32 := Tryz.sizeOf151
 v32 := Tryz.zeroValue151
 t35 := Tryz.underlying213
 a35 := Tryz.isAgg213
 z35 := Tryz.sizeOf213
 v35 := Tryz.zeroValue213
 t36 := Tryz.underlying214
 a36 := Tryz.isAgg214
 z36 := Tryz.sizeOf214
 v36 := Tryz.zeroValue214
 t41 := Tryz.underlying163
 a41 := Tryz.isAgg163
 z41 := Tryz.sizeOf163
 v41 := Tryz.zeroValue163
 t44 := Tryz.underlying186
 a44 := Tryz.isAgg186
 z44 := Tryz.sizeOf186
 v44 := Tryz.zeroValue186
 t46 := Tryz.underlying23
 a46 := Tryz.isAgg23
 z46 := Tryz.sizeOf23
 v46 := Tryz.zeroValue23
 t53 := Tryz.underlying245
 a53 := Tryz.isAgg245
 z53 := Tryz.sizeOf245
 v53 := Tryz.zeroValue245
 t57 := Tryz.underlying248
 a57 := Tryz.isAgg248
 z57 := Tryz.sizeOf248
 v57 := Tryz.zeroValue248
 t63 := Tryz.underlying261
 a63 := Tryz.isAgg261
 z63 := Tryz.sizeOf261
 v63 := Tryz.zeroValue261
 t64 := Tryz.underlying262
 a64 := Tryz.isAgg262
 z64 := Tryz.sizeOf262
 v64 := Tryz.zeroValue262 }
end Go.Proofs.YtgljoledlhmhnaaGreatDoor
namespace Go.Proofs.YtgljoledlhmhnaaGreatDoor
open Go Gx
variable {w w' : World} {fm : Fm} {R : List Rec} {r : Rec}
theorem Ext.of_below (h : Go.RowKit.Below w.heap.size w w') : Ext w w' := ⟨h.os, h.tape, h.output, h.size, fun k hk _ => h.block k hk⟩
theorem OwnS.of_row {sz : Nat} {T : TypeId} {base : Nat} {v : Value} {n : Nat} {xs : List Value} (h : w.ownsRow base T sz v n xs) : ∃ s : Sl, v = .slice s.a s.len s.cap ∧ OwnS sz T w s xs ∧ s.len = n ∧ ∀ q, ownB s q → base ≤ q := by
 obtain ⟨h1, ⟨rfl, rfl⟩ | ⟨g, cap, cur, rfl, hb, hg, h2, h3, h4, h5⟩⟩ := h
 · have : xs = [] := List.length_eq_zero_iff.1 (by omega)
   subst this
   exact ⟨⟨none, 0, 0⟩, rfl, OwnS.none _ _ _, rfl, fun q hq => (ownB_none q hq).elim⟩
 · refine ⟨⟨some ⟨g, 0, none⟩, n, cap⟩, rfl, OwnS.mk' hg h1 h2 h3 h4 h5, rfl, fun q hq => ?_⟩
   rw [← ownB_some.1 hq]; exact hb
def RU : Value → Option (DataW Unit × List MemPlace) := fun _ => some (.lit (.bool true), [])
theorem ownsInt {q : Nat} {M : List (Int × Value)} (h : MapK w q encI M) (hM : M.length ≤ 1000000) (hr : ∀ x ∈ M, -9223372036854775808 ≤ x.1 ∧ x.1 ≤ 9223372036854775807) :
   ∃ D : DataW Unit, w.ownsMap Tryz.prog Ty.int RU q M.length D ∧ (intKeys D).Perm (M.map (·.1)) ∧ Maps.size D = M.length := by
 obtain ⟨L, clk, hb, h1, h2, h3, h4⟩ := h
 have hl : L.length = M.length := by rw [← h1.length_eq, List.length_map]
 have hk : ∀ x ∈ L, -9223372036854775808 ≤ x.1 ∧ x.1 ≤ 9223372036854775807 := fun x hx => hr (kvM x) (h1.mem_iff.1 (List.mem_map.2 ⟨x, hx, rfl⟩))
 have hrd : ∀ x ∈ L, Go.WideElems.rd Tryz.prog Ty.int RU (entM encI x) = some (.int .i64 x.1, .lit (.bool true)) := fun x hx => by
   have hw : (Lit.int .i64 x.1).wf = true := by
     have := hk x hx
     simp [Lit.wf, IntKind.min, IntKind.max, IntKind.signed, IntKind.bits]; omega
   exact Go.WideElems.rd_mk (R := RU) (yv := (.lit (.bool true), [])) (Maps.keyOf_int_mk (k := Ty.int) (by kernel_rfl) hw) rfl
 have hmp : ((L.map (entM encI)).map (Go.WideElems.rg Tryz.prog Ty.int RU)) = L.map fun x => (Lit.int .i64 x.1, DataW.lit (.bool true)) := by
   rw [List.map_map]
   refine List.map_congr_left fun x hx => ?_
   have := Go.WideElems.rg_of (hrd x hx)
   simp only [Function.comp_apply]
   exact this
 have hF : Go.WideElems.Fit Tryz.prog Ty.int RU (L.map (entM encI)).toArray clk := by
   refine ⟨by simp [hl]; unfold maxLen; omega, ⟨fun x hx => ?_, ?_, ?_⟩, fun x hx => ?_⟩
   · obtain ⟨y, hy, rfl⟩ := List.mem_map.1 (by simpa using hx : x ∈ L.map (entM encI))
     exact h4 y hy
   · simp only [List.map_map]
     exact h3
   · simp only [List.map_map]
     have : ((fun e : MapEntry => e.key) ∘ entM encI) = fun x : Int × Value × Nat => encI x.1 := rfl
     show (L.map ((fun e : MapEntry => e.key) ∘ entM encI)).Nodup
     rw [this]
     have e : (L.map fun x : Int × Value × Nat => encI x.1) = (L.map (·.1)).map encI := by rw [List.map_map]; rfl
     rw [e]
     exact List.Pairwise.map encI (fun a b hab he => hab (by cases he; rfl)) h2
   · obtain ⟨y, hy, rfl⟩ := List.mem_map.1 (by simpa using hx : x ∈ L.map (entM encI))
     exact ⟨_, hrd y hy⟩
 have hsp := Go.WideShapes.sorted_perm (L.map fun x => (Lit.int .i64 x.1, (DataW.lit (.bool true) : DataW Unit)))
 refine ⟨_, ⟨_, clk, hb, hF, by simp [hl], rfl⟩, ?_, ?_⟩
 · simp only [hmp]
   show (List.map (fun p : Lit × DataW Unit => Go.intOf p.1) _).Perm _
   refine (hsp.map _).trans ?_
   rw [List.map_map]
   have := h1.map (·.1)
   rw [List.map_map] at this
   exact this
 · simp only [hmp]
   show List.length _ = _
   rw [hsp.length_eq, List.length_map, hl]
theorem sorts_in (m : Nat) : AnyZI.SortsIn Tryz.prog sortedA_ren Fence.wide m :=
 ⟨fun blk off cap ss W hH hblk hsz => callsIn_wide.2 (AnyM.slices_Sort_int sortA blk off cap ss W hH hblk hsz), fun p cap W => callsIn_wide.2 (AnyM.slices_Sort_int_none sortA p cap W)⟩
theorem sortedKeys {q : Nat} {M : List (Int × Value)} (h : MapK w q encI M) (hM : M.length ≤ 1000000) (hr : ∀ x ∈ M, -9223372036854775808 ≤ x.1 ∧ x.1 ≤ 9223372036854775807) :
   Ret Tryz.prog F.slices_Sorted_int #[.func (.func F.maps_Keys_map_int_P_api_Service_int_P_api_Service_1) #[] #[.pointer (some ⟨w.heap.size, 0, none⟩)]] (w.alloc (.cells #[.map (some q)] Ty.map_int_P_api_Service))
     (fun v w' => ∃ (s : Sl) (ids : List Int), v = .slice s.a s.len s.cap ∧ OwnS 1 Ty.int w' s (ids.map encI) ∧ s.len = ids.length ∧ ids.Perm (M.map (·.1)) ∧ ids.Pairwise (fun a b => decide (a ≤ b) = true) ∧ Ext w w' ∧ ∀ k, ownB s k → w.heap.size ≤ k) := by
 have hx1 : Ext w (w.alloc (.cells #[.map (some q)] Ty.map_int_P_api_Service)) := Chg.alloc (.refl _ _) _
 have hs1 : (w.alloc (.cells #[.map (some q)] Ty.map_int_P_api_Service)).heap.size = w.heap.size + 1 := by simp
 obtain ⟨D, hown, hperm, hsz⟩ := ownsInt (h.ext hx1) hM hr
 have hseq := AnyZI.keys_gives (ρ := keysA_ren) { keysA with } Fence.wide 2 trivial rfl (by omega) w.heap.size q M.length D (w.alloc (.cells #[.map (some q)] Ty.map_int_P_api_Service)) (by omega) (by simp) hown
 have cS := AnyZI.sorted_in sortedA Fence.wide 5 trivial trivial trivial trivial rfl (by omega) (sorts_in _) (enters_of Tryz.func131 (by kernel_rfl) rfl) F.maps_Keys_map_int_P_api_Service_int_P_api_Service_1 #[.pointer (some ⟨w.heap.size, 0, none⟩)] trivial (enters_of Tryz.func132 (by kernel_rfl) rfl) _ _ (by rw [hsz]; unfold maxLen; omega) (by rw [hsz]; omega) _ hseq
 have cS' := callsIn_wide.1 (cS.mono (R' := fun e w' => ∃ v, e = .returned v ∧ ∃ (s : Sl) (ids : List Int), v = .slice s.a s.len s.cap ∧ OwnS 1 Ty.int w' s (ids.map encI) ∧ s.len = ids.length ∧ ids.Perm (M.map (·.1)) ∧ ids.Pairwise (fun a b => decide (a ≤ b) = true) ∧ Ext w w' ∧ ∀ k, ownB s k → w.heap.size ≤ k) ?_)
 · exact cS'
 · rintro e w2 ⟨v, ss, rfl, hS, hrow, _, hb⟩
   obtain ⟨s, rfl, ho, hl, hfr⟩ := OwnS.of_row hrow
   refine ⟨_, rfl, s, ss.mergeSort (fun x y => decide (x ≤ y)), rfl, ho, by rw [hl, List.length_mergeSort], ?_, ?_, Ext.trans hx1 (Ext.of_below hb), fun k hk => by have := hfr k hk; omega⟩
   · exact (List.mergeSort_perm _ _).trans (hS.trans hperm)
   · exact List.pairwise_mergeSort (fun a b c h1 h2 => by simp only [decide_eq_true_eq] at *; omega) (fun a b => by simp only [Bool.or_eq_true, decide_eq_true_eq]; omega) ss
theorem ids_unique : ∀ {a b : List Int}, a.Perm b → a.Pairwise (fun x y => decide (x ≤ y) = true) → b.Pairwise (fun x y => x < y) → a = b := by
 intro a b hp ha hb
 refine hp.eq_of_pairwise (le := fun x y => x ≤ y) (fun x y _ _ h1 h2 => by omega) (ha.imp fun h => of_decide_eq_true h) (hb.imp fun h => by omega)
theorem farm_IDs (h : FarmAt w fm R) (hok : ∀ r ∈ R, idOk r.s.id = true) : Ret Tryz.prog F.farm_Farm_IDs #[.pointer (some ⟨fm.p, 0, none⟩)] w
   (fun v w' => ∃ s : Sl, v = .slice s.a s.len s.cap ∧ OwnS 1 Ty.int w' s ((R.map fun r => r.s.id).map encI) ∧ s.len = R.length ∧ Ext w w' ∧ ∀ k, ownB s k → w.heap.size ≤ k) := by
 refine W.farm_Farm_IDs_ok (some ⟨fm.p, 0, none⟩) w _ ?_
 (delta W.farm_Farm_IDs Br c16 c5; dsimp only)
 refine ⟨fun hn => by simp at hn, fun _ => ⟨_, rfl, _, h.cells.1, ?_⟩⟩
 refine Calls.mono (W.maps_Keys_map_int_P_api_Service_int_P_api_Service_ok (some fm.m1) w (fun v w' => v = .func (.func F.maps_Keys_map_int_P_api_Service_int_P_api_Service_1) #[] #[.pointer (some ⟨w.heap.size, 0, none⟩)] ∧ w.alloc (.cells #[.map (some fm.m1)] Ty.map_int_P_api_Service) = w') ⟨rfl, rfl⟩) ?_
 rintro _ _ ⟨_, rfl, rfl, rfl⟩
 refine ⟨⟨F.maps_Keys_map_int_P_api_Service_int_P_api_Service_1, #[], #[.pointer (some ⟨w.heap.size, 0, none⟩)]⟩, rfl, (sortedKeys h.k1 (by rw [List.length_map]; have := h.len; omega) (fun x hx => ?_)).use ?_⟩
 · obtain ⟨r, hr, rfl⟩ := List.mem_map.1 hx
   have := hok r hr
   unfold idOk at this
   simp only [Bool.and_eq_true, decide_eq_true_eq] at this
   show _ ≤ r.s.id ∧ r.s.id ≤ _
   omega
 · rintro _ w2 ⟨s, ids, rfl, ho, hl, hp, hpw, hx, hfr⟩
   have e1 : (R.map Rec.e1).map (·.1) = R.map fun r => r.s.id := by rw [List.map_map]; rfl
   rw [e1] at hp
   have : ids = R.map fun r => r.s.id := ids_unique hp hpw (by rw [List.pairwise_map]; exact h.ids)
   subst this
   exact ⟨s, rfl, s, rfl, ho, by rw [hl, List.length_map], hx, hfr⟩
end Go.Proofs.YtgljoledlhmhnaaGreatDoor
namespace Go.Proofs.YtgljoledlhmhnaaGreatDoor
open Go Gx
variable {w w' : World} {fm : Fm} {R : List Rec} {r : Rec}
theorem Src.chg' {sz : Nat} {s : Sl} {vs : List Value} {W : Nat → Prop} (h : Src sz w s vs) (hc : Chg W w w') (hn : ∀ k, ownB s k → k < w.heap.size → ¬ W k) : Src sz w' s vs := by
 refine ⟨h.len, h.nil, fun a ha => ?_⟩
 have hr := h.rd a ha
 cases hv : vs with
 | nil =>
   have h0 := h.len
   rw [hv] at h0
   simp only [List.length_nil] at h0
   rw [← h0]; rfl
 | cons v us =>
   have hl : vs.length = s.len * sz := h.len
   have hc0 : w.cell? (a.add (0 + 0)) = some v := rdGet hr (by rw [hv]; rfl)
   have hlt : a.block < w.heap.size := by
     rw [Nat.add_zero, add_zero'] at hc0
     rcases Nat.lt_or_ge a.block w.heap.size with h1 | h1
     · exact h1
     · have : w.heap[a.block]? = none := by simp [h1]
       simp [World.cell?, this] at hc0
   rw [← hv]
   exact hc.rdCells (hn a.block ⟨a, ha, rfl⟩ hlt) _ _ _ hr
structure SM where
 s : Sv
 k : Sl
 bs : List Bk
def SM.ab (x : SM) : SB := (x.s, x.bs)
def smC (X : List SM) : List Value := (X.map fun x => x.s.c x.k).flatten
theorem smC_cons (x : SM) (X : List SM) : smC (x :: X) = x.s.c x.k ++ smC X := rfl
theorem smC_app (X Y : List SM) : smC (X ++ Y) = smC X ++ smC Y := by simp [smC]
theorem smC_one (x : SM) : smC [x] = x.s.c x.k := by simp [smC]
theorem smC_length : ∀ X : List SM, (smC X).length = X.length * 23
 | [] => rfl
 | x :: X => by rw [smC_cons, List.length_append, smC_length X, Sv.c_length, List.length_cons]; omega
theorem smC_drop : ∀ (X : List SM) (i : Nat), (smC X).drop (i * 23) = smC (X.drop i)
 | [], i => by simp [smC]
 | x :: X, 0 => by simp
 | x :: X, i + 1 => by
   rw [smC_cons, List.drop_append, List.drop_of_length_le (by rw [Sv.c_length]; omega), Sv.c_length, show (i + 1) * 23 - 23 = i * 23 by omega, smC_drop X i]; rfl
structure SvL (w : World) (t : Sl) (X : List SM) : Prop where
 src : Src 23 w t (smC X)
 bk : ∀ x ∈ X, BR w x.k x.bs
 few : ∀ x ∈ X, x.bs.length ≤ 1000
 lim : X.length ≤ 1000
def svB (t : Sl) (X : List SM) (q : Nat) : Prop := ownB t q ∨ ∃ x ∈ X, ownB x.k q
variable {t : Sl} {X : List SM}
theorem SvL.len (h : SvL w t X) : t.len = X.length := by have := h.src.len; rw [smC_length] at this; omega
theorem SvL.chg {W : Nat → Prop} (h : SvL w t X) (hc : Chg W w w') (hn : ∀ q, svB t X q → q < w.heap.size → ¬ W q) : SvL w' t X :=
 ⟨Src.chg' h.src hc fun k hk => hn k (.inl hk), fun x hx => Src.chg' (h.bk x hx) hc fun k hk => hn k (.inr ⟨x, hx, hk⟩), h.few, h.lim⟩
theorem SvL.ext (h : SvL w t X) (hc : Ext w w') : SvL w' t X := h.chg hc fun _ _ _ h => h
theorem SvL.get (h : SvL w t X) {i : Nat} (hi : i < X.length) : ∃ A, t.a = some A ∧ ((0 : Int) ≤ (i : Int) ∧ (i : Int) < ((t.len : Nat) : Int)) ∧ rdCells w (A.add (Int.toNat (i : Int) * 23)) 0 23 = some ((X[i]).s.c (X[i]).k) := by
 have hl := h.len
 cases ha : t.a with
 | none =>
   have := congrArg List.length (h.src.nil ha)
   rw [smC_length, List.length_nil] at this
   omega
 | some A =>
   refine ⟨A, rfl, ⟨by omega, by omega⟩, ?_⟩
   rw [Int.toNat_natCast, rdPart (h.src.rd A ha) (by rw [hl]; omega), smC_drop, List.drop_eq_getElem_cons hi, smC_cons]
   congr 1
   exact List.take_left' (Sv.c_length _ _)
def Sv.zero : Sv := ⟨0, Ad.zero, 0, 0, 0, 0⟩
def Bk.zero : Bk := ⟨0, Ad.zero, 0, 0, false⟩
abbrev nilS : Sl := ⟨none, 0, 0⟩
theorem mkSv0 (w : World) : Sem.run Tryz.prog (Instr.build Ty.api_Service #[]) w = .ok (.agg (Sv.zero.c nilS).toArray) w := by kernel_rfl
theorem mkBk0 (w : World) : Sem.run Tryz.prog (Instr.build Ty.api_Backend #[]) w = .ok (.agg Bk.zero.c.toArray) w := by kernel_rfl
theorem conf_bare (s : Sv) (k : Sl) (w : World) : Ret Tryz.prog F.conf_bare #[.agg (s.c k).toArray] w (fun v w' => v = .agg (s.c nilS).toArray ∧ Ext w w') := by
 refine W.conf_bare_ok _ w _ ?_
 (delta W.conf_bare z1 st nA; dsimp only)
 refine nxVar (vs := s.c k) rfl fun w1 hv hx1 hs1 => nxVar (vs := Sv.zero.c nilS) (by kernel_rfl) fun w2 hz hx2 hs2 => ?_
 have hv2 := hv.ext hx2
 refine ⟨⟨_, (scell hv2).2.2.2.2.2.2⟩, by rw [add_mk]; exact Blk.frozen hv2 _ rfl, ?_⟩
 rw [add_mk]
 refine nxSet hv2 fun w3 hv3 hc3 hs3 => ?_
 have ev : (s.c k).set (0 + 22) (.slice none 0 0) = s.c nilS := s.set22 k nilS
 rw [ev] at hv3
 have hz3 := hz.chg hc3 (by have := hv.lt; omega)
 refine ⟨_, hv3.rd (Sv.c_length _ _), hz3.storeOk (by simp [Sv.c_length]) (Sv.plain _ _), by simp [Sv.c_length], nxPut hz3 (us := s.c nilS) (by simp [Sv.c_length]) rfl fun w5 hz5 hc5 _ => ⟨_, hz5.rd (Sv.c_length _ _), rfl, ?_⟩⟩
 exact Ext.of_chg (Ext.of_chg (Ext.trans hx1 hx2) hc3 (Nat.le_refl _)) hc5 hx1.size
def risesL (l : List Int) : Bool := decide (l.Pairwise (· < ·))
theorem pairwise_of_next {l : List Int} (h : ∀ (i : Nat) (hi : i + 1 < l.length), l[i] < l[i + 1]) : l.Pairwise (· < ·) := by
 rw [List.pairwise_iff_getElem]
 intro i j hi hj hij
 obtain ⟨d, rfl⟩ : ∃ d, j = i + 1 + d := ⟨j - i - 1, by omega⟩
 clear hij
 induction d with
 | zero => exact h i hj
 | succ d ih =>
   have h1 := ih (by omega)
   have h2 := h (i + 1 + d) hj
   exact Int.lt_trans h1 h2
theorem conf_rises {s : Sl} {l : List Int} (hs : Src 1 w s (l.map encI)) (hn : l.length ≤ 1000000) : Ret Tryz.prog F.conf_rises #[.slice s.a s.len s.cap] w (fun v w' => v = .bool (risesL l) ∧ Ext w w') := by
 refine W.conf_rises_ok s w _ ?_
 (delta W.conf_rises Br bd wI r3; dsimp only)
 have hl : s.len = l.length := by have := hs.len; rw [List.length_map] at this; omega
 refine ⟨fun n w' => ∃ i : Nat, n = (i : Int) + 1 ∧ (i + 1 ≤ l.length ∨ i = 0) ∧ Ext w w' ∧ ∀ (j : Nat) (hj : j + 1 < l.length), j < i → l[j] < l[j + 1], fun n _ => (s.len + 1 - n).toNat, ⟨0, rfl, .inr rfl, .refl _ _, fun j hj h => by omega⟩, ?_⟩
 rintro _ w4 ⟨i, rfl, hi, hx4, hno⟩
 have e1 : IntKind.wrap .i64 ((i : Int) + 1 - 1) = (i : Int) := by rw [wrapi (by omega) (by omega)]; omega
 rw [e1]
 refine ⟨fun h => ?_, fun h => ?_⟩
 · have hlt : (i : Int) + 1 < ((s.len : Nat) : Int) := of_decide_eq_true h
   have hlt : i + 1 < l.length := by omega
   have hd : Ext w4 w4.drew := Chg.drew (.refl _ _)
   have hX5 := Ext.trans hx4 hd
   have hs5 := hs.ext hX5
   have hA : ∃ A, s.a = some A := by
     cases ha : s.a with
     | none =>
       have := congrArg List.length (hs.nil ha)
       rw [List.length_map, List.length_nil] at this
       omega
     | some A => exact ⟨A, rfl⟩
   obtain ⟨A, hA⟩ := hA
   have hcell : ∀ (j : Nat) (hj : j < l.length), w4.drew.cell? (A.add (j * 1)) = some (.int .i64 l[j]) := fun j hj => by
     have := rdGet (hs5.rd A hA) (j := j) (v := .int .i64 l[j]) (by simp [hj])
     rw [Nat.zero_add] at this
     rwa [Nat.mul_one]
   have ew : IntKind.wrap .i64 ((i : Int) + 1 + 1) = ((i + 1 : Nat) : Int) + 1 := by rw [wrapi (by omega) (by omega)]; omega
   rw [ew]
   have hms : (((s.len : Nat) : Int) + 1 - (((i + 1 : Nat) : Int) + 1)).toNat < (((s.len : Nat) : Int) + 1 - ((i : Int) + 1)).toNat := by omega
   refine nx ⟨A, hA, ⟨by omega, by omega⟩, id, l[i], by rw [Int.toNat_natCast]; exact hcell i (by omega), A, hA, ⟨by omega, by omega⟩, id, l[i + 1], by rw [show ((i : Int) + 1).toNat = i + 1 by omega]; exact hcell (i + 1) hlt, fun hg => ?_, fun hg => ?_⟩
   · have hg := of_decide_eq_true hg
     refine ⟨?_, hX5⟩
     congr 1
     symm
     refine decide_eq_false fun hp => ?_
     have := List.pairwise_iff_getElem.1 hp i (i + 1) (by omega) hlt (by omega)
     omega
   · have hg := of_decide_eq_false hg
     refine ⟨⟨i + 1, rfl, .inl (by omega), hX5, fun j hj hji => ?_⟩, hms⟩
     rcases Nat.lt_or_ge j i with h3 | h3
     · exact hno j hj h3
     · have : j = i := by omega
       subst this; omega
 · have hge : ¬ (i : Int) + 1 < ((s.len : Nat) : Int) := of_decide_eq_false h
   refine ⟨?_, hx4⟩
   congr 1
   symm
   exact decide_eq_true (pairwise_of_next fun j hj => hno j hj (by omega))
def undr (b : Bk) : Bk := { b with drained := false }
def layB (sid : Int) : List SB → List Bk → Option (List SB)
 | L, [] => some L
 | L, b :: bs => if (addBackend L sid (undr b)).1 = 0 then layB sid (addBackend L sid (undr b)).2 bs else none
theorem layB_snoc (sid : Int) : ∀ (L : List SB) (bs : List Bk) (b : Bk), layB sid L (bs ++ [b]) = (layB sid L bs).bind fun L' => if (addBackend L' sid (undr b)).1 = 0 then some (addBackend L' sid (undr b)).2 else none
 | L, [], b => by simp [layB]
 | L, c :: bs, b => by
   simp only [List.cons_append, layB]
   split
   · exact layB_snoc sid _ bs b
   · rfl
theorem layB_none {sid : Int} : ∀ {L : List SB} {bs : List Bk} (cs : List Bk), layB sid L bs = none → layB sid L (bs ++ cs) = none
 | L, [], cs, h => by simp [layB] at h
 | L, b :: bs, cs, h => by
   simp only [List.cons_append, layB] at h ⊢
   split
   · rename_i h0
     rw [if_pos h0] at h
     exact layB_none cs h
   · rfl
def layS (L : List SB) (x : SB) : Option (List SB) :=
 if (addService L x.1 nilS).1 = 0 then
   match layB x.1.id (addService L x.1 nilS).2 x.2 with
   | some L' => if risesL (x.2.map (·.id)) then some L' else none
   | none => none
 else none
theorem appInt : AppT Tryz.prog Ty.Sl_int Ty.int 1 8 := ⟨by kernel_rfl⟩
theorem foot_type (h : FarmAt w fm R) {q : Nat} {c : Array Value} {T : TypeId} (hq : foot fm R q) (hB : Blk w q c T) : T = Ty.farm_Farm ∨ T = Ty.api_Service ∨ T = Ty.api_Backend := by
 rcases hq with rfl | rfl | rfl | ⟨r, hr, rfl | hq⟩
 · exact .inl (Blk.inj hB h.v).2
 · exact (h.k1.notVar hB).elim
 · exact (h.k2.notVar hB).elim
 · exact .inr (.inl (Blk.inj hB (h.sv r hr)).2)
 · exact .inr (.inr ((h.bk r hr).notVar hq hB).symm)
theorem OwnS.blk {sz : Nat} {T : TypeId} {s : Sl} {vs : List Value} (h : OwnS sz T w s vs) {q : Nat} (hq : ownB s q) : ∃ c, Blk w q c T := by
 obtain ⟨A, hA, rfl⟩ := hq
 obtain ⟨_, _, _, ⟨hn, _⟩ | ⟨b, c, hb, hblk, _⟩⟩ := h
 · rw [hn] at hA; cases hA
 · rw [hb] at hA; cases hA; exact ⟨c, hblk⟩
theorem chgThen {W V : Nat → Prop} {w2 : World} (h1 : Chg W w w') (h2 : Chg V w' w2) (hV : ∀ q, V q → W q ∨ w.heap.size ≤ q) : Chg W w w2 :=
 ⟨h2.os.trans h1.os, h2.tape.trans h1.tape, h2.output.trans h1.output, Nat.le_trans h1.size h2.size, fun k hk hW => by
   rw [h2.block k (Nat.lt_of_lt_of_le hk h1.size) (fun hv => (hV k hv).elim hW fun h => by omega), h1.block k hk hW]⟩
theorem conf_lays (h : FarmAt w fm R) (x : SM) (hbkC : ∀ w', Chg (foot fm R) w w' → BR w' x.k x.bs) (hkn : x.bs.length ≤ 1000) :
   Ret Tryz.prog F.conf_lays #[.pointer (some ⟨fm.p, 0, none⟩), .agg (x.s.c x.k).toArray] w (fun v w' => v = .bool (layS (absR R) x.ab).isSome ∧ Chg (foot fm R) w w' ∧
     ∀ L', layS (absR R) x.ab = some L' → ∃ R', FarmAt w' fm R' ∧ absR R' = L' ∧ ∀ q, foot fm R' q → foot fm R q ∨ w.heap.size ≤ q) := by
 refine W.conf_lays_ok (some ⟨fm.p, 0, none⟩) _ w _ ?_
 (delta W.conf_lays nA c15 c5 c1 Br r1 ix al z5 r3 st wI c9; dsimp only)
 refine nxVar (vs := x.s.c x.k) rfl fun w1 hv hx1 hs1 => ⟨_, hv.rd (Sv.c_length _ _), (conf_bare x.s x.k w1).use ?_⟩
 rintro _ w3 ⟨rfl, hx3⟩
 have hX3 := Ext.trans hx1 hx3
 have h3 := h.ext hX3
 have hv3 := hv.ext hx3
 refine ⟨_, rfl, (farm_AddService' h3 x.s nilS).use ?_⟩
 rintro _ w6 ⟨rfl, R1, h6, hab6, hc6, hf6⟩
 have hC6 : Chg (foot fm R) w w6 := (Chg.of_ext hX3).trans hc6
 obtain ⟨e, he⟩ : ∃ e, e = (addService (absR R) x.s nilS).1 := ⟨_, rfl⟩
 rw [← he]
 refine ⟨_, rfl, fun hne => ?_, fun hz => ?_⟩
 · have hne : e ≠ 0 := by simpa using hne
   have hl : layS (absR R) x.ab = none := by
     unfold layS SM.ab
     rw [if_neg (by rw [← he]; exact hne)]
   rw [hl]
   exact ⟨rfl, hC6, fun L' hL => by cases hL⟩
 have hz : e = 0 := by simpa using hz
 have hnf : ¬ foot fm R w.heap.size := fun hq => by have := h.lt hq; omega
 have hf6' : ∀ q, foot fm R1 q → foot fm R q ∨ w1.heap.size ≤ q := fun q hq => (hf6 q hq).imp id fun h => Nat.le_trans hx3.size h
 have hv6 : Var w6 w.heap.size (x.s.c x.k) Ty.api_Service := hv3.chg hc6 hnf
 have hk : BR w x.k x.bs := hbkC w (.refl _ _)
 have hkl := BR.len hk
 have hl1 : (addService (absR R) x.s nilS).2 = absR R1 := hab6.symm
 refine ⟨x.k, (scell hv6).2.2.2.2.2.2, fun s12 n w' => ∃ (i : Nat) (Ri : List Rec), n = i ∧ i ≤ x.bs.length ∧ FarmAt w' fm Ri ∧ layB x.s.id (absR R1) (x.bs.take i) = some (absR Ri) ∧ OwnS 1 Ty.int w' s12 (((x.bs.take i).map (·.id)).map encI) ∧
     (∀ q, ownB s12 q → w1.heap.size ≤ q) ∧ Chg (foot fm R) w w' ∧ (∀ q, foot fm Ri q → foot fm R q ∨ w1.heap.size ≤ q) ∧ Var w' w.heap.size (x.s.c x.k) Ty.api_Service ∧ w1.heap.size ≤ w'.heap.size, fun _ n _ => (x.k.len - n).toNat,
   ⟨0, R1, rfl, Nat.zero_le _, h6, by simp [layB], by simpa using OwnS.none 1 Ty.int w6, fun q hq => (ownB_none q hq).elim, hC6, hf6', hv6, Nat.le_trans hx3.size hc6.size⟩, ?_⟩
 rintro s12 _ w14 ⟨i, Ri, rfl, hi, h14, hlay, ho, hof, hC14, hf14, hv14, hsz14⟩
 have hbk14 := hbkC _ hC14
 have hlayS : layS (absR R) x.ab = match layB x.s.id (absR R1) x.bs with | some L' => if risesL (x.bs.map (·.id)) then some L' else none | none => none := by
   unfold layS SM.ab
   rw [if_pos (by rw [← he]; exact hz)]
   simp only
   rw [hl1]
 refine ⟨fun hlt => ?_, fun hge => ?_⟩
 · have hlt : (i : Int) < ((x.k.len : Nat) : Int) := of_decide_eq_true hlt
   have hlt : i < x.bs.length := by omega
   obtain ⟨A, hA, hbd, hrd⟩ := BR.get hbk14 hlt
   obtain ⟨b, hb⟩ : ∃ b, b = x.bs[i] := ⟨_, rfl⟩
   rw [← hb] at hrd
   have htk : x.bs.take (i + 1) = x.bs.take i ++ [b] := by rw [hb]; exact List.take_succ_eq_append_getElem hlt
   refine ⟨A, hA, hbd, _, hrd, nxVar (vs := Bk.zero.c) (by kernel_rfl) fun w17 hz17 hx17 hs17 => ⟨hz17.storeOk (by simp [Bk.c_length]) (Bk.plain _), by simp [Bk.c_length], nxPut hz17 (us := b.c) (by simp [Bk.c_length]) rfl fun w18 hb18 hc18 hs18 => ?_⟩⟩
   have hx18 : Ext w14 w18 := Ext.of_chg hx17 hc18 (Nat.le_refl _)
   have ho18 := ho.ext hx18
   have hil : s12.len = i := by have := ho.1; simp at this; omega
   obtain ⟨s', w', g1, g2, g3, g4, g5⟩ := appInt.push (oT := Ty.Sl_int) (xs := [.int .i64 b.id]) rfl ho18 (by simp [Plain]) (by omega)
   refine ⟨b.id, hb18.cell, nx ⟨s', w', g1, ?_⟩⟩
   have h18 := h14.ext hx18
   have hnt : ∀ q, ownB s12 q → ¬ foot fm Ri q := fun q hq hfq => by
     obtain ⟨c, hB⟩ := OwnS.blk ho hq
     rcases foot_type h14 hfq hB with e | e | e <;> exact absurd e (by decide)
   have h22 : FarmAt w' fm Ri := h18.chg g4 fun q hq hs => hnt q hs hq
   have hb22 : Var w' w14.heap.size b.c Ty.api_Backend := hb18.chg g4 fun hq => by have := ho.lt _ hq; omega
   refine ⟨⟨_, (bcell hb22).2.2.2.2⟩, by rw [add_mk]; exact Blk.frozen hb22 _ rfl, ?_⟩
   rw [add_mk]
   refine nxSet hb22 fun w23 hb23 hc23 hs23 => ?_
   have ev : b.c.set (0 + 20) (.bool false) = (undr b).c := Bk.setD b false
   rw [ev] at hb23
   have hnf14 : ∀ q, foot fm Ri q → q < w14.heap.size := fun q hq => h14.lt hq
   have h23 : FarmAt w23 fm Ri := h22.chg hc23 fun q hq e => by have := hnf14 q hq; omega
   -- from the round's beginning to here nothing of the farm and of what was there has turned
   have hW : ∀ q, ownB s12 q ∨ q = w14.heap.size → w1.heap.size ≤ q := fun q hq => hq.elim (hof q) fun e => by omega
   have hc23' : Chg (fun q => ownB s12 q ∨ q = w14.heap.size) w14 w23 := (Chg.of_ext hx18).trans ((Chg.mono g4 fun _ _ h => .inl h).trans (Chg.mono hc23 fun _ _ h => .inr h))
   have hv23 : Var w23 w.heap.size (x.s.c x.k) Ty.api_Service := hv14.chg hc23' fun hq => by have := hW _ hq; omega
   have hC23 : Chg (foot fm R) w w23 := chgThen hC14 hc23' fun q hq => .inr (by have := hW q hq; omega)
   refine ⟨x.s.id, (scell hv23).1, _, hb23.rd (Bk.c_length _), (farm_AddBackend h23 x.s.id (undr b)).use ?_⟩
   rintro _ w26 ⟨rfl, R2, h26, hab26, hc26, hf26⟩
   have hC26 : Chg (foot fm R) w w26 := chgThen hC23 hc26 fun q hq => (hf14 q hq).imp id fun h => by omega
   obtain ⟨e2, he2⟩ : ∃ e2, e2 = (addBackend (absR Ri) x.s.id (undr b)).1 := ⟨_, rfl⟩
   rw [← he2]
   have hdr : x.bs = x.bs.take (i + 1) ++ x.bs.drop (i + 1) := (List.take_append_drop _ _).symm
   refine ⟨_, rfl, fun hne => ?_, fun hz2 => ?_⟩
   · have hne : e2 ≠ 0 := by simpa using hne
     have hl : layS (absR R) x.ab = none := by
       have : layB x.s.id (absR R1) x.bs = none := by
         rw [hdr]
         refine layB_none _ ?_
         rw [htk, layB_snoc, hlay]
         simp only [Option.bind_some]
         rw [if_neg (by rw [← he2]; exact hne)]
       rw [hlayS, this]
     rw [hl]
     exact ⟨rfl, hC26, fun L' hL => by cases hL⟩
   have hz2 : e2 = 0 := by simpa using hz2
   have ew : IntKind.wrap .i64 ((i : Int) + 1) = ((i + 1 : Nat) : Int) := by rw [wrapi (by omega) (by omega)]; rfl
   rw [ew]
   have hms : (((x.k.len : Nat) : Int) - ((i + 1 : Nat) : Int)).toNat < (((x.k.len : Nat) : Int) - (i : Int)).toNat := by omega
   have hf26' : ∀ q, foot fm R2 q → foot fm R q ∨ w1.heap.size ≤ q := fun q hq => by
     rcases hf26 q hq with h1 | h1
     · exact hf14 q h1
     · have := hc23'.size; exact .inr (by omega)
   have hs'lt : ∀ q, ownB s' q → q < w'.heap.size := fun q hq => g2.lt q hq
   have ho23 : OwnS 1 Ty.int w23 s' ((((x.bs.take i).map (·.id)).map encI) ++ [.int .i64 b.id]) := g2.chg hc23 fun q hq e => by
     subst e
     rcases g5 _ hq with h1 | h1
     · have := ho.lt _ h1; omega
     · have := hb18.lt; omega
   have ho26 : OwnS 1 Ty.int w26 s' (((x.bs.take (i + 1)).map (·.id)).map encI) := by
     have h1 := ho23.chg hc26 fun q hq hfq => by
       obtain ⟨c, hB⟩ := OwnS.blk ho23 hq
       rcases foot_type h23 hfq hB with e | e | e <;> exact absurd e (by decide)
     rw [htk, List.map_append, List.map_append]
     exact h1
   refine ⟨⟨i + 1, R2, rfl, hlt, h26, ?_, ho26, fun q hq => ?_, hC26, hf26', hv23.chg hc26 fun hq => ?_, Nat.le_trans hsz14 (Nat.le_trans hc23'.size hc26.size)⟩, hms⟩
   · rw [htk, layB_snoc, hlay]
     simp only [Option.bind_some]
     rw [if_pos (by rw [← he2]; exact hz2), hab26]
   · rcases g5 q hq with h1 | h1
     · exact hof q h1
     · have := hx18.size; omega
   · rcases hf14 _ hq with h1 | h1
     · exact hnf h1
     · omega
 · have hge : ¬ (i : Int) < ((x.k.len : Nat) : Int) := of_decide_eq_false hge
   have hie : i = x.bs.length := by omega
   subst hie
   rw [List.take_length] at hlay ho
   refine (conf_rises (l := x.bs.map (·.id)) ho.src (by rw [List.length_map]; omega)).use ?_
   rintro _ w29 ⟨rfl, hx29⟩
   have hls : layS (absR R) x.ab = if risesL (x.bs.map (·.id)) then some (absR Ri) else none := by rw [hlayS, hlay]
   refine ⟨_, rfl, ?_, hC14.trans (Chg.of_ext hx29), fun L' hL => ?_⟩
   · rw [hls]
     cases risesL (x.bs.map (·.id)) <;> rfl
   · rw [hls] at hL
     cases hr : risesL (x.bs.map (·.id)) with
     | false => rw [hr] at hL; cases hL
     | true =>
       rw [hr] at hL
       cases hL
       exact ⟨Ri, h14.ext hx29, rfl, fun q hq => (hf14 q hq).imp id fun h => by omega⟩
def layAll : List SB → List SB → Option (List SB)
 | L, [] => some L
 | L, x :: X => match layS L x with
   | some L' => layAll L' X
   | none => none
def goodL (X : List SB) : Bool := (layAll [] X).isSome && risesL (X.map fun x => x.1.id)
theorem layAll_snoc : ∀ (L X : List SB) (x : SB), layAll L (X ++ [x]) = (layAll L X).bind fun L' => layS L' x
 | L, [], x => by
   simp only [List.nil_append, layAll, Option.bind_some]
   cases layS L x <;> rfl
 | L, y :: X, x => by
   simp only [List.cons_append, layAll]
   cases layS L y with
   | none => rfl
   | some L' => exact layAll_snoc L' X x
theorem layAll_none : ∀ {L X : List SB} (Y : List SB), layAll L X = none → layAll L (X ++ Y) = none
 | L, [], Y, h => by simp [layAll] at h
 | L, y :: X, Y, h => by
   simp only [List.cons_append, layAll] at h ⊢
   cases hl : layS L y with
   | none => rfl
   | some L' => rw [hl] at h; exact layAll_none Y h
theorem conf_good (hl : SvL w t X) : Ret Tryz.prog F.conf_good #[.slice t.a t.len t.cap] w (fun v w' => v = .bool (goodL (X.map SM.ab)) ∧ Ext w w') := by
 refine W.conf_good_ok t w _ ?_
 (delta W.conf_good c11 Br ix al z1 r3 nA c9 wI; dsimp only)
 refine (farm_New w).use ?_
 rintro _ w1 ⟨fm, rfl, h1, hx1, hnew⟩
 have hlen := hl.len
 have hlim := hl.lim
 refine ⟨_, rfl, fun s6 n w' => ∃ (i : Nat) (Ri : List Rec), n = i ∧ i ≤ X.length ∧ FarmAt w' fm Ri ∧ layAll [] ((X.map SM.ab).take i) = some (absR Ri) ∧ OwnS 1 Ty.int w' s6 ((((X.map SM.ab).take i).map fun x => x.1.id).map encI) ∧ Ext w w' ∧ (∀ q, foot fm Ri q → w.heap.size ≤ q) ∧ ∀ q, ownB s6 q → w.heap.size ≤ q,
   fun _ n _ => (t.len - n).toNat, ⟨0, [], rfl, Nat.zero_le _, h1, by simp [layAll, absR], by simpa using OwnS.none 1 Ty.int w1, hx1, hnew, fun q hq => (ownB_none q hq).elim⟩, ?_⟩
 rintro s6 _ w8 ⟨i, Ri, rfl, hi, h8, hlay, ho, hx8, hf8, hof⟩
 refine ⟨fun hlt => ?_, fun hge => ?_⟩
 · have hlt : (i : Int) < ((t.len : Nat) : Int) := of_decide_eq_true hlt
   have hlt : i < X.length := by omega
   have hl8 := hl.ext hx8
   obtain ⟨A, hA, hbd, hrd⟩ := hl8.get hlt
   obtain ⟨x, hxe⟩ : ∃ x, x = X[i] := ⟨_, rfl⟩
   have hxm : x ∈ X := by rw [hxe]; exact List.getElem_mem _
   rw [← hxe] at hrd
   have htk : (X.map SM.ab).take (i + 1) = (X.map SM.ab).take i ++ [x.ab] := by rw [List.take_succ_eq_append_getElem (by simpa using hlt)]; simp [hxe]
   refine ⟨A, hA, hbd, _, hrd, nxVar (vs := Sv.zero.c nilS) (by kernel_rfl) fun w11 hz11 hx11 hs11 => ⟨hz11.storeOk (by simp [Sv.c_length]) (Sv.plain _ _), by simp [Sv.c_length], nxPut hz11 (us := x.s.c x.k) (by simp [Sv.c_length]) rfl fun w12 hv12 hc12 hs12 => ?_⟩⟩
   have hx12 : Ext w8 w12 := Ext.of_chg hx11 hc12 (Nat.le_refl _)
   have ho12 := ho.ext hx12
   have hil : s6.len = i := by have := ho.1; simp at this; omega
   obtain ⟨s', w', g1, g2, g3, g4, g5⟩ := appInt.push (oT := Ty.Sl_int) (xs := [.int .i64 x.s.id]) rfl ho12 (by simp [Plain]) (by omega)
   refine ⟨x.s.id, hv12.cell, nx ⟨s', w', g1, ?_⟩⟩
   have hX12 := Ext.trans hx8 hx12
   have hX16 : Ext w w' := Ext.of_new hX12 g4 hof
   have hv16 : Var w' w8.heap.size (x.s.c x.k) Ty.api_Service := hv12.chg g4 fun hq => by have := ho.lt _ hq; omega
   have h16 : FarmAt w' fm Ri := (h8.ext hx12).chg g4 fun q hq hs => by
     obtain ⟨c, hB⟩ := OwnS.blk ho hs
     rcases foot_type h8 hq hB with e | e | e <;> exact absurd e (by decide)
   refine ⟨_, hv16.rd (Sv.c_length _ _), (conf_lays h16 x (fun w2 hc2 => (hl.bk x hxm).ext (Ext.of_new hX16 hc2 hf8)) (hl.few x hxm)).use ?_⟩
   rintro _ w18 ⟨rfl, hc18, hL⟩
   have hX18 : Ext w w18 := Ext.of_new hX16 hc18 hf8
   refine ⟨_, rfl, fun hb => ?_, fun hb => ?_⟩
   · have hb : layS (absR Ri) x.ab = none := by simpa using hb
     have : layAll [] (X.map SM.ab) = none := by
       rw [← List.take_append_drop (i + 1) (X.map SM.ab)]
       refine layAll_none _ ?_
       rw [htk, layAll_snoc, hlay]
       exact hb
     exact ⟨by unfold goodL; rw [this]; rfl, hX18⟩
   · have hb : (layS (absR Ri) x.ab).isSome = true := by simpa using hb
     obtain ⟨L', hL'⟩ := Option.isSome_iff_exists.1 hb
     obtain ⟨R2, h18, hab, hf18⟩ := hL L' hL'
     have ew : IntKind.wrap .i64 ((i : Int) + 1) = ((i + 1 : Nat) : Int) := by rw [wrapi (by omega) (by omega)]; rfl
     rw [ew]
     have hms : (((t.len : Nat) : Int) - ((i + 1 : Nat) : Int)).toNat < (((t.len : Nat) : Int) - (i : Int)).toNat := by omega
     have hsz := hX16.size
     refine ⟨⟨i + 1, R2, rfl, hlt, h18, ?_, ?_, hX18, fun q hq => ?_, fun q hq => ?_⟩, hms⟩
     · rw [htk, layAll_snoc, hlay]
       simp only [Option.bind_some]
       rw [hL', hab]
     · rw [htk, List.map_append, List.map_append]
       refine g2.chg hc18 fun q hq hfq => ?_
       obtain ⟨c, hB⟩ := OwnS.blk g2 hq
       rcases foot_type h16 hfq hB with e | e | e <;> exact absurd e (by decide)
     · rcases hf18 q hq with h2 | h2
       · exact hf8 q h2
       · omega
     · rcases g5 q hq with h2 | h2
       · exact hof q h2
       · have := hX12.size; omega
 · have hge : ¬ (i : Int) < ((t.len : Nat) : Int) := of_decide_eq_false hge
   have hie : i = X.length := by omega
   subst hie
   have htk : (X.map SM.ab).take X.length = X.map SM.ab := List.take_of_length_le (by simp)
   rw [htk] at hlay ho
   refine (conf_rises ho.src (by simp; omega)).use ?_
   rintro _ w21 ⟨rfl, hx21⟩
   refine ⟨_, rfl, ?_, Ext.trans hx8 hx21⟩
   unfold goodL
   rw [hlay]; rfl
end Go.Proofs.YtgljoledlhmhnaaGreatDoor
namespace Go.Proofs.YtgljoledlhmhnaaGreatDoor
open Go Gx
variable {w w' : World}
section
variable {α : Type} {g : α → Bool} {l : List α}
def idxG (g : α → Bool) (l : List α) : Int := if l.findIdx g < l.length then ((l.findIdx g : Nat) : Int) else -1
theorem idxG_some {k : Nat} (h : k < l.length) (h1 : g l[k] = true) (h2 : ∀ (j : Nat) (hj : j < k), g (l[j]'(by omega)) = false) : idxG g l = k := by
 have e : l.findIdx g = k := (List.findIdx_eq h).2 ⟨h1, fun j hj => h2 j hj⟩
 unfold idxG
 rw [e, if_pos h]
theorem idxG_none (h : ∀ (j : Nat) (hj : j < l.length), g l[j] = false) : idxG g l = -1 := by
 unfold idxG
 rw [if_neg]
 intro hl
 have h1 := List.findIdx_getElem (w := hl)
 rw [h] at h1; cases h1
theorem idxG_cases (g : α → Bool) (l : List α) : (∃ (k : Nat) (h : k < l.length), idxG g l = k ∧ l.find? g = some l[k]) ∨ (idxG g l = -1 ∧ l.find? g = none) := by
 unfold idxG
 by_cases hl : l.findIdx g < l.length
 · left
   rw [if_pos hl]
   refine ⟨_, hl, rfl, ?_⟩
   rw [List.find?_eq_some_iff_getElem]
   refine ⟨List.findIdx_getElem (w := hl), _, hl, rfl, fun j hj => ?_⟩
   have := List.not_of_lt_findIdx hj
   simpa using this
 · right
   rw [if_neg hl]
   refine ⟨rfl, List.find?_eq_none.2 fun x hx hg => ?_⟩
   have := List.findIdx_lt_length_of_exists ⟨x, hx, hg⟩
   omega
end
theorem IndexSv (f : Fv) (g : SM → Bool) {s : Sl} {l : List SM} {w : World} (hs : SvL w s l) (hn : l.length ≤ 1000000) (hc : Callable Tryz.prog f.f)
   (hf : ∀ w1, Ext w w1 → ∀ r ∈ l, Ret Tryz.prog f.f (f.pre ++ #[.agg (r.s.c r.k).toArray] ++ f.cap) w1 (fun v w' => v = .bool (g r) ∧ Ext w1 w')) :
   Ret Tryz.prog F.slices_IndexFunc_Sl_api_Service_api_Service #[.slice s.a s.len s.cap, .func (.func f.f) f.pre f.cap] w (fun v w' => v = .int .i64 (idxG g l) ∧ Ext w w') := by
 refine W.slices_IndexFunc_Sl_api_Service_api_Service_ok s f w _ ?_
 (delta W.slices_IndexFunc_Sl_api_Service_api_Service Br ix wI; dsimp only)
 have hl := hs.len
 refine ⟨fun i w' => ∃ k : Nat, i = k ∧ k ≤ l.length ∧ Ext w w' ∧ ∀ (j : Nat) (hj : j < k) (h2 : j < l.length), g l[j] = false, fun i _ => (s.len - i).toNat, ⟨0, rfl, Nat.zero_le _, .refl _ _, fun j hj => by omega⟩, ?_⟩
 rintro _ w4 ⟨k, rfl, hk, hx4, hno⟩
 refine ⟨fun h => ?_, fun h => ?_⟩
 · have hlt : (k : Int) < ((s.len : Nat) : Int) := of_decide_eq_true h
   have hlt : k < l.length := by have := hl; omega
   obtain ⟨A, hA, hb, hr⟩ := SvL.get (hs.ext hx4) hlt
   refine ⟨A, hA, hb, _, hr, hc, (hf w4 hx4 _ (List.getElem_mem hlt)).use ?_⟩
   rintro _ w7 ⟨rfl, hx7⟩
   have hX7 := Ext.trans hx4 hx7
   have hms : (((s.len : Nat) : Int) - ((k : Int) + 1)).toNat < (((s.len : Nat) : Int) - (k : Int)).toNat := by omega
   refine ⟨_, rfl, fun h => ⟨by rw [idxG_some hlt h (fun j hj => hno j hj (by omega))], hX7⟩, fun h => ?_⟩
   rw [wrapi (n := (k : Int) + 1) (by omega) (by omega)]
   refine ⟨⟨k + 1, by omega, hlt, hX7, fun j hj h2 => ?_⟩, hms⟩
   rcases Nat.lt_or_ge j k with h3 | h3
   · exact hno j h3 h2
   · have : j = k := by omega
     subst this; exact h
 · have hge : ¬((k : Int) < ((s.len : Nat) : Int)) := of_decide_eq_false h
   exact ⟨by rw [idxG_none (fun j hj => hno j (by have := hl; omega) hj)], hx4⟩
theorem IndexBk (f : Fv) (g : Bk → Bool) {s : Sl} {l : List Bk} {w : World} (hs : BR w s l) (hn : l.length ≤ 1000000) (hc : Callable Tryz.prog f.f)
   (hf : ∀ w1, Ext w w1 → ∀ r ∈ l, Ret Tryz.prog f.f (f.pre ++ #[.agg (r.c).toArray] ++ f.cap) w1 (fun v w' => v = .bool (g r) ∧ Ext w1 w')) :
   Ret Tryz.prog F.slices_IndexFunc_Sl_api_Backend_api_Backend #[.slice s.a s.len s.cap, .func (.func f.f) f.pre f.cap] w (fun v w' => v = .int .i64 (idxG g l) ∧ Ext w w') := by
 refine W.slices_IndexFunc_Sl_api_Backend_api_Backend_ok s f w _ ?_
 (delta W.slices_IndexFunc_Sl_api_Backend_api_Backend Br ix wI; dsimp only)
 have hl := hs.len
 refine ⟨fun i w' => ∃ k : Nat, i = k ∧ k ≤ l.length ∧ Ext w w' ∧ ∀ (j : Nat) (hj : j < k) (h2 : j < l.length), g l[j] = false, fun i _ => (s.len - i).toNat, ⟨0, rfl, Nat.zero_le _, .refl _ _, fun j hj => by omega⟩, ?_⟩
 rintro _ w4 ⟨k, rfl, hk, hx4, hno⟩
 refine ⟨fun h => ?_, fun h => ?_⟩
 · have hlt : (k : Int) < ((s.len : Nat) : Int) := of_decide_eq_true h
   have hlt : k < l.length := by have := BR.len hs; omega
   obtain ⟨A, hA, hb, hr⟩ := BR.get (hs.ext hx4) hlt
   refine ⟨A, hA, hb, _, hr, hc, (hf w4 hx4 _ (List.getElem_mem hlt)).use ?_⟩
   rintro _ w7 ⟨rfl, hx7⟩
   have hX7 := Ext.trans hx4 hx7
   have hms : (((s.len : Nat) : Int) - ((k : Int) + 1)).toNat < (((s.len : Nat) : Int) - (k : Int)).toNat := by omega
   refine ⟨_, rfl, fun h => ⟨by rw [idxG_some hlt h (fun j hj => hno j hj (by omega))], hX7⟩, fun h => ?_⟩
   rw [wrapi (n := (k : Int) + 1) (by omega) (by omega)]
   refine ⟨⟨k + 1, by omega, hlt, hX7, fun j hj h2 => ?_⟩, hms⟩
   rcases Nat.lt_or_ge j k with h3 | h3
   · exact hno j h3 h2
   · have : j = k := by omega
     subst this; exact h
 · have hge : ¬((k : Int) < ((s.len : Nat) : Int)) := of_decide_eq_false h
   exact ⟨by rw [idxG_none (fun j hj => hno j (by have := BR.len hs; omega) hj)], hx4⟩
theorem Sv.eq_chain (s t : Sv) : ((((((s.id == t.id) && decide (s.addr = t.addr)) && (s.port == t.port)) && (s.proto == t.proto)) && (s.bits == t.bits)) && (s.lasts == t.lasts)) = decide (s = t) := by
 rw [Bool.eq_iff_iff, decide_eq_true_eq]
 simp only [Bool.and_eq_true, beq_iff_eq, decide_eq_true_eq]
 constructor
 · rintro ⟨⟨⟨⟨⟨h1, h2⟩, h3⟩, h4⟩, h5⟩, h6⟩
   cases s; cases t; simp_all
 · rintro rfl; simp
theorem conf_alike (s t : Sv) (k k' : Sl) (w : World) : Ret Tryz.prog F.conf_alike #[.agg (s.c k).toArray, .agg (t.c k').toArray] w (fun v w' => v = .bool (decide (s = t)) ∧ Ext w w') := by
 refine W.conf_alike_ok _ _ w _ ?_
 (delta W.conf_alike T6 r3 nA Br T28 r7 r4 r5; dsimp only)
 refine nxVar (vs := s.c k) rfl fun w1 hs hx1 _ => nxVar (vs := t.c k') rfl fun w2 ht hx2 _ => ?_
 have hs := hs.ext hx2
 have hX2 := Ext.trans hx1 hx2
 refine ⟨_, (scell hs).1, _, (scell ht).1, jnAnd (decide (s.addr = t.addr)) (fun _ q hq => ⟨_, srd hs, _, srd ht, _, eqAd _ _, hq _ (.refl _ _)⟩) fun w3 hx3 => ?_⟩
 have hs3 := hs.ext hx3; have ht3 := ht.ext hx3
 refine jnAnd (s.port == t.port) (fun _ q hq => ⟨_, (scell hs3).2.2.1, _, (scell ht3).2.2.1, hq _ (.refl _ _)⟩) fun w4 hx4 => ?_
 have hs4 := hs3.ext hx4; have ht4 := ht3.ext hx4
 refine jnAnd (s.proto == t.proto) (fun _ q hq => ⟨_, (scell hs4).2.2.2.1, _, (scell ht4).2.2.2.1, hq _ (.refl _ _)⟩) fun w5 hx5 => ?_
 have hs5 := hs4.ext hx5; have ht5 := ht4.ext hx5
 refine jnAnd (s.bits == t.bits) (fun _ q hq => ⟨_, (scell hs5).2.2.2.2.1, _, (scell ht5).2.2.2.2.1, hq _ (.refl _ _)⟩) fun w6 hx6 => ?_
 have hs6 := hs5.ext hx6; have ht6 := ht5.ext hx6
 refine jnAnd (s.lasts == t.lasts) (fun _ q hq => ⟨_, (scell hs6).2.2.2.2.2.1, _, (scell ht6).2.2.2.2.2.1, hq _ (.refl _ _)⟩) fun w7 hx7 => ?_
 exact ⟨by rw [Sv.eq_chain], Ext.trans hX2 (Ext.trans hx3 (Ext.trans hx4 (Ext.trans hx5 (Ext.trans hx6 hx7))))⟩
theorem conf_of_1 {b : Nat} {s : Sv} {k : Sl} (t : Sv) (k' : Sl) (hs : Var w b (s.c k) Ty.api_Service) : Ret Tryz.prog F.conf_of_1 #[.agg (t.c k').toArray, .pointer (some ⟨b, 0, none⟩)] w (fun v w' => v = .bool (decide (s = t)) ∧ Ext w w') := by
 refine W.conf_of_1_ok _ _ w _ ?_
 (delta W.conf_of_1 nA c9; dsimp only)
 refine nxVar (vs := t.c k') rfl fun w1 ht hx1 _ => ⟨_, (hs.ext hx1).rd (Sv.c_length _ _), _, ht.rd (Sv.c_length _ _), (conf_alike s t k k' w1).use ?_⟩
 rintro _ w4 ⟨rfl, hx4⟩
 exact ⟨_, rfl, rfl, Ext.trans hx1 hx4⟩
def ofL (X : List SM) (s : Sv) : Option SM := X.find? fun x => decide (s = x.s)
def ofC : Option SM → List Value
 | some x => x.s.c x.k
 | none => Sv.zero.c nilS
theorem conf_of {t : Sl} {X : List SM} (s : Sv) (k : Sl) (hl : SvL w t X) : Ret Tryz.prog F.conf_of #[.slice t.a t.len t.cap, .agg (s.c k).toArray] w (fun v w' => v = .tuple #[.agg (ofC (ofL X s)).toArray, .bool (ofL X s).isSome] ∧ Ext w w') := by
 refine W.conf_of_ok t _ w _ ?_
 (delta W.conf_of z1 c1 nA Br T9 c6 ix T23; dsimp only)
 refine nxVar (vs := s.c k) rfl fun w1 hs hx1 hs1 => nxVar (vs := Sv.zero.c nilS) (by kernel_rfl) fun w2 hz hx2 _ => ?_
 have hX2 := Ext.trans hx1 hx2
 have hl2 := hl.ext hX2
 refine (IndexSv ⟨F.conf_of_1, #[], #[.pointer (some ⟨w.heap.size, 0, none⟩)]⟩ (fun x => decide (s = x.s)) hl2 (by have := hl.lim; omega) ⟨_, (Option.some_get (show (Tryz.prog.funcs[F.conf_of_1]?).isSome = true by kernel_rfl)).symm, by kernel_rfl, by kernel_rfl⟩ (fun w3 hx3 x _ => conf_of_1 x.s x.k ((hs.ext hx2).ext hx3))).use ?_
 rintro _ w3 ⟨rfl, hx3⟩
 have hz3 := hz.ext hx3
 have hX3 := Ext.trans hX2 hx3
 have fin : ∀ (vs : List Value) (b : Bool), vs.length = 23 → (∀ v ∈ vs, Plain v) → (ofC (ofL X s) = vs ∧ (ofL X s).isSome = b) →
     StoreOk w3 ⟨w1.heap.size, 0, none⟩ vs ∧ ∀ K : World → Prop, (∀ w', rdCells w' ⟨w1.heap.size, 0, none⟩ 0 23 = some vs → Ext w w' → K w') → Nx (setCells w3 ⟨w1.heap.size, 0, none⟩ 0 vs) K := by
   intro vs b hv hp _
   refine ⟨hz3.storeOk (by rw [hv, Sv.c_length]) hp, fun K hK => nxPut hz3 (us := vs) (by rw [hv, Sv.c_length]) rfl fun w7 h7 hc7 _ => hK _ (h7.rd hv) (Ext.of_chg hX3 hc7 (by have := hx1.size; omega))⟩
 refine ⟨_, rfl, ?_⟩
 rcases idxG_cases (fun x : SM => decide (s = x.s)) X with ⟨i, hi, he, hf⟩ | ⟨he, hf⟩
 · rw [he]
   have hof : ofL X s = some X[i] := hf
   obtain ⟨A, hA, hbd, hr⟩ := (hl2.ext hx3).get hi
   refine ⟨fun h => by have := of_decide_eq_true h; omega, fun _ => ⟨A, hA, hbd, _, hr, ?_⟩⟩
   obtain ⟨f1, f2⟩ := fin _ true (Sv.c_length (X[i]).s (X[i]).k) (Sv.plain _ _) ⟨by rw [hof]; rfl, by rw [hof]; rfl⟩
   exact ⟨f1, by simp [Sv.c_length], f2 _ fun w7 h7 hX7 => ⟨_, h7, by rw [hof]; rfl, hX7⟩⟩
 · rw [he]
   have hof : ofL X s = none := hf
   refine ⟨fun _ => ⟨_, mkSv0 _, ?_⟩, fun h => by simp at h⟩
   obtain ⟨f1, f2⟩ := fin _ false (Sv.c_length Sv.zero nilS) (Sv.plain _ _) ⟨by rw [hof]; rfl, by rw [hof]; rfl⟩
   exact ⟨f1, by simp [Sv.c_length], f2 _ fun w7 h7 hX7 => ⟨_, h7, by rw [hof]; rfl, hX7⟩⟩
def sameAt (c b : Bk) : Bool := ((c.id == b.id) && decide (c.addr = b.addr)) && (c.port == b.port)
theorem conf_at_1 {b : Nat} {x : Bk} (c : Bk) (hx : Var w b x.c Ty.api_Backend) : Ret Tryz.prog F.conf_at_1 #[.agg c.c.toArray, .pointer (some ⟨b, 0, none⟩)] w (fun v w' => v = .bool (sameAt c x) ∧ Ext w w') := by
 refine W.conf_at_1_ok _ _ w _ ?_
 (delta W.conf_at_1 r3 nA Br r7; dsimp only)
 refine nxVar (vs := c.c) rfl fun w1 hc hx1 _ => ?_
 have hx := hx.ext hx1
 refine ⟨_, (bcell hc).1, _, (bcell hx).1, jnAnd (decide (c.addr = x.addr)) (fun _ q hq => ⟨_, brd hc, _, brd hx, _, eqAd _ _, hq _ (.refl _ _)⟩) fun w3 hx3 => ?_⟩
 have hc3 := hc.ext hx3; have hx4 := hx.ext hx3
 exact jnAnd (c.port == x.port) (fun _ q hq => ⟨_, (bcell hc3).2.2.1, _, (bcell hx4).2.2.1, hq _ (.refl _ _)⟩) fun w4 hx5 => ⟨rfl, Ext.trans hx1 (Ext.trans hx3 hx5)⟩
def atL (l : List Bk) (b : Bk) : Option Bk := l.find? fun c => sameAt c b
def atC (o : Option Bk) : Bk := o.getD Bk.zero
theorem conf_at {t : Sl} {l : List Bk} (b : Bk) (hl : BR w t l) (hn : l.length ≤ 1000) : Ret Tryz.prog F.conf_at #[.slice t.a t.len t.cap, .agg b.c.toArray] w (fun v w' => v = .tuple #[.agg (atC (atL l b)).c.toArray, .bool (atL l b).isSome] ∧ Ext w w') := by
 refine W.conf_at_ok t _ w _ ?_
 (delta W.conf_at z5 c1 nA Br c6 ix; dsimp only)
 refine nxVar (vs := b.c) rfl fun w1 hs hx1 hs1 => nxVar (vs := Bk.zero.c) (by kernel_rfl) fun w2 hz hx2 _ => ?_
 have hX2 := Ext.trans hx1 hx2
 have hl2 : BR w2 t l := hl.ext hX2
 refine (IndexBk ⟨F.conf_at_1, #[], #[.pointer (some ⟨w.heap.size, 0, none⟩)]⟩ (fun c => sameAt c b) hl2 (by omega) ⟨_, (Option.some_get (show (Tryz.prog.funcs[F.conf_at_1]?).isSome = true by kernel_rfl)).symm, by kernel_rfl, by kernel_rfl⟩ (fun w3 hx3 x _ => conf_at_1 x ((hs.ext hx2).ext hx3))).use ?_
 rintro _ w3 ⟨rfl, hx3⟩
 have hz3 := hz.ext hx3
 have hX3 := Ext.trans hX2 hx3
 have fin : ∀ (x : Bk), StoreOk w3 ⟨w1.heap.size, 0, none⟩ x.c ∧ ∀ K : World → Prop, (∀ w', rdCells w' ⟨w1.heap.size, 0, none⟩ 0 21 = some x.c → Ext w w' → K w') → Nx (setCells w3 ⟨w1.heap.size, 0, none⟩ 0 x.c) K := by
   intro x
   refine ⟨hz3.storeOk (by rw [x.c_length, Bk.c_length]) x.plain, fun K hK => nxPut hz3 (us := x.c) (by rw [x.c_length, Bk.c_length]) rfl fun w7 h7 hc7 _ => hK _ (h7.rd x.c_length) (Ext.of_chg hX3 hc7 (by have := hx1.size; omega))⟩
 refine ⟨_, rfl, ?_⟩
 rcases idxG_cases (fun c : Bk => sameAt c b) l with ⟨i, hi, he, hf⟩ | ⟨he, hf⟩
 · rw [he]
   have hof : atL l b = some l[i] := hf
   obtain ⟨A, hA, hbd, hr⟩ := BR.get (hl2.ext hx3) hi
   refine ⟨fun h => by have := of_decide_eq_true h; omega, fun _ => ⟨A, hA, hbd, _, hr, ?_⟩⟩
   obtain ⟨f1, f2⟩ := fin l[i]
   exact ⟨f1, by simp [Bk.c_length], f2 _ fun w7 h7 hX7 => ⟨_, h7, by rw [hof]; rfl, hX7⟩⟩
 · rw [he]
   have hof : atL l b = none := hf
   refine ⟨fun _ => ⟨_, mkBk0 _, ?_⟩, fun h => by simp at h⟩
   obtain ⟨f1, f2⟩ := fin Bk.zero
   exact ⟨f1, by simp [Bk.c_length], f2 _ fun w7 h7 hX7 => ⟨_, h7, by rw [hof]; rfl, hX7⟩⟩
structure OpM where
 kind : Int
 data : Sl
 id : Int
 bid : Int
 n : Int
 on : Bool
 s : Sv
 k : Sl
 to : Bk
 l : Sl
def OpM.c (o : OpM) : List Value := [.int .i64 o.kind, .slice o.data.a o.data.len o.data.cap, .int .i64 o.id, .int .i64 o.bid, .int .u64 o.n, .bool o.on] ++ (o.s.c o.k ++ (o.to.c ++ [.slice o.l.a o.l.len o.l.cap]))
theorem OpM.c_length (o : OpM) : o.c.length = 51 := by simp [OpM.c, Sv.c_length, Bk.c_length]
theorem OpM.plain (o : OpM) : ∀ v ∈ o.c, Plain v := by
 intro v hv
 rcases List.mem_append.1 hv with hv | hv
 · simp only [List.mem_cons, List.not_mem_nil, or_false] at hv
   rcases hv with rfl | rfl | rfl | rfl | rfl | rfl <;> trivial
 rcases List.mem_append.1 hv with hv | hv
 · exact o.s.plain _ v hv
 rcases List.mem_append.1 hv with hv | hv
 · exact o.to.plain v hv
 · rw [List.mem_singleton.1 hv]; trivial
def opsC (O : List OpM) : List Value := (O.map OpM.c).flatten
theorem opsC_length : ∀ O : List OpM, (opsC O).length = O.length * 51
 | [] => rfl
 | o :: O => by
   show (o.c ++ opsC O).length = _
   rw [List.length_append, opsC_length O, OpM.c_length, List.length_cons]; omega
theorem opsC_app (a b : List OpM) : opsC (a ++ b) = opsC a ++ opsC b := by simp [opsC]
theorem opsC_one (o : OpM) : opsC [o] = o.c := by simp [opsC]
theorem opsC_drop : ∀ (X : List OpM) (i : Nat), (opsC X).drop (i * 51) = opsC (X.drop i)
 | [], i => by simp [opsC]
 | x :: X, 0 => by simp
 | x :: X, i + 1 => by
   show (x.c ++ opsC X).drop _ = opsC (X.drop i)
   rw [List.drop_append, List.drop_of_length_le (by rw [OpM.c_length]; omega), OpM.c_length, show (i + 1) * 51 - 51 = i * 51 by omega, opsC_drop X i]; rfl
theorem appOp : AppT Tryz.prog Ty.Sl_api_Op Ty.api_Op 51 208 := ⟨by kernel_rfl⟩
def opZ : OpM := ⟨0, nilS, 0, 0, 0, false, Sv.zero, nilS, Bk.zero, nilS⟩
def oAddS (s : Sv) : OpM := { opZ with kind := 3, s := s }
def oDropS (id : Int) : OpM := { opZ with kind := 4, id := id }
def oAddB (id : Int) (b : Bk) : OpM := { opZ with kind := 5, id := id, to := b }
def oDropB (id bid : Int) : OpM := { opZ with kind := 6, id := id, bid := bid }
def oDrain (id bid : Int) (on : Bool) : OpM := { opZ with kind := 7, id := id, bid := bid, on := on }
def oWeigh (id bid n : Int) : OpM := { opZ with kind := 8, id := id, bid := bid, n := n }
theorem mkAddS (w : World) (s : Sv) : Sem.run Tryz.prog (Instr.build Ty.api_Op #[(0, .int .i64 3), (6, .agg (s.c nilS).toArray)]) w = .ok (.agg (oAddS s).c.toArray) w := by
 obtain ⟨id, ⟨six, b, h⟩, port, proto, bits, lasts⟩ := s
 obtain ⟨x0, x1, x2, x3, x4, x5, x6, x7, x8, x9, x10, x11, x12, x13, x14, x15, rfl⟩ := list16 b h
 kernel_rfl
theorem mkDropS (w : World) (id : Int) : Sem.run Tryz.prog (Instr.build Ty.api_Op #[(0, .int .i64 4), (2, .int .i64 id)]) w = .ok (.agg (oDropS id).c.toArray) w := by kernel_rfl
theorem mkAddB (w : World) (id : Int) (b : Bk) : Sem.run Tryz.prog (Instr.build Ty.api_Op #[(0, .int .i64 5), (2, .int .i64 id), (7, .agg b.c.toArray)]) w = .ok (.agg (oAddB id b).c.toArray) w := by
 obtain ⟨bid, ⟨six, b, h⟩, port, weight, drained⟩ := b
 obtain ⟨x0, x1, x2, x3, x4, x5, x6, x7, x8, x9, x10, x11, x12, x13, x14, x15, rfl⟩ := list16 b h
 kernel_rfl
theorem mkDropB (w : World) (id bid : Int) : Sem.run Tryz.prog (Instr.build Ty.api_Op #[(0, .int .i64 6), (2, .int .i64 id), (3, .int .i64 bid)]) w = .ok (.agg (oDropB id bid).c.toArray) w := by kernel_rfl
theorem mkDrain (w : World) (id bid : Int) (on : Bool) : Sem.run Tryz.prog (Instr.build Ty.api_Op #[(0, .int .i64 7), (2, .int .i64 id), (3, .int .i64 bid), (5, .bool on)]) w = .ok (.agg (oDrain id bid on).c.toArray) w := by kernel_rfl
theorem mkWeigh (w : World) (id bid n : Int) : Sem.run Tryz.prog (Instr.build Ty.api_Op #[(0, .int .i64 8), (2, .int .i64 id), (3, .int .i64 bid), (4, .int .u64 n)]) w = .ok (.agg (oWeigh id bid n).c.toArray) w := by kernel_rfl
theorem buildOp (o : OpM) (w : World) : Sem.run Tryz.prog (Instr.buildSlice Ty.Sl_api_Op 1 #[(0, .agg o.c.toArray)]) w = .ok (.slice (some ⟨w.heap.size, 0, none⟩) 1 1) (w.alloc (.cells o.c.toArray Ty.api_Op)) := by
 obtain ⟨kind, data, id, bid, n, on, ⟨sid, ⟨six, b, h⟩, port, proto, bits, lasts⟩, k, ⟨tid, ⟨six2, b2, h2⟩, tport, weight, drained⟩, l⟩ := o
 obtain ⟨x0, x1, x2, x3, x4, x5, x6, x7, x8, x9, x10, x11, x12, x13, x14, x15, rfl⟩ := list16 b h
 obtain ⟨y0, y1, y2, y3, y4, y5, y6, y7, y8, y9, y10, y11, y12, y13, y14, y15, rfl⟩ := list16 b2 h2
 kernel_rfl
structure DfAt (w : World) (d : Nat) (s : Sl) (O : List OpM) : Prop where
 v : Var w d [.slice s.a s.len s.cap] Ty.conf_differ
 o : OwnS 51 Ty.api_Op w s (opsC O)
variable {d : Nat} {s : Sl} {O : List OpM}
def dfB (d : Nat) (s : Sl) (q : Nat) : Prop := q = d ∨ ownB s q
theorem DfAt.chg {W : Nat → Prop} (h : DfAt w d s O) (hc : Chg W w w') (hn : ∀ q, dfB d s q → ¬ W q) : DfAt w' d s O := ⟨h.v.chg hc (hn _ (.inl rfl)), h.o.chg hc fun q hq => hn q (.inr hq)⟩
theorem DfAt.ext (h : DfAt w d s O) (hc : Ext w w') : DfAt w' d s O := h.chg hc fun _ _ h => h
def Lays (d : Nat) (s : Sl) (O O' : List OpM) (w w' : World) : Prop := ∃ s', DfAt w' d s' O' ∧ Chg (dfB d s) w w' ∧ ∀ q, ownB s' q → ownB s q ∨ w.heap.size ≤ q
theorem Lays.refl (h : DfAt w d s O) (hx : Ext w w') : Lays d s O O w w' := ⟨s, h.ext hx, Chg.of_ext hx, fun _ h => .inl h⟩
theorem differ_put (h : DfAt w d s O) (o : OpM) (hn : O.length ≤ 1000000000) : Ret Tryz.prog F.conf_differ_put #[.pointer (some ⟨d, 0, none⟩), .agg o.c.toArray] w (fun v w' => v = .tuple #[] ∧ Lays d s O (O ++ [o]) w w') := by
 refine W.conf_differ_put_ok (some ⟨d, 0, none⟩) _ w _ ?_
 (delta W.conf_differ_put r1 nA; dsimp only)
 refine nxVar (vs := o.c) rfl fun w1 ho hx1 hs1 => ?_
 have hd : Ext w1 w1.drew := Chg.drew (.refl _ _)
 have hX2 := Ext.trans hx1 hd
 have h2 := h.ext hX2
 have ho2 := ho.ext hd
 have hdn : ¬ ownB s d := fun hq => absurd (h.o.notVar hq h.v) (by decide)
 have hon : ¬ ownB s w.heap.size := fun hq => by have := h.o.lt _ hq; omega
 have hlen : s.len = O.length := by have := h.o.1; rw [opsC_length] at this; omega
 have hxa : Ext w1.drew (w1.drew.alloc (.cells o.c.toArray Ty.api_Op)) := Chg.alloc (.refl _ _) _
 obtain ⟨s', w', g1, g2, g3, g4', g5⟩ := appOp.append (oT := Ty.Sl_api_Op) (Src.new (T := Ty.api_Op) w1.drew o.c 1 (by rw [o.c_length])) (h2.o.ext hxa) o.plain (by show (2 * (s.len + 1) + 1000) * 208 ≤ _; omega)
 have g4 : Chg (ownB s) w1.drew w' := (Chg.of_ext hxa).trans g4'
 refine nx ⟨ownB s, _, rfl, hdn, s, h2.v.cell, hon, _, ho2.rd o.c_length, ⟨some ⟨w1.drew.heap.size, 0, none⟩, 1, 1⟩, _, buildOp o _, Chg.of_ext hxa, s', w', g1, g4', _, rfl, ?_⟩
 have hv' : Var w' d [.slice s.a s.len s.cap] Ty.conf_differ := h2.v.chg g4 hdn
 refine ⟨⟨_, hv'.cell⟩, Blk.frozen hv' _ rfl, nxSet hv' fun w12 hv12 hc12 hs12 => ⟨rfl, s', ⟨hv12, ?_⟩, ?_, ?_⟩⟩
 · have hds' : ¬ ownB s' d := fun hq => by
     rcases g5 d hq with h3 | h3
     · exact hdn h3
     · have := (h2.v.ext hxa).lt; omega
   rw [opsC_app, opsC_one]
   exact g2.chg hc12 fun q hq e => by subst e; exact hds' hq
 · exact (Chg.of_ext hX2).trans ((Chg.mono g4 fun _ _ h => .inr h).trans (Chg.mono hc12 fun _ _ h => .inl h))
 · intro q hq
   rcases g5 q hq with h3 | h3
   · exact .inl h3
   · exact .inr (Nat.le_trans (Ext.trans hX2 hxa).size h3)
end Go.Proofs.YtgljoledlhmhnaaGreatDoor
namespace Go.Proofs.YtgljoledlhmhnaaGreatDoor
open Go Gx
variable {w w' : World} {d : Nat} {s : Sl} {O : List OpM}
def u64w (n : Int) : Int := IntKind.wrap .u64 n
def bkOps (was : List Bk) (id : Int) (b : Bk) : List OpM :=
 ((if (atL was b).isSome then [] else [oAddB id (undr b)]) ++ if ((atL was b).getD (undr b)).weight != b.weight then [oWeigh id b.id (u64w b.weight)] else []) ++ if !(((atL was b).getD (undr b)).drained == b.drained) then [oDrain id b.id b.drained] else []
def svOps (was : List Bk) (there : Bool) (x : SB) : List OpM :=
 ((if there then [] else [oAddS x.1]) ++ (was.filter fun b => (atL x.2 b).isNone).map fun b => oDropB x.1.id b.id) ++ x.2.flatMap (bkOps was x.1.id)
def ofSB (A : List SB) (s : Sv) : Option SB := A.find? fun x => decide (s = x.1)
def wasB (A : List SB) (s : Sv) : List Bk := ((ofSB A s).map (·.2)).getD []
def diffL (A B : List SB) : List OpM := ((A.filter fun x => (ofSB B x.1).isNone).map fun x => oDropS x.1.id) ++ B.flatMap fun y => svOps (wasB A y.1) (ofSB A y.1).isSome y
theorem bkOps_len (was : List Bk) (id : Int) (b : Bk) : (bkOps was id b).length ≤ 3 := by
 unfold bkOps
 simp only [List.length_append]
 split <;> split <;> split <;> simp
theorem flatMap_len {α β : Type} (f : α → List β) (c : Nat) : ∀ l : List α, (∀ x ∈ l, (f x).length ≤ c) → (l.flatMap f).length ≤ l.length * c
 | [], _ => by simp
 | x :: l, h => by
   rw [List.flatMap_cons, List.length_append, List.length_cons, Nat.add_mul]
   have h1 := h x (by simp)
   have h2 := flatMap_len f c l fun y hy => h y (by simp [hy])
   omega
theorem svOps_len {was : List Bk} {there : Bool} {x : SB} (h1 : was.length ≤ 1000) (h2 : x.2.length ≤ 1000) : (svOps was there x).length ≤ 4001 := by
 unfold svOps
 simp only [List.length_append, List.length_map]
 have h3 := flatMap_len (bkOps was x.1.id) 3 x.2 fun b _ => bkOps_len _ _ b
 have h4 := List.length_filter_le (fun b => (atL x.2 b).isNone) was
 have h5 : (if there then [] else [oAddS x.1] : List OpM).length ≤ 1 := by split <;> simp
 omega
theorem dfB_type (h : DfAt w d s O) {q : Nat} {c : Array Value} {T : TypeId} (hq : dfB d s q) (hB : Blk w q c T) : T = Ty.conf_differ ∨ T = Ty.api_Op :=
 hq.elim (fun e => .inl (by subst e; exact (Blk.inj hB h.v).2)) fun hq => .inr (h.o.notVar hq hB).symm
theorem DfAt.keeps (h : DfAt w d s O) {b : Nat} {vs : List Value} {T : TypeId} (hv : Var w b vs T) (h1 : T ≠ Ty.conf_differ) (h2 : T ≠ Ty.api_Op) (hc : Chg (dfB d s) w w') : Var w' b vs T :=
 hv.chg hc fun hq => (dfB_type h hq hv).elim h1 h2
theorem Lays.step {w1 w2 : World} {s1 : Sl} {O1 O2 : List OpM} (c1 : Chg (dfB d s) w w1) (f1 : ∀ q, ownB s1 q → ownB s q ∨ w.heap.size ≤ q) (L : Lays d s1 O1 O2 w1 w2) : Lays d s O O2 w w2 := by
 obtain ⟨s2, h2, c2, f2⟩ := L
 have hsub : ∀ q, dfB d s1 q → dfB d s q ∨ w.heap.size ≤ q := fun q hq => hq.elim (fun e => .inl (.inl e)) fun hq => (f1 q hq).imp .inr id
 refine ⟨s2, h2, chgThen c1 c2 hsub, fun q hq => (f2 q hq).elim (f1 q) fun h => .inr (Nat.le_trans c1.size h)⟩
theorem differ_backend (h : DfAt w d s O) (ws : Sv) (wk : Sl) {wbs : List Bk} (hw : BR w wk wbs) (hwn : wbs.length ≤ 1000) (id : Int) (b : Bk) (hn : O.length ≤ 900000000) :
   Ret Tryz.prog F.conf_differ_backend #[.pointer (some ⟨d, 0, none⟩), .agg (ws.c wk).toArray, .int .i64 id, .agg b.c.toArray] w (fun v w' => v = .tuple #[] ∧ Lays d s O (O ++ bkOps wbs id b) w w') := by
 refine W.conf_differ_backend_ok (some ⟨d, 0, none⟩) _ id _ w _ ?_
 (delta W.conf_differ_backend r1 nA c14 c7 z5 Br st c16 c2 r3 r8; dsimp only)
 refine nxVar (vs := ws.c wk) rfl fun w1 hv1 hx1 hs1 => nxVar (vs := b.c) rfl fun w2 hb2 hx2 hs2 => ?_
 have hX2 := Ext.trans hx1 hx2
 refine ⟨wk, (scell (hv1.ext hx2)).2.2.2.2.2.2, _, hb2.rd b.c_length, (conf_at (w := w2) b (hw.ext hX2) hwn).use ?_⟩
 rintro _ w5 ⟨rfl, hx5⟩
 obtain ⟨o, ho⟩ : ∃ o, o = atL wbs b := ⟨_, rfl⟩
 rw [← ho]
 have hX5 := Ext.trans hX2 hx5
 refine ⟨_, _, rfl, nxVar (vs := Bk.zero.c) (by kernel_rfl) fun w9 hz9 hx9 hs9 => ⟨hz9.storeOk (by simp [Bk.c_length]) (Bk.plain _), by simp [Bk.c_length], nxPut hz9 (us := (atC o).c) (by simp [Bk.c_length]) rfl fun w10 hz10 hc10 hs10 => ?_⟩⟩
 have hx10 : Ext w5 w10 := Ext.of_chg hx9 hc10 (Nat.le_refl _)
 have hX10 := Ext.trans hX5 hx10
 have hb10 := (hb2.ext hx5).ext hx10
 have h10 := h.ext hX10
 obtain ⟨ob, hob⟩ : ∃ ob, ob = o.getD (undr b) := ⟨_, rfl⟩
 obtain ⟨P1, hP1⟩ : ∃ P1, P1 = if o.isSome then [] else [oAddB id (undr b)] := ⟨_, rfl⟩
 obtain ⟨P2, hP2⟩ : ∃ P2, P2 = if ob.weight != b.weight then [oWeigh id b.id (u64w b.weight)] else [] := ⟨_, rfl⟩
 have hall : bkOps wbs id b = (P1 ++ P2) ++ if !(ob.drained == b.drained) then [oDrain id b.id b.drained] else [] := by rw [hP1, hP2, hob, ho]; rfl
 have hl1 : P1.length ≤ 1 := by rw [hP1]; split <;> simp
 have hl2 : P2.length ≤ 1 := by rw [hP2]; split <;> simp
 rw [hall]
 refine Jn0 (fun w' => Lays d s O (O ++ P1) w w' ∧ Var w' w5.heap.size ob.c Ty.api_Backend ∧ Var w' w1.heap.size b.c Ty.api_Backend) (fun q hq => ⟨fun hn1 => ?_, fun hn1 => ?_⟩) ?_
 · have ho1 : o = none := by cases o with
     | none => rfl
     | some _ => simp at hn1
   have hP : P1 = [oAddB id (undr b)] := by rw [hP1, ho1]; rfl
   have hobe : ob = undr b := by rw [hob, ho1]; rfl
   refine ⟨_, hb10.rd b.c_length, hz10.storeOk (by simp [Bk.c_length]) b.plain, by simp [Bk.c_length], nxPut hz10 (us := b.c) (by simp [Bk.c_length]) rfl fun w13 hz13 hc13 hs13 => ?_⟩
   refine ⟨⟨_, (bcell hz13).2.2.2.2⟩, by rw [add_mk]; exact Blk.frozen hz13 _ rfl, ?_⟩
   rw [add_mk]
   refine nxSet hz13 fun w14 hz14 hc14 hs14 => ?_
   have ev : b.c.set (0 + 20) (.bool false) = (undr b).c := Bk.setD b false
   rw [ev] at hz14
   have hX13 : Ext w w13 := Ext.of_chg hX10 hc13 hX5.size
   have hX14 : Ext w w14 := Ext.of_chg hX13 hc14 hX5.size
   have hb14 : Var w14 w1.heap.size b.c Ty.api_Backend := (hb10.chg hc13 (by have := hb2.lt; have := hx5.size; omega)).chg hc14 (by have := hb2.lt; have := hx5.size; omega)
   have h14 := h.ext hX14
   refine ⟨_, hz14.rd (Bk.c_length _), _, mkAddB _ id (undr b), (differ_put h14 (oAddB id (undr b)) (by omega)).use ?_⟩
   rintro _ w17 ⟨rfl, L⟩
   obtain ⟨s2, h17, c17, f17⟩ := L
   refine ⟨rfl, hq _ ⟨?_, ?_, ?_⟩⟩
   · rw [hP]
     exact Lays.step (s1 := s) (O1 := O) (Chg.of_ext hX14) (fun _ h => .inl h) ⟨s2, h17, c17, f17⟩
   · rw [hobe]; exact h14.keeps hz14 (by decide) (by decide) c17
   · exact h14.keeps hb14 (by decide) (by decide) c17
 · have ho1 : ∃ x, o = some x := by cases o with
     | none => simp at hn1
     | some x => exact ⟨x, rfl⟩
   obtain ⟨x, rfl⟩ := ho1
   have hP : P1 = [] := by rw [hP1]; rfl
   have hobe : ob = x := hob
   exact hq _ ⟨by rw [hP, List.append_nil]; exact Lays.refl h hX10, by rw [hobe]; exact hz10, hb10⟩
 rintro w19 ⟨L19, ho19, hb19⟩
 obtain ⟨s1, h19, c19, f19⟩ := L19
 refine Jn0 (fun w' => Lays d s O (O ++ (P1 ++ P2)) w w' ∧ Var w' w5.heap.size ob.c Ty.api_Backend ∧ Var w' w1.heap.size b.c Ty.api_Backend) (fun q hq => ⟨_, (bcell ho19).2.2.2.1, _, (bcell hb19).2.2.2.1, fun hne => ?_, fun hne => ?_⟩) ?_
 · have hP : P2 = [oWeigh id b.id (u64w b.weight)] := by rw [hP2, if_pos hne]
   refine ⟨_, (bcell hb19).1, _, (bcell hb19).2.2.2.1, _, mkWeigh _ id b.id (u64w b.weight), (differ_put h19 (oWeigh id b.id (u64w b.weight)) (by rw [List.length_append]; omega)).use ?_⟩
   rintro _ w26 ⟨rfl, L⟩
   obtain ⟨s2, h26, c26, f26⟩ := L
   refine ⟨rfl, hq _ ⟨?_, h19.keeps ho19 (by decide) (by decide) c26, h19.keeps hb19 (by decide) (by decide) c26⟩⟩
   rw [hP, ← List.append_assoc]
   exact Lays.step (O1 := O) c19 f19 ⟨s2, h26, c26, f26⟩
 · have hP : P2 = [] := by rw [hP2, if_neg (by rw [hne]; decide)]
   exact hq _ ⟨by rw [hP, List.append_nil]; exact ⟨s1, h19, c19, f19⟩, ho19, hb19⟩
 rintro w28 ⟨L28, ho28, hb28⟩
 obtain ⟨s2, h28, c28, f28⟩ := L28
 refine ⟨_, (bcell ho28).2.2.2.2, _, (bcell hb28).2.2.2.2, fun hne => ?_, fun hne => ?_⟩
 · refine ⟨_, (bcell hb28).1, _, (bcell hb28).2.2.2.2, _, mkDrain _ id b.id b.drained, (differ_put h28 (oDrain id b.id b.drained) (by simp only [List.length_append]; omega)).use ?_⟩
   rintro _ w34 ⟨rfl, L⟩
   refine ⟨rfl, rfl, ?_⟩
   rw [if_pos hne, ← List.append_assoc]
   exact Lays.step c28 f28 L
 · rw [if_neg (by rw [hne]; decide), List.append_nil]
   exact ⟨rfl, s2, h28, c28, f28⟩
theorem differ_service (h : DfAt w d s O) (ws : Sv) (wk : Sl) {wbs : List Bk} (hw : ∀ w', Chg (dfB d s) w w' → BR w' wk wbs) (hwn : wbs.length ≤ 1000) (there : Bool) (x : SM) (hb : ∀ w', Chg (dfB d s) w w' → BR w' x.k x.bs) (hbn : x.bs.length ≤ 1000) (hn : O.length ≤ 800000000) :
   Ret Tryz.prog F.conf_differ_service #[.pointer (some ⟨d, 0, none⟩), .agg (ws.c wk).toArray, .bool there, .agg (x.s.c x.k).toArray] w (fun v w' => v = .tuple #[] ∧ Lays d s O (O ++ svOps wbs there x.ab) w w') := by
 refine W.conf_differ_service_ok (some ⟨d, 0, none⟩) _ there _ w _ ?_
 (delta W.conf_differ_service Br nA c15 c7 c8 c2 r1 ix al z5 c14 r3 wI; dsimp only)
 refine nxVar (vs := ws.c wk) rfl fun w1 hv1 hx1 hs1 => nxVar (vs := x.s.c x.k) rfl fun w2 hs2 hx2 hsz2 => ?_
 have hX2 := Ext.trans hx1 hx2
 have hv2 := hv1.ext hx2
 have h2 := h.ext hX2
 have hwl := BR.len (hw w (.refl _ _))
 have hbl := BR.len (hb w (.refl _ _))
 obtain ⟨P1, hP1⟩ : ∃ P1, P1 = if there then [] else [oAddS x.s] := ⟨_, rfl⟩
 have hl1 : P1.length ≤ 1 := by rw [hP1]; split <;> simp
 obtain ⟨P2, hP2⟩ : ∃ P2 : Nat → List OpM, P2 = fun i => ((wbs.take i).filter fun b => (atL x.bs b).isNone).map fun b => oDropB x.s.id b.id := ⟨_, rfl⟩
 have hl2 : ∀ i, (P2 i).length ≤ 1000 := fun i => by
   rw [hP2]; simp only [List.length_map]
   have h1 := List.length_filter_le (fun b => (atL x.bs b).isNone) (wbs.take i)
   rw [List.length_take] at h1
   omega
 obtain ⟨P3, hP3⟩ : ∃ P3 : Nat → List OpM, P3 = fun i => (x.bs.take i).flatMap (bkOps wbs x.s.id) := ⟨_, rfl⟩
 have hl3 : ∀ i, (P3 i).length ≤ 3000 := fun i => by
   rw [hP3]
   have h1 := flatMap_len (bkOps wbs x.s.id) 3 (x.bs.take i) fun b _ => bkOps_len _ _ b
   rw [List.length_take] at h1
   simp only; omega
 have hall : svOps wbs there x.ab = (P1 ++ P2 wbs.length) ++ P3 x.bs.length := by
   rw [hP1, hP2, hP3]; simp only [List.take_length]; rfl
 rw [hall]
 refine Jn0 (fun w' => Lays d s O (O ++ P1) w w' ∧ Var w' w.heap.size (ws.c wk) Ty.api_Service ∧ Var w' w1.heap.size (x.s.c x.k) Ty.api_Service) (fun q hq => ⟨fun ht => ?_, fun ht => ?_⟩) ?_
 · have ht : there = false := by simpa using ht
   refine ⟨_, hs2.rd (Sv.c_length _ _), (conf_bare x.s x.k w2).use ?_⟩
   rintro _ w5 ⟨rfl, hx5⟩
   have hX5 := Ext.trans hX2 hx5
   have h5 := h.ext hX5
   refine ⟨_, rfl, _, mkAddS _ x.s, (differ_put h5 (oAddS x.s) (by omega)).use ?_⟩
   rintro _ w9 ⟨rfl, L⟩
   obtain ⟨s2, h9, c9, f9⟩ := L
   refine ⟨rfl, hq _ ⟨?_, h5.keeps (hv2.ext hx5) (by decide) (by decide) c9, h5.keeps (hs2.ext hx5) (by decide) (by decide) c9⟩⟩
   rw [hP1, ht]
   exact Lays.step (s1 := s) (O1 := O) (Chg.of_ext hX5) (fun _ h => .inl h) ⟨s2, h9, c9, f9⟩
 · have ht : there = true := by simpa using ht
   have hP : P1 = [] := by rw [hP1, ht]; rfl
   exact hq _ ⟨by rw [hP, List.append_nil]; exact Lays.refl h hX2, hv2, hs2⟩
 rintro w11 ⟨L11, hv11, hs11⟩
 refine ⟨wk, (scell hv11).2.2.2.2.2.2, fun n w' => ∃ i : Nat, n = i ∧ i ≤ wbs.length ∧ Lays d s O (O ++ (P1 ++ P2 i)) w w' ∧ Var w' w.heap.size (ws.c wk) Ty.api_Service ∧ Var w' w1.heap.size (x.s.c x.k) Ty.api_Service, fun n _ => (wk.len - n).toNat,
   ⟨0, rfl, Nat.zero_le _, by rw [show P2 0 = [] by rw [hP2]; rfl, List.append_nil]; exact L11, hv11, hs11⟩, ?_⟩
 rintro _ w16 ⟨i, rfl, hi, L16, hv16, hs16⟩
 obtain ⟨s1, h16, c16, f16⟩ := L16
 refine ⟨fun hlt => ?_, fun hge => ?_⟩
 · have hlt : (i : Int) < ((wk.len : Nat) : Int) := of_decide_eq_true hlt
   have hlt : i < wbs.length := by omega
   obtain ⟨A, hA, hbd, hrd⟩ := BR.get (hw w16 c16) hlt
   obtain ⟨b, hbe⟩ : ∃ b, b = wbs[i] := ⟨_, rfl⟩
   rw [← hbe] at hrd
   have ew : IntKind.wrap .i64 ((i : Int) + 1) = ((i + 1 : Nat) : Int) := by rw [wrapi (by omega) (by omega)]; rfl
   have hms : (((wk.len : Nat) : Int) - ((i + 1 : Nat) : Int)).toNat < (((wk.len : Nat) : Int) - (i : Int)).toNat := by omega
   have hPs : P2 (i + 1) = P2 i ++ if (atL x.bs b).isNone then [oDropB x.s.id b.id] else [] := by
     rw [hP2]; simp only
     rw [List.take_succ_eq_append_getElem hlt, List.filter_append, List.map_append, ← hbe]
     congr 1
     simp only [List.filter_cons, List.filter_nil]
     split <;> rfl
   refine Jn0 (fun w' => Lays d s O (O ++ (P1 ++ P2 (i + 1))) w w' ∧ Var w' w.heap.size (ws.c wk) Ty.api_Service ∧ Var w' w1.heap.size (x.s.c x.k) Ty.api_Service) (fun q hq => ?_) (fun w35 hw35 => by rw [ew]; exact ⟨⟨i + 1, rfl, hlt, hw35⟩, hms⟩)
   refine ⟨A, hA, hbd, _, hrd, nxVar (vs := Bk.zero.c) (by kernel_rfl) fun w20 hz20 hx20 hs20 => ⟨hz20.storeOk (by simp [Bk.c_length]) (Bk.plain _), by simp [Bk.c_length], nxPut hz20 (us := b.c) (by simp [Bk.c_length]) rfl fun w21 hb21 hc21 hs21 => ?_⟩⟩
   have hx21 : Ext w16 w21 := Ext.of_chg hx20 hc21 (Nat.le_refl _)
   have c21 : Chg (dfB d s) w w21 := c16.trans (Chg.of_ext hx21)
   refine ⟨x.k, (scell (hs16.ext hx21)).2.2.2.2.2.2, _, hb21.rd b.c_length, (conf_at b (hb w21 c21) hbn).use ?_⟩
   rintro _ w24 ⟨rfl, hx24⟩
   refine ⟨_, _, rfl, nxVar (vs := Bk.zero.c) (by kernel_rfl) fun w28 hz28 hx28 hs28 => ⟨hz28.storeOk (by simp [Bk.c_length]) (Bk.plain _), by simp [Bk.c_length], nxPut hz28 (us := (atC (atL x.bs b)).c) (by simp [Bk.c_length]) rfl fun w29 hz29 hc29 hs29 => ?_⟩⟩
   have hx29 : Ext w16 w29 := Ext.trans (Ext.trans hx21 hx24) (Ext.of_chg hx28 hc29 (Nat.le_refl _))
   have hb29 : Var w29 w16.heap.size b.c Ty.api_Backend := (hb21.ext hx24).ext (Ext.of_chg hx28 hc29 (Nat.le_refl _))
   have h29 := h16.ext hx29
   have c29 : Chg (dfB d s) w w29 := c16.trans (Chg.of_ext hx29)
   refine ⟨fun hi2 => ?_, fun hi2 => ?_⟩
   · have hi2 : (atL x.bs b).isNone = true := by cases hat : atL x.bs b with
       | none => rfl
       | some _ => rw [hat] at hi2; simp at hi2
     refine ⟨_, (scell (hs16.ext hx29)).1, _, (bcell hb29).1, _, mkDropB _ x.s.id b.id, (differ_put h29 (oDropB x.s.id b.id) (by have := hl2 i; simp only [List.length_append]; omega)).use ?_⟩
     rintro _ w33 ⟨rfl, L⟩
     obtain ⟨s2, h33, c33, f33⟩ := L
     refine ⟨rfl, hq _ ⟨?_, h29.keeps (hv16.ext hx29) (by decide) (by decide) c33, h29.keeps (hs16.ext hx29) (by decide) (by decide) c33⟩⟩
     rw [hPs, if_pos hi2, ← List.append_assoc P1, ← List.append_assoc O]
     exact Lays.step (O1 := O) c29 f16 ⟨s2, h33, c33, f33⟩
   · have hi2 : (atL x.bs b).isNone = false := by cases hat : atL x.bs b with
       | none => rw [hat] at hi2; simp at hi2
       | some _ => rfl
     have hPe : P2 (i + 1) = P2 i := by rw [hPs, hi2]; simp
     exact hq _ ⟨by rw [hPe]; exact ⟨s1, h29, c29, f16⟩, hv16.ext hx29, hs16.ext hx29⟩
 · have hge : ¬ (i : Int) < ((wk.len : Nat) : Int) := of_decide_eq_false hge
   have hie : i = wbs.length := by omega
   subst hie
   refine ⟨x.k, (scell hs16).2.2.2.2.2.2, fun n w' => ∃ i : Nat, n = i ∧ i ≤ x.bs.length ∧ Lays d s O (O ++ ((P1 ++ P2 wbs.length) ++ P3 i)) w w' ∧ Var w' w.heap.size (ws.c wk) Ty.api_Service ∧ Var w' w1.heap.size (x.s.c x.k) Ty.api_Service, fun n _ => (x.k.len - n).toNat,
     ⟨0, rfl, Nat.zero_le _, by rw [show P3 0 = [] by rw [hP3]; rfl, List.append_nil]; exact ⟨s1, h16, c16, f16⟩, hv16, hs16⟩, ?_⟩
   rintro _ w40 ⟨i, rfl, hi, L40, hv40, hs40⟩
   obtain ⟨s2, h40, c40, f40⟩ := L40
   refine ⟨fun hlt => ?_, fun hge => ?_⟩
   · have hlt : (i : Int) < ((x.k.len : Nat) : Int) := of_decide_eq_true hlt
     have hlt : i < x.bs.length := by omega
     obtain ⟨A, hA, hbd, hrd⟩ := BR.get (hb w40 c40) hlt
     obtain ⟨b, hbe⟩ : ∃ b, b = x.bs[i] := ⟨_, rfl⟩
     rw [← hbe] at hrd
     have ew : IntKind.wrap .i64 ((i : Int) + 1) = ((i + 1 : Nat) : Int) := by rw [wrapi (by omega) (by omega)]; rfl
     have hms : (((x.k.len : Nat) : Int) - ((i + 1 : Nat) : Int)).toNat < (((x.k.len : Nat) : Int) - (i : Int)).toNat := by omega
     have hPs : P3 (i + 1) = P3 i ++ bkOps wbs x.s.id b := by
       rw [hP3]; simp only
       rw [List.take_succ_eq_append_getElem hlt, List.flatMap_append, ← hbe]
       simp
     refine ⟨A, hA, hbd, _, hrd, nxVar (vs := Bk.zero.c) (by kernel_rfl) fun w43 hz43 hx43 hs43 => ⟨hz43.storeOk (by simp [Bk.c_length]) (Bk.plain _), by simp [Bk.c_length], nxPut hz43 (us := b.c) (by simp [Bk.c_length]) rfl fun w44 hb44 hc44 hs44 => ?_⟩⟩
     have hx44 : Ext w40 w44 := Ext.of_chg hx43 hc44 (Nat.le_refl _)
     have c44 : Chg (dfB d s) w w44 := c40.trans (Chg.of_ext hx44)
     have h44 := h40.ext hx44
     refine ⟨_, (hv40.ext hx44).rd (Sv.c_length _ _), _, (scell (hs40.ext hx44)).1, _, hb44.rd b.c_length, (differ_backend h44 ws wk (hw w44 c44) hwn x.s.id b (by have := hl2 wbs.length; have := hl3 i; simp only [List.length_append]; omega)).use ?_⟩
     rintro _ w48 ⟨rfl, L⟩
     obtain ⟨s3, h48, c48, f48⟩ := L
     rw [ew]
     refine ⟨rfl, ⟨i + 1, rfl, hlt, ?_, h44.keeps (hv40.ext hx44) (by decide) (by decide) c48, h44.keeps (hs40.ext hx44) (by decide) (by decide) c48⟩, hms⟩
     rw [hPs, ← List.append_assoc (P1 ++ P2 wbs.length), ← List.append_assoc O]
     exact Lays.step (O1 := O) c44 f40 ⟨s3, h48, c48, f48⟩
   · have hge : ¬ (i : Int) < ((x.k.len : Nat) : Int) := of_decide_eq_false hge
     have hie : i = x.bs.length := by omega
     subst hie
     exact ⟨rfl, s2, h40, c40, f40⟩
theorem ofSB_abs (X : List SM) (s : Sv) : ofSB (X.map SM.ab) s = (ofL X s).map SM.ab := by unfold ofSB ofL; rw [List.find?_map]; rfl
def diffE (A B : List SB) : Int := if goodL A && goodL B then 0 else 1
theorem conf_diff {t u : Sl} {X Y : List SM} (hX : SvL w t X) (hY : SvL w u Y) : Ret Tryz.prog F.conf_diff #[.slice t.a t.len t.cap, .slice u.a u.len u.cap] w
   (fun v w' => ∃ (s : Sl) (O : List OpM), v = .tuple #[.slice s.a s.len s.cap, .int .i64 (diffE (X.map SM.ab) (Y.map SM.ab))] ∧ O = (if diffE (X.map SM.ab) (Y.map SM.ab) = 0 then diffL (X.map SM.ab) (Y.map SM.ab) else []) ∧ OwnS 51 Ty.api_Op w' s (opsC O) ∧ Ext w w' ∧ ∀ q, ownB s q → w.heap.size ≤ q) := by
 refine W.conf_diff_ok t u w _ ?_
 (delta W.conf_diff c9 Br ix al z1 nA c14 r3 c2 wI r1; dsimp only)
 refine (conf_good hX).use ?_
 rintro _ w1 ⟨rfl, hx1⟩
 refine ⟨_, rfl, Jn1 (fun b w' => Ext w w' ∧ b = !(goodL (X.map SM.ab) && goodL (Y.map SM.ab))) (fun q hq => ⟨fun hg => hq _ _ ⟨hx1, ?_⟩, fun hg => (conf_good (hY.ext hx1)).use ?_⟩) ?_⟩
 · have hg : goodL (X.map SM.ab) = false := by simpa using hg
   rw [hg]; rfl
 · have hg : goodL (X.map SM.ab) = true := by simpa using hg
   rintro _ w5 ⟨rfl, hx5⟩
   refine ⟨_, rfl, hq _ _ ⟨Ext.trans hx1 hx5, ?_⟩⟩
   rw [hg, Bool.true_and]
 rintro _ w9 ⟨hx9, rfl⟩
 refine ⟨fun hb => ?_, fun hb => ?_⟩
 · have e : diffE (X.map SM.ab) (Y.map SM.ab) = 1 := by unfold diffE; rw [if_neg (by intro h; rw [h] at hb; cases hb)]
   rw [e]
   exact ⟨nilS, [], rfl, rfl, OwnS.none _ _ _, hx9, fun q hq => (ownB_none q hq).elim⟩
 have e0 : diffE (X.map SM.ab) (Y.map SM.ab) = 0 := by unfold diffE; rw [if_pos (by simpa using hb)]
 rw [e0]
 refine nxVar (vs := [.slice none 0 0]) rfl fun w10 hd10 hx10 hs10 => ?_
 have hX10 := Ext.trans hx9 hx10
 have hX0 : DfAt w10 w9.heap.size nilS [] := ⟨hd10, OwnS.none _ _ _⟩
 have hXl := hX.len; have hYl := hY.len; have hXm := hX.lim; have hYm := hY.lim
 have hnew : ∀ (sl : Sl) q, (∀ q, ownB sl q → w.heap.size ≤ q) → dfB w9.heap.size sl q → w.heap.size ≤ q := fun sl q hs hq => hq.elim (fun e => by have := hx9.size; omega) (hs q)
 obtain ⟨P1, hP1⟩ : ∃ P1 : Nat → List OpM, P1 = fun i => (((X.map SM.ab).take i).filter fun x => (ofSB (Y.map SM.ab) x.1).isNone).map fun x => oDropS x.1.id := ⟨_, rfl⟩
 obtain ⟨P2, hP2⟩ : ∃ P2 : Nat → List OpM, P2 = fun i => ((Y.map SM.ab).take i).flatMap fun y => svOps (wasB (X.map SM.ab) y.1) (ofSB (X.map SM.ab) y.1).isSome y := ⟨_, rfl⟩
 have hwn : ∀ s : Sv, (wasB (X.map SM.ab) s).length ≤ 1000 := fun s => by
   unfold wasB
   rw [ofSB_abs]
   cases hf : ofL X s with
   | none => simp
   | some x => exact hX.few x (List.mem_of_find?_eq_some hf)
 have hl1 : ∀ i, (P1 i).length ≤ 1000 := fun i => by
   rw [hP1]; simp only [List.length_map]
   have h1 := List.length_filter_le (fun x : SB => (ofSB (Y.map SM.ab) x.1).isNone) ((X.map SM.ab).take i)
   rw [List.length_take, List.length_map] at h1
   omega
 have hl2 : ∀ i, (P2 i).length ≤ 4001000 := fun i => by
   rw [hP2]
   have h1 := flatMap_len (fun y : SB => svOps (wasB (X.map SM.ab) y.1) (ofSB (X.map SM.ab) y.1).isSome y) 4001 ((Y.map SM.ab).take i) fun y hy => by
     obtain ⟨z, hz, rfl⟩ := List.mem_map.1 (List.mem_of_mem_take hy)
     exact svOps_len (hwn _) (hY.few z hz)
   rw [List.length_take, List.length_map] at h1
   simp only; omega
 have hall : diffL (X.map SM.ab) (Y.map SM.ab) = P1 X.length ++ P2 Y.length := by
   rw [hP1, hP2]; simp only
   rw [List.take_of_length_le (by simp : (X.map SM.ab).length ≤ X.length), List.take_of_length_le (by simp : (Y.map SM.ab).length ≤ Y.length)]; rfl
 refine ⟨fun n w' => ∃ (i : Nat) (sl : Sl), n = i ∧ i ≤ X.length ∧ DfAt w' w9.heap.size sl (P1 i) ∧ Ext w w' ∧ ∀ q, ownB sl q → w.heap.size ≤ q, fun n _ => (t.len - n).toNat,
   ⟨0, nilS, rfl, Nat.zero_le _, by rw [show P1 0 = [] by rw [hP1]; rfl]; exact hX0, hX10, fun q hq => (ownB_none q hq).elim⟩, ?_⟩
 rintro _ w14 ⟨i, sl, rfl, hi, h14, hx14, hf14⟩
 refine ⟨fun hlt => ?_, fun hge => ?_⟩
 · have hlt : (i : Int) < ((t.len : Nat) : Int) := of_decide_eq_true hlt
   have hlt : i < X.length := by omega
   obtain ⟨A, hA, hbd, hrd⟩ := (hX.ext hx14).get hlt
   obtain ⟨x, hxe⟩ : ∃ x, x = X[i] := ⟨_, rfl⟩
   rw [← hxe] at hrd
   have ew : IntKind.wrap .i64 ((i : Int) + 1) = ((i + 1 : Nat) : Int) := by rw [wrapi (by omega) (by omega)]; rfl
   have hms : (((t.len : Nat) : Int) - ((i + 1 : Nat) : Int)).toNat < (((t.len : Nat) : Int) - (i : Int)).toNat := by omega
   have hPs : P1 (i + 1) = P1 i ++ if (ofSB (Y.map SM.ab) x.s).isNone then [oDropS x.s.id] else [] := by
     rw [hP1]; simp only
     rw [List.take_succ_eq_append_getElem (by simpa using hlt), List.filter_append, List.map_append]
     congr 1
     simp only [List.getElem_map, ← hxe, List.filter_cons, List.filter_nil]
     show List.map _ (if (ofSB (Y.map SM.ab) x.s).isNone = true then _ else _) = _
     split <;> rfl
   refine Jn0 (fun w' => ∃ sl : Sl, DfAt w' w9.heap.size sl (P1 (i + 1)) ∧ Ext w w' ∧ ∀ q, ownB sl q → w.heap.size ≤ q) (fun q hq => ?_) (fun w31 ⟨sl, g1, g2, g3⟩ => by rw [ew]; exact ⟨⟨i + 1, sl, rfl, hlt, g1, g2, g3⟩, hms⟩)
   refine ⟨A, hA, hbd, _, hrd, nxVar (vs := Sv.zero.c nilS) (by kernel_rfl) fun w18 hz18 hx18 hs18 => ⟨hz18.storeOk (by simp [Sv.c_length]) (Sv.plain _ _), by simp [Sv.c_length], nxPut hz18 (us := x.s.c x.k) (by simp [Sv.c_length]) rfl fun w19 hv19 hc19 hs19 => ?_⟩⟩
   have hx19 : Ext w14 w19 := Ext.of_chg hx18 hc19 (Nat.le_refl _)
   have hX19 := Ext.trans hx14 hx19
   refine ⟨_, hv19.rd (Sv.c_length _ _), (conf_of x.s x.k (hY.ext hX19)).use ?_⟩
   rintro _ w21 ⟨rfl, hx21⟩
   obtain ⟨o, hoe⟩ : ∃ o, o = ofL Y x.s := ⟨_, rfl⟩
   rw [← hoe]
   have hoc : (ofC o).length = 23 ∧ ∀ v ∈ ofC o, Plain v := by
     cases o with
     | none => exact ⟨Sv.c_length _ _, Sv.plain _ _⟩
     | some z => exact ⟨Sv.c_length _ _, Sv.plain _ _⟩
   refine ⟨_, _, rfl, nxVar (vs := Sv.zero.c nilS) (by kernel_rfl) fun w25 hz25 hx25 hs25 => ⟨hz25.storeOk (by simp [Sv.c_length, hoc.1]) hoc.2, by simp [hoc.1], nxPut hz25 (us := ofC o) (by simp [Sv.c_length, hoc.1]) rfl fun w26 hz26 hc26 hs26 => ?_⟩⟩
   have hx26 : Ext w19 w26 := Ext.trans hx21 (Ext.of_chg hx25 hc26 (Nat.le_refl _))
   have hX26 := Ext.trans hX19 hx26
   have h26 := h14.ext (Ext.trans hx19 hx26)
   have hob : ofSB (Y.map SM.ab) x.s = o.map SM.ab := by rw [ofSB_abs, hoe]
   refine ⟨fun hno => ?_, fun hno => ?_⟩
   · have hno : o = none := by cases o with
       | none => rfl
       | some _ => simp at hno
     refine ⟨_, (scell (hv19.ext hx26)).1, _, mkDropS _ x.s.id, (differ_put h26 (oDropS x.s.id) (by have := hl1 i; omega)).use ?_⟩
     rintro _ w29 ⟨rfl, s2, h29, c29, f29⟩
     refine ⟨rfl, hq _ ⟨s2, ?_, Ext.of_new hX26 c29 (fun q hq => hnew sl q hf14 hq), fun q hq => ?_⟩⟩
     · rw [hPs, hob, hno]; exact h29
     · rcases f29 q hq with h1 | h1
       · exact hf14 q h1
       · exact Nat.le_trans hX26.size h1
   · have hno : o.isNone = false := by cases o with
       | none => simp at hno
       | some _ => rfl
     refine hq _ ⟨sl, ?_, hX26, hf14⟩
     rw [hPs, hob]
     cases o with
     | none => cases hno
     | some z => simpa using h26
 · have hge : ¬ (i : Int) < ((t.len : Nat) : Int) := of_decide_eq_false hge
   have hie : i = X.length := by omega
   subst hie
   refine ⟨fun n w' => ∃ (i : Nat) (sl : Sl), n = i ∧ i ≤ Y.length ∧ DfAt w' w9.heap.size sl (P1 X.length ++ P2 i) ∧ Ext w w' ∧ ∀ q, ownB sl q → w.heap.size ≤ q, fun n _ => (u.len - n).toNat,
     ⟨0, sl, rfl, Nat.zero_le _, by rw [show P2 0 = [] by rw [hP2]; rfl, List.append_nil]; exact h14, hx14, hf14⟩, ?_⟩
   rintro _ w35 ⟨i, sl, rfl, hi, h35, hx35, hf35⟩
   refine ⟨fun hlt => ?_, fun hge => ?_⟩
   · have hlt : (i : Int) < ((u.len : Nat) : Int) := of_decide_eq_true hlt
     have hlt : i < Y.length := by omega
     obtain ⟨A, hA, hbd, hrd⟩ := (hY.ext hx35).get hlt
     obtain ⟨y, hye⟩ : ∃ y, y = Y[i] := ⟨_, rfl⟩
     have hym : y ∈ Y := by rw [hye]; exact List.getElem_mem _
     rw [← hye] at hrd
     have ew : IntKind.wrap .i64 ((i : Int) + 1) = ((i + 1 : Nat) : Int) := by rw [wrapi (by omega) (by omega)]; rfl
     have hms : (((u.len : Nat) : Int) - ((i + 1 : Nat) : Int)).toNat < (((u.len : Nat) : Int) - (i : Int)).toNat := by omega
     have hPs : P2 (i + 1) = P2 i ++ svOps (wasB (X.map SM.ab) y.s) (ofSB (X.map SM.ab) y.s).isSome y.ab := by
       rw [hP2]; simp only
       rw [List.take_succ_eq_append_getElem (by simpa using hlt), List.flatMap_append]
       simp [← hye, SM.ab]
     refine ⟨A, hA, hbd, _, hrd, nxVar (vs := Sv.zero.c nilS) (by kernel_rfl) fun w38 hz38 hx38 hs38 => ⟨hz38.storeOk (by simp [Sv.c_length]) (Sv.plain _ _), by simp [Sv.c_length], nxPut hz38 (us := y.s.c y.k) (by simp [Sv.c_length]) rfl fun w39 hv39 hc39 hs39 => ?_⟩⟩
     have hx39 : Ext w35 w39 := Ext.of_chg hx38 hc39 (Nat.le_refl _)
     have hX39 := Ext.trans hx35 hx39
     refine ⟨_, hv39.rd (Sv.c_length _ _), (conf_of y.s y.k (hX.ext hX39)).use ?_⟩
     rintro _ w41 ⟨rfl, hx41⟩
     obtain ⟨o, hoe⟩ : ∃ o, o = ofL X y.s := ⟨_, rfl⟩
     rw [← hoe]
     obtain ⟨z, hz⟩ : ∃ z : SM, z = o.getD ⟨Sv.zero, nilS, []⟩ := ⟨_, rfl⟩
     have hoc : ofC o = z.s.c z.k := by rw [hz]; cases o <;> rfl
     have hzb : z.bs = wasB (X.map SM.ab) y.s := by unfold wasB; rw [ofSB_abs, ← hoe, hz]; cases o <;> rfl
     have hzr : ∀ w', Ext w w' → BR w' z.k z.bs := fun w' hx => by
       rw [hz]
       cases ho : o with
       | none => exact (OwnS.none 21 Ty.api_Backend w').src
       | some a =>
         have h1 : X.find? (fun x => decide (y.s = x.s)) = some a := by rw [← ho, hoe]; rfl
         exact (hX.bk a (List.mem_of_find?_eq_some h1)).ext hx
     rw [hoc]
     refine ⟨_, _, rfl, nxVar (vs := Sv.zero.c nilS) (by kernel_rfl) fun w45 hz45 hx45 hs45 => ⟨hz45.storeOk (by simp [Sv.c_length]) (Sv.plain _ _), by simp [Sv.c_length], nxPut hz45 (us := z.s.c z.k) (by simp [Sv.c_length]) rfl fun w46 hz46 hc46 hs46 => ?_⟩⟩
     have hx46 : Ext w39 w46 := Ext.trans hx41 (Ext.of_chg hx45 hc46 (Nat.le_refl _))
     have hX46 := Ext.trans hX39 hx46
     have h46 := h35.ext (Ext.trans hx39 hx46)
     refine ⟨_, hz46.rd (Sv.c_length _ _), _, (hv39.ext hx46).rd (Sv.c_length _ _), (differ_service h46 z.s z.k (fun w2 hc2 => hzr w2 (Ext.of_new hX46 hc2 fun q hq => hnew sl q hf35 hq)) (by rw [hzb]; exact hwn _) o.isSome y (fun w2 hc2 => (hY.bk y hym).ext (Ext.of_new hX46 hc2 fun q hq => hnew sl q hf35 hq)) (hY.few y hym) (by have := hl1 X.length; have := hl2 i; rw [List.length_append]; omega)).use ?_⟩
     rintro _ w49 ⟨rfl, s2, h49, c49, f49⟩
     rw [ew]
     refine ⟨rfl, ⟨i + 1, s2, rfl, hlt, ?_, Ext.of_new hX46 c49 (fun q hq => hnew sl q hf35 hq), fun q hq => ?_⟩, hms⟩
     · rw [hPs, ← List.append_assoc, ← hzb, ofSB_abs, ← hoe, Option.isSome_map]
       exact h49
     · rcases f49 q hq with h1 | h1
       · exact hf35 q h1
       · exact Nat.le_trans hX46.size h1
   · have hge : ¬ (i : Int) < ((u.len : Nat) : Int) := of_decide_eq_false hge
     have hie : i = Y.length := by omega
     subst hie
     exact ⟨_, rfl, sl, h35.v.cell, sl, _, rfl, by rw [if_pos rfl, hall], h35.o, hx35, hf35⟩
end Go.Proofs.YtgljoledlhmhnaaGreatDoor
namespace Go.Proofs.YtgljoledlhmhnaaGreatDoor
open Go Gx
variable {w w' : World} {fm : Fm} {R : List Rec} {r : Rec}
theorem farm_Service (h : FarmAt w fm R) (hr : r ∈ R) : Ret Tryz.prog F.farm_Farm_Service #[.pointer (some ⟨fm.p, 0, none⟩), .int .i64 r.s.id] w
   (fun v w' => ∃ k : Sl, v = .tuple #[.agg (r.s.c k).toArray, .bool true] ∧ OwnS 21 Ty.api_Backend w' k (bksC r.bs) ∧ Ext w w' ∧ ∀ q, ownB k q → w.heap.size ≤ q) := by
 refine W.farm_Farm_Service_ok (some ⟨fm.p, 0, none⟩) _ w _ ?_
 (delta W.farm_Farm_Service z1 Br T9 c6 nA al r1 c5 st T23; dsimp only)
 refine nxVar (vs := Sv.zero.c nilS) (by kernel_rfl) fun w1 hz1 hx1 hs1 => ⟨fun hn => by simp at hn, fun _ => ?_⟩
 have h1 := h.ext hx1
 obtain ⟨p7, hl, hp7⟩ := h1.look r.s.id
 have hid : hasId R r.s.id = true := hasId_true.2 ⟨r, hr, rfl⟩
 have hsv1 := h1.sv r hr
 refine ⟨_, rfl, _, h1.cells.1, p7, _, w1, hl, fun hb => (by rw [hid] at hb; cases hb), fun _ => ⟨_, hp7 r hr rfl, _, hsv1.rd (Sv.c_length _ _), nxVar (vs := Sv.zero.c nilS) (by kernel_rfl) fun w15 hz15 hx15 hs15 => ⟨hz15.storeOk (by simp [Sv.c_length]) (Sv.plain _ _), by simp [Sv.c_length], nxPut hz15 (us := r.s.c r.k) (by simp [Sv.c_length]) rfl fun w16 hv16 hc16 hs16 => ?_⟩⟩⟩
 have hx16 : Ext w1 w16 := Ext.of_chg hx15 hc16 (Nat.le_refl _)
 have h16 := h1.ext hx16
 refine ⟨_, hp7 r hr rfl, r.k, (scell (h16.sv r hr)).2.2.2.2.2.2, (bk_Clone (h16.bk r hr).src (by have := h.few r hr; omega)).use ?_⟩
 rintro _ w19 ⟨k, rfl, ho, hkl, hx19, hfr⟩
 have hv19 := hv16.ext hx19
 refine ⟨k, rfl, ⟨_, (scell hv19).2.2.2.2.2.2⟩, by rw [add_mk]; exact Blk.frozen hv19 _ rfl, ?_⟩
 rw [add_mk]
 refine nxSet hv19 fun w22 hv22 hc22 hs22 => ?_
 have ev : (r.s.c r.k).set (0 + 22) (.slice k.a k.len k.cap) = r.s.c k := r.s.set22 r.k k
 rw [ev] at hv22
 have hz22 : Var w22 w.heap.size (Sv.zero.c nilS) Ty.api_Service := ((hz1.ext hx16).ext hx19).chg hc22 (by have := hz1.lt; omega)
 refine ⟨_, hv22.rd (Sv.c_length _ _), hz22.storeOk (by simp [Sv.c_length]) (Sv.plain _ _), by simp [Sv.c_length], nxPut hz22 (us := r.s.c k) (by simp [Sv.c_length]) rfl fun w24 hv24 hc24 hs24 => ⟨_, hv24.rd (Sv.c_length _ _), k, rfl, ?_, ?_, fun q hq => ?_⟩⟩
 · refine (ho.chg hc22 fun q hq e => ?_).chg hc24 fun q hq e => ?_
   · subst e; have := hfr _ hq; have := hv16.lt; omega
   · subst e; have := hfr _ hq; have := hx16.size; have := hz1.lt; omega
 · have hX19 : Ext w w19 := Ext.trans hx1 (Ext.trans hx16 hx19)
   exact Ext.of_chg (Ext.of_chg hX19 hc22 hx1.size) hc24 (Nat.le_refl _)
 · have := hfr q hq; have := (Ext.trans hx1 hx16).size; omega
theorem appSv : AppT Tryz.prog Ty.Sl_api_Service Ty.api_Service 23 72 := ⟨by kernel_rfl⟩
theorem buildSv (s : Sv) (k : Sl) (w : World) : Sem.run Tryz.prog (Instr.buildSlice Ty.Sl_api_Service 1 #[(0, .agg (s.c k).toArray)]) w = .ok (.slice (some ⟨w.heap.size, 0, none⟩) 1 1) (w.alloc (.cells (s.c k).toArray Ty.api_Service)) := by
 obtain ⟨id, ⟨six, b, h⟩, port, proto, bits, lasts⟩ := s
 obtain ⟨x0, x1, x2, x3, x4, x5, x6, x7, x8, x9, x10, x11, x12, x13, x14, x15, rfl⟩ := list16 b h
 kernel_rfl
structure OwnSv (w : World) (t : Sl) (X : List SM) : Prop where
 o : OwnS 23 Ty.api_Service w t (smC X)
 k : ∀ x ∈ X, OwnS 21 Ty.api_Backend w x.k (bksC x.bs)
theorem OwnSv.svL {t : Sl} {X : List SM} (h : OwnSv w t X) (hf : ∀ x ∈ X, x.bs.length ≤ 1000) (hl : X.length ≤ 1000) : SvL w t X := ⟨h.o.src, fun x hx => (h.k x hx).src, hf, hl⟩
theorem OwnSv.chg {t : Sl} {X : List SM} {W : Nat → Prop} (h : OwnSv w t X) (hc : Chg W w w') (hn : ∀ q, svB t X q → ¬ W q) : OwnSv w' t X :=
 ⟨h.o.chg hc fun q hq => hn q (.inl hq), fun x hx => (h.k x hx).chg hc fun q hq => hn q (.inr ⟨x, hx, hq⟩)⟩
theorem OwnSv.ext {t : Sl} {X : List SM} (h : OwnSv w t X) (hc : Ext w w') : OwnSv w' t X := h.chg hc fun _ _ h => h
theorem OwnSv.nil (w : World) : OwnSv w nilS [] := ⟨OwnS.none _ _ _, by simp⟩
theorem OwnSv.push {oT : TypeId} {t : Sl} {X : List SM} (h : OwnSv w t X) (x : SM) (hk : OwnS 21 Ty.api_Backend w x.k (bksC x.bs)) (hl : X.length ≤ 100000000) :
   ∃ (t' : Sl) (w' : World), Sem.run Tryz.prog (Builtin.append_ #[Ty.Sl_api_Service, Ty.Sl_api_Service] oT #[.slice t.a t.len t.cap, .slice (some ⟨w.heap.size, 0, none⟩) 1 1]) (w.alloc (.cells (x.s.c x.k).toArray Ty.api_Service)) = .ok (.slice t'.a t'.len t'.cap) w' ∧
     OwnSv w' t' (X ++ [x]) ∧ Chg (ownB t) w w' ∧ ∀ q, svB t' (X ++ [x]) q → svB t X q ∨ ownB x.k q ∨ w.heap.size ≤ q := by
 have hlen : t.len = X.length := by have := h.o.1; rw [smC_length] at this; omega
 obtain ⟨t', w', g1, g2, g3, g4, g5⟩ := appSv.push (oT := oT) (xs := x.s.c x.k) (Sv.c_length _ _) h.o (Sv.plain _ _) (by omega)
 refine ⟨t', w', g1, ⟨by rw [smC_app, smC_one]; exact g2, fun y hy => ?_⟩, g4, fun q hq => ?_⟩
 · have key : ∀ z : SM, OwnS 21 Ty.api_Backend w z.k (bksC z.bs) → OwnS 21 Ty.api_Backend w' z.k (bksC z.bs) := fun z hz => hz.chg g4 fun q hq hq2 => by
     obtain ⟨c, hB⟩ := OwnS.blk h.o hq2
     exact absurd (hz.notVar hq hB) (by decide)
   rcases List.mem_append.1 hy with hy | hy
   · exact key y (h.k y hy)
   · rw [List.mem_singleton.1 hy]; exact key x hk
 · rcases hq with hq | ⟨y, hy, hq⟩
   · exact (g5 q hq).elim (fun h => .inl (.inl h)) fun h => .inr (.inr h)
   · rcases List.mem_append.1 hy with hy | hy
     · exact .inl (.inr ⟨y, hy, hq⟩)
     · rw [List.mem_singleton.1 hy] at hq; exact .inr (.inl hq)
theorem conf_Of (h : FarmAt w fm R) (hok : ∀ r ∈ R, idOk r.s.id = true) : Ret Tryz.prog F.conf_Of #[.pointer (some ⟨fm.p, 0, none⟩)] w
   (fun v w' => ∃ (t : Sl) (X : List SM), v = .slice t.a t.len t.cap ∧ X.map SM.ab = absR R ∧ OwnSv w' t X ∧ Ext w w' ∧ ∀ q, svB t X q → w.heap.size ≤ q) := by
 refine W.conf_Of_ok (some ⟨fm.p, 0, none⟩) w _ ?_
 (delta W.conf_Of c5 Br bd r3 c14 c13 z1 nA T17 wI; dsimp only)
 refine (farm_IDs h hok).use ?_
 rintro _ w1 ⟨s3, rfl, ho3, hl3, hx1, hf3⟩
 have hR := h.len
 refine ⟨s3, rfl, fun s6 n w' => ∃ (i : Nat) (X : List SM), n = i ∧ i ≤ R.length ∧ X.map SM.ab = (absR R).take i ∧ OwnSv w' s6 X ∧ Ext w1 w' ∧ ∀ q, svB s6 X q → w1.heap.size ≤ q, fun _ n _ => (s3.len - n).toNat,
   ⟨0, [], rfl, Nat.zero_le _, by simp, OwnSv.nil _, .refl _ _, fun q hq => hq.elim (fun hq => (ownB_none q hq).elim) fun ⟨x, hx, _⟩ => by cases hx⟩, ?_⟩
 rintro s6 _ w8 ⟨i, X, rfl, hi, hX, ho, hx8, hf8⟩
 refine ⟨fun hlt => ?_, fun hge => ?_⟩
 · have hlt : (i : Int) < ((s3.len : Nat) : Int) := of_decide_eq_true hlt
   have hlt : i < R.length := by omega
   have hXl : X.length = i := by have := congrArg List.length hX; rw [List.length_map, List.length_take] at this; unfold absR at this; rw [List.length_map] at this; omega
   obtain ⟨r, hre⟩ : ∃ r, r = R[i] := ⟨_, rfl⟩
   have hr : r ∈ R := by rw [hre]; exact List.getElem_mem _
   obtain ⟨A, hA, hbd, hcell, _⟩ := (ho3.ext hx8).at (i := i) (v := .int .i64 r.s.id) (by rw [List.getElem?_map, List.getElem?_map, List.getElem?_eq_getElem hlt, ← hre]; rfl)
   refine ⟨A, hA, hbd, _, hcell, (farm_Service (h.ext (Ext.trans hx1 hx8)) hr).use ?_⟩
   rintro _ w11 ⟨k, rfl, hok11, hx11, hf11⟩
   refine ⟨_, _, rfl, nxVar (vs := Sv.zero.c nilS) (by kernel_rfl) fun w15 hz15 hx15 hs15 => ⟨hz15.storeOk (by simp [Sv.c_length]) (Sv.plain _ _), by simp [Sv.c_length], nxPut hz15 (us := r.s.c k) (by simp [Sv.c_length]) rfl fun w16 hv16 hc16 hs16 => ?_⟩⟩
   have hx16 : Ext w11 w16 := Ext.of_chg hx15 hc16 (Nat.le_refl _)
   have hX16 : Ext w8 w16 := Ext.trans hx11 hx16
   have ho16 := ho.ext hX16
   have hk16 := hok11.ext hx16
   obtain ⟨t', w21, g1, g2, g3, g4⟩ := ho16.push (oT := Ty.Sl_api_Service) ⟨r.s, k, r.bs⟩ hk16 (by omega)
   have ew : IntKind.wrap .i64 ((i : Int) + 1) = ((i + 1 : Nat) : Int) := by rw [wrapi (by omega) (by omega)]; rfl
   have hms : (((s3.len : Nat) : Int) - ((i + 1 : Nat) : Int)).toNat < (((s3.len : Nat) : Int) - (i : Int)).toNat := by omega
   refine ⟨_, hv16.rd (Sv.c_length _ _), ⟨some ⟨w16.heap.size, 0, none⟩, 1, 1⟩, _, buildSv r.s k w16, t', w21, g1, ?_⟩
   rw [ew]
   refine ⟨⟨i + 1, X ++ [⟨r.s, k, r.bs⟩], rfl, hlt, ?_, g2, Ext.of_new (Ext.trans hx8 hX16) g3 (fun q hq => hf8 q (.inl hq)), fun q hq => ?_⟩, hms⟩
   · have hla : i < (absR R).length := by unfold absR; rw [List.length_map]; exact hlt
     have hge : (absR R)[i] = (r.s, r.bs) := by
       have h1 : (absR R)[i]? = some (r.s, r.bs) := by unfold absR; rw [List.getElem?_map, List.getElem?_eq_getElem hlt, ← hre]; rfl
       exact (List.getElem?_eq_some_iff.1 h1).2
     rw [List.map_append, hX, List.take_succ_eq_append_getElem hla, hge]
     rfl
   · rcases g4 q hq with h1 | h1 | h1
     · exact hf8 q h1
     · have := hf11 q h1; have := hx8.size; omega
     · have := (Ext.trans hx8 hX16).size; omega
 · have hge : ¬ (i : Int) < ((s3.len : Nat) : Int) := of_decide_eq_false hge
   have hie : i = R.length := by omega
   subst hie
   have e : (absR R).take R.length = absR R := List.take_of_length_le (by unfold absR; simp)
   rw [e] at hX
   exact ⟨s6, X, rfl, hX, ho, Ext.trans hx1 hx8, fun q hq => Nat.le_trans hx1.size (hf8 q hq)⟩
def doL (L : List SB) (o : OpM) : Int × List SB :=
 if o.kind = 3 then addService L o.s o.k else if o.kind = 4 then dropService L o.id else if o.kind = 5 then addBackend L o.id o.to else if o.kind = 6 then dropBackend L o.id o.bid else
 if o.kind = 7 then drain L o.id o.bid o.on else if o.kind = 8 then weigh L o.id o.bid (IntKind.wrap .i64 o.n) else (1, L)
theorem ocell {b : Nat} {T : TypeId} {o : OpM} (h : Var w b o.c T) : w.cell? ⟨b, 0, none⟩ = some (.int .i64 o.kind) ∧ w.cell? (Addr.add ⟨b, 0, none⟩ 2) = some (.int .i64 o.id) ∧ w.cell? (Addr.add ⟨b, 0, none⟩ 3) = some (.int .i64 o.bid) ∧ w.cell? (Addr.add ⟨b, 0, none⟩ 4) = some (.int .u64 o.n) ∧ w.cell? (Addr.add ⟨b, 0, none⟩ 5) = some (.bool o.on) := by
 simp only [add_mk, h.cell]
 exact ⟨rfl, rfl, rfl, rfl, rfl⟩
theorem ords {b : Nat} {T : TypeId} {o : OpM} (h : Var w b o.c T) : rdCells w (Addr.add ⟨b, 0, none⟩ 6) 0 23 = some (o.s.c o.k) := by
 rw [add_mk, h.rdAt (by rw [OpM.c_length]; decide)]
 show some ((o.s.c o.k ++ _).take 23) = _
 rw [List.take_left' (Sv.c_length _ _)]
theorem ordt {b : Nat} {T : TypeId} {o : OpM} (h : Var w b o.c T) : rdCells w (Addr.add ⟨b, 0, none⟩ 29) 0 21 = some o.to.c := by
 rw [add_mk, h.rdAt (by rw [OpM.c_length]; decide)]
 have e : o.c.drop (0 + 29) = o.to.c ++ [.slice o.l.a o.l.len o.l.cap] := by
   show (o.s.c o.k ++ _).drop 23 = _
   exact List.drop_left' (Sv.c_length _ _)
 rw [e, List.take_left' (Bk.c_length _)]
theorem conf_does (h : FarmAt w fm R) (o : OpM) : Ret Tryz.prog F.conf_does #[.pointer (some ⟨fm.p, 0, none⟩), .agg o.c.toArray] w (fun v w' => Step fm R w (doL (absR R) o) v w') := by
 refine W.conf_does_ok (some ⟨fm.p, 0, none⟩) _ w _ ?_
 (delta W.conf_does r3 nA Br c1 r8 r5 wI; dsimp only)
 refine nxVar (vs := o.c) rfl fun w1 hv hx1 hs1 => ?_
 have h1 := h.ext hx1
 obtain ⟨c0, c2, c3, c4, c5⟩ := ocell hv
 have fin : ∀ {x : Int × List SB} {v : Value} {w2 : World}, doL (absR R) o = x → Step fm R w1 x v w2 → v = .int .i64 x.1 ∧ Step fm R w (doL (absR R) o) (.int .i64 x.1) w2 := by
   intro x v w2 he hs
   have hv := hs.1
   subst hv
   refine ⟨rfl, ?_⟩
   rw [he]
   exact Step.trans_ext hx1 hs
 refine ⟨_, c0, fun k3 => ?_, fun k3 => ⟨fun k4 => ?_, fun k4 => ⟨fun k5 => ?_, fun k5 => ⟨fun k6 => ?_, fun k6 => ⟨fun k7 => ?_, fun k7 => ⟨fun k8 => ?_, fun k8 => ?_⟩⟩⟩⟩⟩⟩
 all_goals simp only [beq_iff_eq, beq_eq_false_iff_ne, ne_eq] at *
 · refine ⟨_, ords hv, (farm_AddService' h1 o.s o.k).use ?_⟩
   intro v w2 hs
   obtain ⟨rfl, hf⟩ := fin (by unfold doL; rw [if_pos k3]) hs
   exact ⟨_, rfl, hf⟩
 · refine ⟨_, c2, (farm_DropService h1 o.id).use ?_⟩
   intro v w2 hs
   obtain ⟨rfl, hf⟩ := fin (by unfold doL; rw [if_neg k3, if_pos k4]) hs
   exact ⟨_, rfl, hf⟩
 · refine ⟨_, c2, _, ordt hv, (farm_AddBackend h1 o.id o.to).use ?_⟩
   intro v w2 hs
   obtain ⟨rfl, hf⟩ := fin (by unfold doL; rw [if_neg k3, if_neg k4, if_pos k5]) hs
   exact ⟨_, rfl, hf⟩
 · refine ⟨_, c2, _, c3, (farm_DropBackend h1 o.id o.bid).use ?_⟩
   intro v w2 hs
   obtain ⟨rfl, hf⟩ := fin (by unfold doL; rw [if_neg k3, if_neg k4, if_neg k5, if_pos k6]) hs
   exact ⟨_, rfl, hf⟩
 · refine ⟨_, c2, _, c3, _, c5, (farm_Drain h1 o.id o.bid o.on).use ?_⟩
   intro v w2 hs
   obtain ⟨rfl, hf⟩ := fin (by unfold doL; rw [if_neg k3, if_neg k4, if_neg k5, if_neg k6, if_pos k7]) hs
   exact ⟨_, rfl, hf⟩
 · refine ⟨_, c2, _, c3, _, c4, (farm_Weigh h1 o.id o.bid (IntKind.wrap .i64 o.n)).use ?_⟩
   intro v w2 hs
   obtain ⟨rfl, hf⟩ := fin (by unfold doL; rw [if_neg k3, if_neg k4, if_neg k5, if_neg k6, if_neg k7, if_pos k8]) hs
   exact ⟨_, rfl, hf⟩
 · have e : doL (absR R) o = (1, absR R) := by unfold doL; rw [if_neg k3, if_neg k4, if_neg k5, if_neg k6, if_neg k7, if_neg k8]
   rw [e]
   exact Step.same h hx1 rfl
def applyL : List SB → List OpM → Nat → Nat × Int × List SB
 | L, [], i => (i, 0, L)
 | L, o :: O, i => if (doL L o).1 = 0 then applyL (doL L o).2 O (i + 1) else (i, (doL L o).1, (doL L o).2)
theorem OpM.get {t : Sl} {O : List OpM} (h : Src 51 w t (opsC O)) {i : Nat} (hi : i < O.length) : ∃ A, t.a = some A ∧ ((0 : Int) ≤ (i : Int) ∧ (i : Int) < ((t.len : Nat) : Int)) ∧ rdCells w (A.add (Int.toNat (i : Int) * 51)) 0 51 = some (O[i]).c := by
 have hl : t.len = O.length := by have := h.len; rw [opsC_length] at this; omega
 cases ha : t.a with
 | none =>
   have := congrArg List.length (h.nil ha)
   rw [opsC_length, List.length_nil] at this
   omega
 | some A =>
   refine ⟨A, rfl, ⟨by omega, by omega⟩, ?_⟩
   rw [Int.toNat_natCast, rdPart (h.rd A ha) (by rw [hl]; omega), opsC_drop, List.drop_eq_getElem_cons hi]
   show some (((O[i]).c ++ opsC _).take 51) = _
   rw [List.take_left' (OpM.c_length _)]
theorem conf_Apply (h : FarmAt w fm R) {t : Sl} {O : List OpM} (hO : ∀ w', Chg (foot fm R) w w' → Src 51 w' t (opsC O)) (hn : O.length ≤ 1000000000) : Ret Tryz.prog F.conf_Apply #[.pointer (some ⟨fm.p, 0, none⟩), .slice t.a t.len t.cap] w
   (fun v w' => v = .tuple #[.int .i64 (((applyL (absR R) O 0).1 : Nat) : Int), .int .i64 (applyL (absR R) O 0).2.1] ∧ ∃ R', FarmAt w' fm R' ∧ absR R' = (applyL (absR R) O 0).2.2 ∧ Chg (foot fm R) w w' ∧ ∀ q, foot fm R' q → foot fm R q ∨ w.heap.size ≤ q) := by
 refine W.conf_Apply_ok (some ⟨fm.p, 0, none⟩) t w _ ?_
 (delta W.conf_Apply Br ix al z4 nA c1 wI; dsimp only)
 have hl : t.len = O.length := by have := (hO w (.refl _ _)).len; rw [opsC_length] at this; omega
 refine ⟨fun hn => by simp at hn, fun _ => ⟨fun n w' => ∃ (i : Nat) (Ri : List Rec), n = i ∧ i ≤ O.length ∧ FarmAt w' fm Ri ∧ applyL (absR R) O 0 = applyL (absR Ri) (O.drop i) i ∧ Chg (foot fm R) w w' ∧ ∀ q, foot fm Ri q → foot fm R q ∨ w.heap.size ≤ q, fun n _ => (t.len - n).toNat,
   ⟨0, R, rfl, Nat.zero_le _, h, rfl, .refl _ _, fun _ h => .inl h⟩, ?_⟩⟩
 rintro _ w4 ⟨i, Ri, rfl, hi, h4, hap, hc4, hf4⟩
 refine ⟨fun hlt => ?_, fun hge => ?_⟩
 · have hlt : (i : Int) < ((t.len : Nat) : Int) := of_decide_eq_true hlt
   have hlt : i < O.length := by omega
   obtain ⟨A, hA, hbd, hrd⟩ := OpM.get (hO w4 hc4) hlt
   obtain ⟨o, hoe⟩ : ∃ o, o = O[i] := ⟨_, rfl⟩
   rw [← hoe] at hrd
   rw [List.drop_eq_getElem_cons hlt, ← hoe] at hap
   refine ⟨A, hA, hbd, _, hrd, nxVar (vs := opZ.c) (by kernel_rfl) fun w7 hz7 hx7 hs7 => ⟨hz7.storeOk (by simp [OpM.c_length]) (OpM.plain _), by simp [OpM.c_length], nxPut hz7 (us := o.c) (by simp [OpM.c_length]) rfl fun w8 hv8 hc8 hs8 => ?_⟩⟩
   have hx8 : Ext w4 w8 := Ext.of_chg hx7 hc8 (Nat.le_refl _)
   have h8 := h4.ext hx8
   refine ⟨_, hv8.rd o.c_length, (conf_does h8 o).use ?_⟩
   rintro _ w10 ⟨rfl, R2, h10, hab, hc10, hf10⟩
   have hC10 : Chg (foot fm R) w w10 := chgThen (hc4.trans (Chg.of_ext hx8)) hc10 hf4
   have hF10 : ∀ q, foot fm R2 q → foot fm R q ∨ w.heap.size ≤ q := fun q hq => (hf10 q hq).elim (hf4 q) fun h => .inr (by have := hc4.size; have := hx8.size; omega)
   obtain ⟨e, he⟩ : ∃ e, e = (doL (absR Ri) o).1 := ⟨_, rfl⟩
   rw [← he]
   have ew : IntKind.wrap .i64 ((i : Int) + 1) = ((i + 1 : Nat) : Int) := by rw [wrapi (by omega) (by omega)]; rfl
   have hms : (((t.len : Nat) : Int) - ((i + 1 : Nat) : Int)).toNat < (((t.len : Nat) : Int) - (i : Int)).toNat := by omega
   refine ⟨_, rfl, fun hne => ?_, fun hz => ?_⟩
   · have hne : e ≠ 0 := by simpa using hne
     have e2 : applyL (absR R) O 0 = (i, (doL (absR Ri) o).1, (doL (absR Ri) o).2) := by rw [hap, applyL, if_neg (by rw [← he]; exact hne)]
     rw [e2, ← he]
     exact ⟨rfl, R2, h10, hab, hC10, hF10⟩
   · have hz : e = 0 := by simpa using hz
     rw [ew]
     refine ⟨⟨i + 1, R2, rfl, hlt, h10, ?_, hC10, hF10⟩, hms⟩
     rw [hap, applyL, if_pos (by rw [← he]; exact hz), hab]
 · have hge : ¬ (i : Int) < ((t.len : Nat) : Int) := of_decide_eq_false hge
   have hie : i = O.length := by omega
   subst hie
   rw [List.drop_length] at hap
   rw [hap, hl]
   exact ⟨rfl, Ri, h4, rfl, hc4, hf4⟩
end Go.Proofs.YtgljoledlhmhnaaGreatDoor
namespace Go.Proofs.YtgljoledlhmhnaaGreatDoor
open Go Gx
variable {w w' : World} {fm : Fm} {R : List Rec} {r : Rec}
theorem Ad.ofRs {cs : List Value} (h : okRs (.bool :: bytesL 16) cs) : ∃ a : Ad, cs = a.c := by
 obtain ⟨_, us, rfl, ⟨b, rfl⟩, h2⟩ := h
 obtain ⟨l, hl, rfl⟩ := okRs_bytes h2
 exact ⟨⟨b, l, hl⟩, rfl⟩
def lfB : List Lf := .int .i64 :: ((.bool :: bytesL 16) ++ [.int .u16, .int .i64, .bool])
theorem part_next (cs : List Value) (a n : Nat) : cs.drop a = (cs.drop a).take n ++ cs.drop (a + n) := by
 rw [← List.drop_drop, List.take_append_drop]
structure SvIn (w : World) (t : Sl) (X : List SM) : Prop where
 src : Src 23 w t (smC X)
 bk : ∀ x ∈ X, BR w x.k x.bs ∧ x.k.len ≤ x.k.cap
theorem SvIn.ext {t : Sl} {X : List SM} (h : SvIn w t X) (hx : Ext w w') : SvIn w' t X := ⟨h.src.ext hx, fun x hx2 => ⟨(h.bk x hx2).1.ext hx, (h.bk x hx2).2⟩⟩
theorem OwnSv.in {t : Sl} {X : List SM} (h : OwnSv w t X) : SvIn w t X := ⟨h.o.src, fun x hx => ⟨(h.k x hx).src, (h.k x hx).2.1⟩⟩
theorem SvIn.get {t : Sl} {X : List SM} (h : SvIn w t X) {i : Nat} (hi : i < X.length) : ∃ A, t.a = some A ∧ ((0 : Int) ≤ (i : Int) ∧ (i : Int) < ((t.len : Nat) : Int)) ∧ rdCells w (A.add (Int.toNat (i : Int) * 23)) 0 23 = some ((X[i]).s.c (X[i]).k) := by
 have hl : t.len = X.length := by have := h.src.len; rw [smC_length] at this; omega
 cases ha : t.a with
 | none =>
   have := congrArg List.length (h.src.nil ha)
   rw [smC_length, List.length_nil] at this
   omega
 | some A =>
   refine ⟨A, rfl, ⟨by omega, by omega⟩, ?_⟩
   rw [Int.toNat_natCast, rdPart (h.src.rd A ha) (by rw [hl]; omega), smC_drop, List.drop_eq_getElem_cons hi, smC_cons]
   congr 1
   exact List.take_left' (Sv.c_length _ _)
def cutSB (x : SB) : SB := (x.1, x.2.take 18)
def fewL (A : List SB) : List SB := (A.take 10).map cutSB
theorem fewL_idem (A : List SB) : fewL (fewL A) = fewL A := by
 unfold fewL
 rw [List.take_of_length_le (by simp; omega), List.map_map]
 refine List.map_congr_left fun x _ => ?_
 show (x.1, (x.2.take 18).take 18) = (x.1, x.2.take 18)
 rw [List.take_take, Nat.min_self]
theorem buildSv0 (w : World) : Sem.run Tryz.prog (Instr.buildSlice Ty.Sl_api_Service 0 #[]) w = .ok (.slice (some ⟨w.heap.size, 0, none⟩) 0 0) (w.alloc (.cells #[] Ty.api_Service)) := by kernel_rfl
theorem buildBk0 (w : World) : Sem.run Tryz.prog (Instr.buildSlice Ty.Sl_api_Backend 0 #[]) w = .ok (.slice (some ⟨w.heap.size, 0, none⟩) 0 0) (w.alloc (.cells #[] Ty.api_Backend)) := by kernel_rfl
theorem law39_Few {t : Sl} {X : List SM} (hl : SvIn w t X) : Ret Tryz.prog F.law39_Few #[.slice t.a t.len t.cap] w
   (fun v w' => ∃ (u : Sl) (Y : List SM), v = .slice u.a u.len u.cap ∧ Y.map SM.ab = fewL (X.map SM.ab) ∧ OwnSv w' u Y ∧ Ext w w' ∧ ∀ q, svB u Y q → w.heap.size ≤ q) := by
 refine W.law39_Few_ok t w _ ?_
 (delta W.law39_Few Br ix al z1 r1 nA st T17 wI; dsimp only)
 have hlen : t.len = X.length := by have := hl.src.len; rw [smC_length] at this; omega
 have hx0 : Ext w (w.alloc (.cells #[] Ty.api_Service)) := Chg.alloc (.refl _ _) _
 have ho0 : OwnSv (w.alloc (.cells #[] Ty.api_Service)) ⟨some ⟨w.heap.size, 0, none⟩, 0, 0⟩ [] := ⟨OwnS.new w [] 0 rfl (by decide), by simp⟩
 refine ⟨⟨some ⟨w.heap.size, 0, none⟩, 0, 0⟩, _, buildSv0 w, fun s n w' => ∃ (i : Nat) (Y : List SM), n = i ∧ i ≤ X.length ∧ i ≤ 10 ∧ Y.map SM.ab = ((X.map SM.ab).take i).map cutSB ∧ OwnSv w' s Y ∧ Ext w w' ∧ ∀ q, svB s Y q → w.heap.size ≤ q, fun _ n _ => (10 - n).toNat,
   ⟨0, [], rfl, Nat.zero_le _, Nat.zero_le _, by simp, ho0, hx0, fun q hq => hq.elim (fun ⟨A, hA, e⟩ => by cases hA; subst e; exact Nat.le_refl _) fun ⟨x, hx, _⟩ => by cases hx⟩, ?_⟩
 rintro s _ w7 ⟨i, Y, rfl, hi, hi10, hY, ho, hx7, hf⟩
 refine ⟨fun hlt => ?_, fun hge => ?_⟩
 · simp only [Bool.and_eq_true, decide_eq_true_eq] at hlt
   have hlt1 : i < X.length := by omega
   have hYl : Y.length = i := by have := congrArg List.length hY; rw [List.length_map, List.length_map, List.length_take, List.length_map] at this; omega
   obtain ⟨x, hxe⟩ : ∃ x, x = X[i] := ⟨_, rfl⟩
   have hxm : x ∈ X := by rw [hxe]; exact List.getElem_mem _
   obtain ⟨A, hA, hbd, hrd⟩ := (hl.ext hx7).get hlt1
   rw [← hxe] at hrd
   refine ⟨A, hA, hbd, _, hrd, nxVar (vs := Sv.zero.c nilS) (by kernel_rfl) fun w10 hz10 hx10 hs10 => ⟨hz10.storeOk (by simp [Sv.c_length]) (Sv.plain _ _), by simp [Sv.c_length], nxPut hz10 (us := x.s.c x.k) (by simp [Sv.c_length]) rfl fun w11 hv11 hc11 hs11 => ?_⟩⟩
   have hx11 : Ext w7 w11 := Ext.of_chg hx10 hc11 (Nat.le_refl _)
   have hbk := (hl.bk x hxm).1
   have hkc := (hl.bk x hxm).2
   have hkl := BR.len hbk
   refine Jn0 (fun w' => ∃ k : Sl, Var w' w7.heap.size (x.s.c k) Ty.api_Service ∧ Ext w7 w' ∧ Src 21 w' k (bksC (x.bs.take 18)) ∧ k.len ≤ 18) (fun q hq => ⟨x.k, (scell hv11).2.2.2.2.2.2, fun hg => ?_, fun hg => ?_⟩) ?_
   · have hg := of_decide_eq_true hg
     refine ⟨x.k, (scell hv11).2.2.2.2.2.2, ⟨by decide, by omega⟩, ⟨_, (scell hv11).2.2.2.2.2.2⟩, by rw [add_mk]; exact Blk.frozen hv11 _ rfl, ?_⟩
     rw [add_mk]
     refine nxSet hv11 fun w15 hv15 hc15 hs15 => hq _ ⟨⟨x.k.a, 18, x.k.cap⟩, ?_, Ext.of_chg hx11 hc15 (Nat.le_refl _), ?_, Nat.le_refl _⟩
     · have ev : (x.s.c x.k).set (0 + 22) (.slice (cutA x.k.a 21 0 x.k.cap) (Int.toNat 18 - 0) (x.k.cap - 0)) = x.s.c ⟨x.k.a, 18, x.k.cap⟩ := by rw [cut0']; exact x.s.set22 x.k ⟨x.k.a, 18, x.k.cap⟩
       rw [ev] at hv15; exact hv15
     · have h15 := hbk.ext (Ext.trans hx7 (Ext.of_chg hx11 hc15 (Nat.le_refl _)))
       refine ⟨by rw [bksC_length, List.length_take, Nat.min_eq_left (by omega)], fun hn => ?_, fun a ha => ?_⟩
       · have := h15.nil hn
         have h0 := congrArg List.length this
         rw [bksC_length, List.length_nil] at h0
         omega
       · have := rdPart (k := 0) (m := 18 * 21) (h15.rd a ha) (by show 0 + 18 * 21 ≤ x.k.len * 21; omega)
         rw [add_zero', List.drop_zero, bksC_take] at this
         exact this
   · have hg := of_decide_eq_false hg
     refine hq _ ⟨x.k, hv11, hx11, ?_, by omega⟩
     rw [List.take_of_length_le (by omega)]
     exact hbk.ext (Ext.trans hx7 hx11)
   rintro w16 ⟨k, hv16, hx16, hk16, hk18⟩
   have hxa : Ext w16 (w16.alloc (.cells #[] Ty.api_Backend)) := Chg.alloc (.refl _ _) _
   obtain ⟨k', w21, g1, g2, g3, g4, g5, _⟩ := appBk.clone (oT := Ty.Sl_api_Backend) hk16 (bksC_plain _) (by omega)
   have hv21 := hv16.ext g4
   refine ⟨⟨some ⟨w16.heap.size, 0, none⟩, 0, 0⟩, _, buildBk0 w16, k, (scell (hv16.ext hxa)).2.2.2.2.2.2, k', w21, g1, ⟨_, (scell hv21).2.2.2.2.2.2⟩, by rw [add_mk]; exact Blk.frozen hv21 _ rfl, ?_⟩
   rw [add_mk]
   refine nxSet hv21 fun w22 hv22 hc22 hs22 => ?_
   have ev : (x.s.c k).set (0 + 22) (.slice k'.a k'.len k'.cap) = x.s.c k' := x.s.set22 k k'
   rw [ev] at hv22
   have hX21 := Ext.trans hx16 g4
   have hx22 : Ext w7 w22 := Ext.of_chg hX21 hc22 (Nat.le_refl _)
   have hk22 : OwnS 21 Ty.api_Backend w22 k' (bksC (x.bs.take 18)) := g2.chg hc22 fun q hq e => by subst e; have := g5 _ hq; have := hv16.lt; omega
   have ho22 := ho.ext hx22
   obtain ⟨t', w27, j1, j2, j3, j4⟩ := ho22.push (oT := Ty.Sl_api_Service) ⟨x.s, k', x.bs.take 18⟩ hk22 (by omega)
   have ew : IntKind.wrap .i64 ((i : Int) + 1) = ((i + 1 : Nat) : Int) := by rw [wrapi (by omega) (by omega)]; rfl
   have hms : ((10 : Int) - ((i + 1 : Nat) : Int)).toNat < ((10 : Int) - (i : Int)).toNat := by omega
   refine ⟨_, hv22.rd (Sv.c_length _ _), ⟨some ⟨w22.heap.size, 0, none⟩, 1, 1⟩, _, buildSv x.s k' w22, t', w27, j1, ?_⟩
   rw [ew]
   refine ⟨⟨i + 1, Y ++ [⟨x.s, k', x.bs.take 18⟩], rfl, hlt1, by omega, ?_, j2, Ext.of_new (Ext.trans hx7 hx22) j3 (fun q hq => hf q (.inl hq)), fun q hq => ?_⟩, hms⟩
   · have hlm : i < (X.map SM.ab).length := by rw [List.length_map]; exact hlt1
     have hg : (X.map SM.ab)[i] = x.ab := by rw [List.getElem_map, hxe]
     rw [List.map_append, hY, List.take_succ_eq_append_getElem hlm, List.map_append, hg]
     rfl
   · rcases j4 q hq with h1 | h1 | h1
     · exact hf q h1
     · have := g5 q h1; have := (Ext.trans hx7 hx16).size; omega
     · have := (Ext.trans hx7 hx22).size; omega
 · refine ⟨s, Y, rfl, ?_, ho, hx7, hf⟩
   rw [hY]
   unfold fewL
   simp only [Bool.and_eq_false_iff, decide_eq_false_iff_not] at hge
   rcases hge with h1 | h1
   · have : i = X.length := by omega
     subst this
     rw [List.take_of_length_le (by simp), List.take_of_length_le (by simp; omega)]
   · have : i = 10 := by omega
     subst this; rfl
end Go.Proofs.YtgljoledlhmhnaaGreatDoor
namespace Go.Proofs.YtgljoledlhmhnaaGreatDoor
open Go Gx
variable {w w' : World} {fm : Fm} {R : List Rec} {r : Rec}
theorem Bk.c_inj {a b : Bk} (h : a.c = b.c) : a = b := by
 simp only [Bk.c, List.cons.injEq, Value.int.injEq, true_and] at h
 obtain ⟨h0, h⟩ := h
 obtain ⟨h1, h2⟩ := List.append_inj h (by simp [Ad.c_length])
 have h3 := Ad.c_inj h1
 cases a; cases b
 simp_all
theorem Bk.okCs (b : Bk) : Gx.okCs lfB b.c := ⟨_, _, rfl, ⟨_, rfl⟩, okCs_mk b.addr.okCs ⟨_, _, rfl, ⟨_, rfl⟩, _, _, rfl, ⟨_, rfl⟩, _, _, rfl, ⟨_, rfl⟩, rfl⟩⟩
theorem eqBk (a b : Bk) : AggEq Tryz.prog Ty.api_Backend a.c.toArray b.c.toArray (decide (a = b)) := by
 have h := AggEq.flat (P := Tryz.prog) (T := Ty.api_Backend) (d := (Tryz.prog.underlying Ty.api_Backend).get (by kernel_rfl)) (ls := lfB) (Option.some_get _).symm (by kernel_rfl) (by kernel_rfl) (by kernel_rfl) a.okCs b.okCs
 have e : eqVs a.c b.c = decide (a = b) := by
   rw [Bool.eq_iff_iff, eqVs_iff a.okCs b.okCs, decide_eq_true_eq]
   exact ⟨Bk.c_inj, fun h => by rw [h]⟩
 rwa [e] at h
theorem Sv.neq_chain (s t : Sv) : ((((((s.id != t.id) || (!decide (s.addr = t.addr))) || (s.port != t.port)) || (s.proto != t.proto)) || (s.bits != t.bits)) || (s.lasts != t.lasts)) = !decide (s = t) := by
 rw [← Sv.eq_chain]
 simp only [Bool.not_and, bne]
theorem ref20_Same (s t : Sv) (k k' : Sl) {bs cs : List Bk} (hk : BR w k bs) (hk' : BR w k' cs) (hn : bs.length ≤ 1000000) : Ret Tryz.prog F.ref20_Same #[.agg (s.c k).toArray, .agg (t.c k').toArray] w (fun v w' => v = .bool (decide (s = t) && decide (bs = cs)) ∧ Ext w w') := by
 refine W.ref20_Same_ok _ _ w _ ?_
 (delta W.ref20_Same r3 nA T15 Br r7 r4 r5 r1 bd wI; dsimp only)
 refine nxVar (vs := s.c k) rfl fun w1 hs hx1 _ => nxVar (vs := t.c k') rfl fun w2 ht hx2 _ => ?_
 have hs := hs.ext hx2
 have hX2 := Ext.trans hx1 hx2
 refine ⟨_, (scell hs).1, _, (scell ht).1, jnOr (!decide (s.addr = t.addr)) (fun _ q hq => ⟨_, srd hs, _, srd ht, _, eqAd _ _, hq _ (.refl _ _)⟩) fun w3 hx3 => ?_⟩
 have hs3 := hs.ext hx3; have ht3 := ht.ext hx3
 refine jnOr (s.port != t.port) (fun _ q hq => ⟨_, (scell hs3).2.2.1, _, (scell ht3).2.2.1, hq _ (.refl _ _)⟩) fun w4 hx4 => ?_
 have hs4 := hs3.ext hx4; have ht4 := ht3.ext hx4
 refine jnOr (s.proto != t.proto) (fun _ q hq => ⟨_, (scell hs4).2.2.2.1, _, (scell ht4).2.2.2.1, hq _ (.refl _ _)⟩) fun w5 hx5 => ?_
 have hs5 := hs4.ext hx5; have ht5 := ht4.ext hx5
 refine jnOr (s.bits != t.bits) (fun _ q hq => ⟨_, (scell hs5).2.2.2.2.1, _, (scell ht5).2.2.2.2.1, hq _ (.refl _ _)⟩) fun w6 hx6 => ?_
 have hs6 := hs5.ext hx6; have ht6 := ht5.ext hx6
 refine jnOr (s.lasts != t.lasts) (fun _ q hq => ⟨_, (scell hs6).2.2.2.2.2.1, _, (scell ht6).2.2.2.2.2.1, hq _ (.refl _ _)⟩) fun w7 hx7 => ?_
 have hs7 := hs6.ext hx7; have ht7 := ht6.ext hx7
 rw [Sv.neq_chain]
 have hkl := BR.len hk; have hkl' := BR.len hk'
 refine jnOr (((k.len : Nat) : Int) != ((k'.len : Nat) : Int)) (fun _ q hq => ⟨k, (scell hs7).2.2.2.2.2.2, k', (scell ht7).2.2.2.2.2.2, hq _ (.refl _ _)⟩) fun w8 hx8 => ?_
 have hs8 := hs7.ext hx8; have ht8 := ht7.ext hx8
 have hX8 : Ext w w8 := Ext.trans hX2 (Ext.trans hx3 (Ext.trans hx4 (Ext.trans hx5 (Ext.trans hx6 (Ext.trans hx7 hx8)))))
 refine ⟨fun hb => ⟨?_, hX8⟩, fun hb => ?_⟩
 · congr 1; symm
   simp only [Bool.or_eq_true, Bool.not_eq_true', decide_eq_false_iff_not, bne_iff_ne] at hb
   rcases hb with hb | hb
   · rw [decide_eq_false hb]; rfl
   · have : bs ≠ cs := fun e => by subst e; omega
     rw [decide_eq_false this, Bool.and_false]
 simp only [Bool.or_eq_false_iff, Bool.not_eq_false', decide_eq_true_eq, bne_eq_false_iff_eq] at hb
 obtain ⟨rfl, hl⟩ := hb
 have hll : bs.length = cs.length := by omega
 have hst : (decide (s = s) && decide (bs = cs)) = decide (bs = cs) := by simp
 rw [hst]
 refine ⟨fun n w' => ∃ i : Nat, n = i ∧ i ≤ bs.length ∧ Ext w8 w' ∧ ∀ (j : Nat) (h1 : j < bs.length) (h2 : j < cs.length), j < i → bs[j] = cs[j], fun n _ => (k.len - n).toNat, ⟨0, rfl, Nat.zero_le _, .refl _ _, fun j _ _ h => by omega⟩, ?_⟩
 rintro _ w39 ⟨i, rfl, hi, hx39, hno⟩
 refine ⟨k, (scell (hs8.ext hx39)).2.2.2.2.2.2, fun h => ?_, fun h => ?_⟩
 · have hlt : (i : Int) < ((k.len : Nat) : Int) := of_decide_eq_true h
   have hlt : i < bs.length := by omega
   have hlt' : i < cs.length := by omega
   have hd : Ext w39 w39.drew := Chg.drew (.refl _ _)
   have hx41 := Ext.trans hx39 hd
   have hX41 := Ext.trans hX8 hx41
   obtain ⟨A, hA, hbd, hrd⟩ := BR.get (hk.ext hX41) hlt
   obtain ⟨A', hA', hbd', hrd'⟩ := BR.get (hk'.ext hX41) hlt'
   have hms : (((k.len : Nat) : Int) - ((i : Int) + 1)).toNat < (((k.len : Nat) : Int) - (i : Int)).toNat := by omega
   refine nx ⟨id, k, (scell (hs8.ext hx41)).2.2.2.2.2.2, A, hA, hbd, id, _, hrd, id, k', (scell (ht8.ext hx41)).2.2.2.2.2.2, A', hA', hbd', id, _, hrd', _, eqBk _ _, fun hne => ⟨?_, hX41⟩, fun heq => ?_⟩
   · simp only [Bool.not_eq_true', decide_eq_false_iff_not] at hne
     congr 1; symm
     refine decide_eq_false fun e => hne ?_
     subst e; rfl
   · simp only [Bool.not_eq_false', decide_eq_true_eq] at heq
     rw [wrapi (n := (i : Int) + 1) (by omega) (by omega)]
     refine ⟨⟨i + 1, by omega, hlt, hx41, fun j h1 h2 hj => ?_⟩, hms⟩
     rcases Nat.lt_or_ge j i with h3 | h3
     · exact hno j h1 h2 h3
     · have : j = i := by omega
       subst this; exact heq
 · have hge : ¬ (i : Int) < ((k.len : Nat) : Int) := of_decide_eq_false h
   refine ⟨?_, Ext.trans hX8 hx39⟩
   congr 1; symm
   refine decide_eq_true (List.ext_getElem hll fun j h1 h2 => hno j h1 h2 (by omega))
theorem ref39_Same {t u : Sl} {X Y : List SM} (hX : SvL w t X) (hY : SvL w u Y) : Ret Tryz.prog F.ref39_Same #[.slice t.a t.len t.cap, .slice u.a u.len u.cap] w (fun v w' => v = .bool (decide (X.map SM.ab = Y.map SM.ab)) ∧ Ext w w') := by
 refine W.ref39_Same_ok t u w _ ?_
 (delta W.ref39_Same Br bd c9 wI; dsimp only)
 have hl := hX.len; have hl' := hY.len; have hXm := hX.lim
 refine ⟨fun hne => ⟨?_, .refl _ _⟩, fun heq => ?_⟩
 · simp only [bne_iff_ne] at hne
   congr 1; symm
   refine decide_eq_false fun e => hne ?_
   have := congrArg List.length e
   simp only [List.length_map] at this
   omega
 simp only [bne_eq_false_iff_eq] at heq
 have hll : X.length = Y.length := by omega
 refine ⟨fun n w' => ∃ i : Nat, n = i ∧ i ≤ X.length ∧ Ext w w' ∧ ∀ (j : Nat) (h1 : j < X.length) (h2 : j < Y.length), j < i → (X[j]).ab = (Y[j]).ab, fun n _ => (t.len - n).toNat, ⟨0, rfl, Nat.zero_le _, .refl _ _, fun j _ _ h => by omega⟩, ?_⟩
 rintro _ w4 ⟨i, rfl, hi, hx4, hno⟩
 refine ⟨fun h => ?_, fun h => ?_⟩
 · have hlt : (i : Int) < ((t.len : Nat) : Int) := of_decide_eq_true h
   have hlt : i < X.length := by omega
   have hlt' : i < Y.length := by omega
   have hd : Ext w4 w4.drew := Chg.drew (.refl _ _)
   have hx5 := Ext.trans hx4 hd
   obtain ⟨A, hA, hbd, hrd⟩ := (hX.ext hx5).get hlt
   obtain ⟨A', hA', hbd', hrd'⟩ := (hY.ext hx5).get hlt'
   have hms : (((t.len : Nat) : Int) - ((i : Int) + 1)).toNat < (((t.len : Nat) : Int) - (i : Int)).toNat := by omega
   refine nx ⟨A, hA, hbd, id, _, hrd, A', hA', hbd', id, _, hrd', (ref20_Same _ _ _ _ ((hX.ext hx5).bk _ (List.getElem_mem hlt)) ((hY.ext hx5).bk _ (List.getElem_mem hlt')) (by have := hX.few _ (List.getElem_mem hlt); omega)).use ?_⟩
   rintro _ w10 ⟨rfl, hx10⟩
   have hX10 := Ext.trans hx5 hx10
   have e : (decide ((X[i]).s = (Y[i]).s) && decide ((X[i]).bs = (Y[i]).bs)) = decide ((X[i]).ab = (Y[i]).ab) := by
     rw [Bool.eq_iff_iff]; simp [SM.ab]
   refine ⟨_, rfl, fun hne => ⟨?_, hX10⟩, fun heq2 => ?_⟩
   · rw [e] at hne
     simp only [Bool.not_eq_true', decide_eq_false_iff_not] at hne
     congr 1; symm
     refine decide_eq_false fun e2 => hne ?_
     have h1 : (X.map SM.ab)[i]? = (Y.map SM.ab)[i]? := by rw [e2]
     rw [List.getElem?_map, List.getElem?_map, List.getElem?_eq_getElem hlt, List.getElem?_eq_getElem hlt'] at h1
     simpa using h1
   · rw [e] at heq2
     simp only [Bool.not_eq_false', decide_eq_true_eq] at heq2
     rw [wrapi (n := (i : Int) + 1) (by omega) (by omega)]
     refine ⟨⟨i + 1, by omega, hlt, hX10, fun j h1 h2 hj => ?_⟩, hms⟩
     rcases Nat.lt_or_ge j i with h3 | h3
     · exact hno j h1 h2 h3
     · have : j = i := by omega
       subst this; exact heq2
 · have hge : ¬ (i : Int) < ((t.len : Nat) : Int) := of_decide_eq_false h
   refine ⟨?_, hx4⟩
   congr 1; symm
   refine decide_eq_true (List.ext_getElem (by simpa using hll) fun j h1 h2 => ?_)
   rw [List.getElem_map, List.getElem_map]
   exact hno j (by simpa using h1) (by simpa using h2) (by simp at h1; omega)
def bkL : Bk := { Bk.zero with id := 1, port := 8080 }
def svL : Sv := { Sv.zero with id := 7, port := 80, proto := 6, lasts := 1 }
theorem mkBkL (w : World) : Sem.run Tryz.prog (Instr.build Ty.api_Backend #[(0, .int .i64 1), (2, .int .u16 8080)]) w = .ok (.agg bkL.c.toArray) w := by kernel_rfl
theorem mkSvL (w : World) (k : Sl) : Sem.run Tryz.prog (Instr.build Ty.api_Service #[(0, .int .i64 7), (2, .int .u16 80), (3, .int .u8 6), (5, .int .u64 1), (6, .slice k.a k.len k.cap)]) w = .ok (.agg (svL.c k).toArray) w := by kernel_rfl
theorem lives_e : diffE [] [(svL, [bkL])] = 0 := by decide +kernel
theorem lives_n : (diffL [] [(svL, [bkL])]).length = 2 := by decide +kernel
theorem lives_a : applyL [] (diffL [] [(svL, [bkL])]) 0 = (2, 0, [(svL, [bkL])]) := by decide +kernel
theorem conf_Steps {u : Sl} {Y : List SM} (hY : SvL w u Y) : Ret Tryz.prog F.conf_Steps #[.slice u.a u.len u.cap] w
   (fun v w' => ∃ (s : Sl) (O : List OpM), v = .tuple #[.slice s.a s.len s.cap, .int .i64 (diffE [] (Y.map SM.ab))] ∧ O = (if diffE [] (Y.map SM.ab) = 0 then diffL [] (Y.map SM.ab) else []) ∧ OwnS 51 Ty.api_Op w' s (opsC O) ∧ Ext w w' ∧ ∀ q, ownB s q → w.heap.size ≤ q) := by
 refine W.conf_Steps_ok u w _ ?_
 (delta W.conf_Steps c12; dsimp only)
 have h0 : SvL w nilS [] := ⟨(OwnS.none 23 Ty.api_Service w).src, by simp, by simp, by simp⟩
 refine (conf_diff h0 hY).use ?_
 rintro _ w1 ⟨s, O, rfl, h1⟩
 exact ⟨s, _, rfl, s, O, rfl, h1⟩
theorem conf_Diff {t u : Sl} {X Y : List SM} (hX : SvL w t X) (hY : SvL w u Y) : Ret Tryz.prog F.conf_Diff #[.slice t.a t.len t.cap, .slice u.a u.len u.cap] w
   (fun v w' => ∃ (s : Sl) (O : List OpM), v = .tuple #[.slice s.a s.len s.cap, .int .i64 (diffE (X.map SM.ab) (Y.map SM.ab))] ∧ O = (if diffE (X.map SM.ab) (Y.map SM.ab) = 0 then diffL (X.map SM.ab) (Y.map SM.ab) else []) ∧ OwnS 51 Ty.api_Op w' s (opsC O) ∧ Ext w w' ∧ ∀ q, ownB s q → w.heap.size ≤ q) := by
 refine W.conf_Diff_ok t u w _ ?_
 (delta W.conf_Diff c12; dsimp only)
 refine (conf_diff hX hY).use ?_
 rintro _ w1 ⟨s, O, rfl, h1⟩
 exact ⟨s, _, rfl, s, O, rfl, h1⟩
theorem law39_lives (w : World) : Ret Tryz.prog F.law39_lives #[] w (fun v w' => v = .bool true ∧ Ext w w') := by
 refine W.law39_lives_ok w _ ?_
 (delta W.law39_lives c11 c4 c7 c12 c22 Br c5; dsimp only)
 refine (farm_New w).use ?_
 rintro _ w1 ⟨fm, rfl, h1, hx1, hf1⟩
 have hb1 := buildBk bkL w1
 have ob : OwnS 21 Ty.api_Backend (w1.alloc (.cells bkL.c.toArray Ty.api_Backend)) ⟨some ⟨w1.heap.size, 0, none⟩, 1, 1⟩ (bksC [bkL]) := by
   rw [bksC_one]; exact OwnS.new w1 _ 1 (by rw [Bk.c_length]) (by decide)
 obtain ⟨w6, hw6⟩ : ∃ w6, w6 = w1.alloc (.cells bkL.c.toArray Ty.api_Backend) := ⟨_, rfl⟩
 rw [← hw6] at hb1 ob
 have hx6 : Ext w1 w6 := by rw [hw6]; exact Chg.alloc (.refl _ _) _
 have hb2 := buildSv svL ⟨some ⟨w1.heap.size, 0, none⟩, 1, 1⟩ w6
 obtain ⟨w9, hw9⟩ : ∃ w9, w9 = w6.alloc (.cells (svL.c ⟨some ⟨w1.heap.size, 0, none⟩, 1, 1⟩).toArray Ty.api_Service) := ⟨_, rfl⟩
 have hx9 : Ext w6 w9 := by rw [hw9]; exact Chg.alloc (.refl _ _) _
 have hY : SvL w9 ⟨some ⟨w6.heap.size, 0, none⟩, 1, 1⟩ [⟨svL, ⟨some ⟨w1.heap.size, 0, none⟩, 1, 1⟩, [bkL]⟩] := by
   refine ⟨?_, fun x hx => ?_, fun x hx => ?_, by simp⟩
   · rw [smC_one, hw9]; exact Src.new _ _ 1 (by rw [Sv.c_length])
   · rw [List.mem_singleton.1 hx]; exact (ob.ext hx9).src
   · rw [List.mem_singleton.1 hx]; simp
 rw [← hw9] at hb2
 have hX9 : Ext w1 w9 := Ext.trans hx6 hx9
 refine ⟨_, rfl, _, mkBkL w1, ⟨some ⟨w1.heap.size, 0, none⟩, 1, 1⟩, w6, hb1, _, mkSvL w6 _, ⟨some ⟨w6.heap.size, 0, none⟩, 1, 1⟩, w9, hb2, (conf_Steps hY).use ?_⟩
 rintro _ w10 ⟨s12, O, rfl, hO, ho, hx10, hf10⟩
 have eY : List.map SM.ab [⟨svL, ⟨some ⟨w1.heap.size, 0, none⟩, 1, 1⟩, [bkL]⟩] = [(svL, [bkL])] := rfl
 rw [eY] at hO
 rw [eY, lives_e]
 rw [lives_e, if_pos rfl] at hO
 have hol : s12.len = 2 := by
   have := ho.1
   rw [opsC_length, hO, lives_n] at this; omega
 have h10 := h1.ext (Ext.trans hX9 hx10)
 have hdis : ∀ q, ownB s12 q → ¬ foot fm [] q := fun q hq hfq => by
   have := h1.lt hfq
   have := hf10 q hq
   have := hX9.size
   omega
 refine ⟨s12, _, rfl, (conf_Apply h10 (t := s12) (O := O) (fun w' hc => (ho.chg hc hdis).src) (by rw [hO, lives_n]; decide)).use ?_⟩
 have eA : applyL (absR []) O 0 = (2, 0, [(svL, [bkL])]) := by rw [hO]; exact lives_a
 rw [eA]
 rintro _ w14 ⟨rfl, R', h14, hab, hc14, hf14⟩
 have hX10 : Ext w w10 := Ext.trans hx1 (Ext.trans hX9 hx10)
 have hX14 : Ext w w14 := Ext.of_new hX10 hc14 hf1
 refine ⟨_, _, rfl, Jn1 (fun b w' => b = true ∧ Ext w w') (fun q hq => ⟨fun _ => (conf_Of h14 fun r hr => ?_).use ?_, fun hb => ?_⟩) (fun b w' h => ⟨by rw [h.1], h.2⟩)⟩
 · have : (r.s, r.bs) ∈ absR R' := List.mem_map.2 ⟨r, hr, rfl⟩
   rw [hab, List.mem_singleton] at this
   have h2 : r.s = svL := congrArg Prod.fst this
   rw [h2]; rfl
 · rintro _ w19 ⟨s21, X, rfl, hXa, hoX, hx19, _⟩
   refine ⟨s21, rfl, hq _ _ ⟨?_, Ext.trans hX14 hx19⟩⟩
   have h1 : X.length = 1 := by
     have := congrArg List.length hXa
     rw [hab, List.length_map] at this
     exact this
   have h2 : s21.len = 1 := by have := hoX.o.1; rw [smC_length] at this; omega
   rw [h2]; rfl
 · rw [hol] at hb
   exact absurd hb (by decide)
end Go.Proofs.YtgljoledlhmhnaaGreatDoor
namespace Go.Proofs.YtgljoledlhmhnaaGreatDoor
open Go Gx
variable {w w' : World}
theorem ref29_num (n : Nat) (hn : n ≤ 18446744073709551615) (w : World) : Ret Tryz.prog F.ref29_num #[.int .u64 n] w (fun v w' => v = .string (S (numB 10 n)) ∧ w = w') := by
 induction n using Nat.strongRecOn generalizing w with
 | ind n ih =>
   refine W.ref29_num_ok n w _ ?_
   (delta W.ref29_num Br c4 mI; dsimp only)
   refine ⟨fun h => ?_, fun h => ⟨by decide, ?_⟩⟩
   · have h : n < 10 := by have := of_decide_eq_true h; omega
     have k1 : ∀ i : Nat, i < 10 → (ByteArray.extract (ByteArray.mk #[48, 49, 50, 51, 52, 53, 54, 55, 56, 57]) i (i + 1)).data = (S [dig i]).data := by decide +kernel
     rw [wr64 (n := (n : Int) + 1) (by omega) (by omega)]
     refine ⟨⟨by omega, by show (n : Int) + 1 ≤ ((10 : Nat) : Int); omega⟩, ⟨by omega, by omega⟩, ?_, rfl⟩
     rw [numB_lt h, ← ByteArray.ext (k1 n h)]
     rfl
   · have h : 10 ≤ n := by have := of_decide_eq_false h; omega
     have e1 : IntKind.wrap .u64 (Int.tdiv (n : Int) 10) = ((n / 10 : Nat) : Int) := by rw [tdiv_nn (by omega), wr64 (by omega) (by omega)]; rfl
     have e2 : Int.tmod (n : Int) 10 = ((n % 10 : Nat) : Int) := by rw [tmod_nn (by omega)]; rfl
     rw [e1, e2]
     refine (ih (n / 10) (by omega) (by omega) w).use ?_
     rintro _ _ ⟨rfl, rfl⟩
     refine ⟨_, rfl, by decide, (ih (n % 10) (by omega) (by omega) w).use ?_⟩
     rintro _ _ ⟨rfl, rfl⟩
     have l1 := numB_len 10 19 (by omega) (n / 10) (by omega)
     have l2 := numB_len 10 19 (by omega) (n % 10) (by omega)
     refine ⟨_, rfl, by rw [S_size, S_size]; omega, ?_, rfl⟩
     rw [S_append, numB_ge (b := 10) (n := n) (by omega) (by omega), numB_lt (b := 10) (n := n % 10) (by omega)]
theorem ref29_int0 (n : Int) (hn : I64 n) (w : World) : Ret Tryz.prog F.ref29_int0 #[.int .i64 n] w (fun v w' => v = .string (S (numI n)) ∧ w = w') := by
 unfold I64 at hn
 refine W.ref29_int0_ok n w _ ?_
 (delta W.ref29_int0 Br c4 wI mI; dsimp only)
 refine ⟨fun h => ?_, fun h => ?_⟩
 · have h := of_decide_eq_true h
   have e : IntKind.wrap .u64 ((IntKind.wrap .u64 (IntKind.wrap .i64 (0 - (IntKind.wrap .i64 (n + 1))))) + 1) = ((n.natAbs : Nat) : Int) := by
     rw [wrapi (n := n + 1) (by omega) (by omega), wrapi (n := 0 - (n + 1)) (by omega) (by omega), wr64 (n := 0 - (n + 1)) (by omega) (by omega), wr64 (by omega) (by omega)]; omega
   rw [e]
   refine (ref29_num n.natAbs (by omega) w).use ?_
   rintro _ _ ⟨rfl, rfl⟩
   have l1 := numB_len 10 19 (by omega) n.natAbs (by omega)
   refine ⟨_, rfl, by rw [S_size]; show ((1 + _ : Nat) : Int) ≤ _; omega, ?_, rfl⟩
   have e2 : ByteArray.mk #[45] = S [45] := rfl
   rw [e2, S_append]
   unfold numI
   rw [if_pos h]; rfl
 · have h := of_decide_eq_false h
   have e : IntKind.wrap .u64 n = ((n.natAbs : Nat) : Int) := by rw [wr64 (by omega) (by omega)]; omega
   rw [e]
   refine (ref29_num n.natAbs (by omega) w).use ?_
   rintro _ _ ⟨rfl, rfl⟩
   refine ⟨_, rfl, ?_, rfl⟩
   unfold numI
   rw [if_neg h]
def hexB (l : List UInt8) : List UInt8 := if l = [] then [45] else l.flatMap fun c => [dig (c.toNat / 16), dig (c.toNat % 16)]
theorem hexB_len (l : List UInt8) : (l.flatMap fun c => [dig (c.toNat / 16), dig (c.toNat % 16)]).length = 2 * l.length := by
 induction l with
 | nil => rfl
 | cons c l ih => rw [List.flatMap_cons, List.length_append, ih, List.length_cons]; simp; omega
theorem ref29_hex {b : Sl} {l : List UInt8} (hb : Src 1 w b (u8s l)) (hl : l.length ≤ 1000000000) : Ret Tryz.prog F.ref29_hex #[.slice b.a b.len b.cap] w (fun v w' => v = .string (S (hexB l)) ∧ Ext w w') := by
 refine W.ref29_hex_ok b w _ ?_
 (delta W.ref29_hex Br bd r4 mI wI; dsimp only)
 have hlen : b.len = l.length := by have := hb.len; rw [u8s_length] at this; omega
 have k1 : ∀ i : Nat, i < 16 → (ByteArray.extract (ByteArray.mk #[48, 49, 50, 51, 52, 53, 54, 55, 56, 57, 97, 98, 99, 100, 101, 102]) i (i + 1)).data = (S [dig i]).data := by decide +kernel
 refine ⟨fun h => ⟨?_, .refl _ _⟩, fun h => ?_⟩
 · have h := eq_of_beq h
   have : l = [] := List.length_eq_zero_iff.1 (by omega)
   subst this; rfl
 have hne : l ≠ [] := fun e => by subst e; rw [hlen] at h; simp at h
 refine ⟨fun s n w' => ∃ i : Nat, n = i ∧ i ≤ l.length ∧ s = S ((l.take i).flatMap fun c => [dig (c.toNat / 16), dig (c.toNat % 16)]) ∧ Ext w w', fun _ n _ => (l.length - n).toNat, ⟨0, rfl, Nat.zero_le _, by rw [List.take_zero]; rfl, .refl _ _⟩, ?_⟩
 rintro _ _ w5 ⟨i, rfl, hi, rfl, hx5⟩
 refine ⟨fun hlt => nx ?_, fun hge => ?_⟩
 · have hlt : i < l.length := by have := of_decide_eq_true hlt; omega
   have hx6 : Ext w w5.drew := Ext.trans hx5 (Chg.drew (.refl _ _))
   obtain ⟨A, hA, hbd, hc⟩ := (hb.ext hx6).at (u8s_get hlt)
   obtain ⟨c, hcd⟩ : ∃ c : Nat, c = (l[i]).toNat := ⟨_, rfl⟩
   have hc256 : c < 256 := by rw [hcd]; exact (l[i]).toNat_lt
   rw [← hcd] at hc
   have e1 : IntKind.wrap .u8 (Int.tdiv (c : Int) 16) = ((c / 16 : Nat) : Int) := by rw [tdiv_nn (by omega), wr8 (by omega) (by omega)]; rfl
   have e2 : IntKind.wrap .u8 (((c / 16 : Nat) : Int) + 1) = ((c / 16 + 1 : Nat) : Int) := by rw [wr8 (by omega) (by omega)]; rfl
   have e3 : Int.tmod (c : Int) 16 = ((c % 16 : Nat) : Int) := by rw [tmod_nn (by omega)]; rfl
   have e4 : IntKind.wrap .u8 (((c % 16 : Nat) : Int) + 1) = ((c % 16 + 1 : Nat) : Int) := by rw [wr8 (by omega) (by omega)]; rfl
   have x1 : ByteArray.extract (ByteArray.mk #[48, 49, 50, 51, 52, 53, 54, 55, 56, 57, 97, 98, 99, 100, 101, 102]) (c / 16) (c / 16 + 1) = S [dig (c / 16)] := ByteArray.ext (k1 _ (by omega))
   have x2 : ByteArray.extract (ByteArray.mk #[48, 49, 50, 51, 52, 53, 54, 55, 56, 57, 97, 98, 99, 100, 101, 102]) (c % 16) (c % 16 + 1) = S [dig (c % 16)] := ByteArray.ext (k1 _ (by omega))
   have hln := hexB_len (l.take i)
   rw [List.length_take, Nat.min_eq_left hi] at hln
   refine ⟨A, hA, hbd, id, _, hc, by decide, A, hA, hbd, id, _, hc, by decide, ?_⟩
   rw [e1, e2]
   simp only [Int.toNat_natCast]
   rw [x1]
   refine ⟨⟨by omega, by show ((c / 16 + 1 : Nat) : Int) ≤ ((16 : Nat) : Int); omega⟩, ⟨by omega, by omega⟩, by rw [S_size, S_size]; simp only [List.length_cons, List.length_nil]; omega, A, hA, hbd, id, _, hc, by decide, A, hA, hbd, id, _, hc, by decide, ?_⟩
   rw [e3, e4]
   simp only [Int.toNat_natCast]
   rw [x2, S_append, S_append]
   have ew : IntKind.wrap .i64 ((i : Int) + 1) = ((i + 1 : Nat) : Int) := by rw [wrapi (by omega) (by omega)]; rfl
   rw [ew]
   refine ⟨⟨by omega, by show ((c % 16 + 1 : Nat) : Int) ≤ ((16 : Nat) : Int); omega⟩, ⟨by omega, by omega⟩, by rw [S_size, S_size]; simp only [List.length_append, List.length_cons, List.length_nil]; omega, ⟨i + 1, rfl, hlt, ?_, hx6⟩, by omega⟩
   rw [List.take_succ_eq_append_getElem hlt, List.flatMap_append, List.flatMap_cons, List.flatMap_nil, List.append_nil, ← hcd, List.append_assoc]; rfl
 · have hge : i = l.length := by have := of_decide_eq_false hge; omega
   subst hge
   rw [List.take_length]
   refine ⟨?_, hx5⟩
   unfold hexB
   rw [if_neg hne]
end Go.Proofs.YtgljoledlhmhnaaGreatDoor
namespace Go.Proofs.YtgljoledlhmhnaaGreatDoor
open Go Gx
variable {w w' : World}
structure Stp where
 kind : Int
 data : List UInt8
 id : Int
 bid : Int
 n : Int
 on : Bool
 s : Sv
 nb : Nat
 to : Bk
 li : List Int
 deriving DecidableEq
theorem addBlkS (A : Addr) (n : Nat) : (A.add n).block = A.block := by unfold Addr.add; split <;> rfl
structure OpIs (w : World) (o : OpM) (a : Stp) : Prop where
 kind : o.kind = a.kind
 data : Src 1 w o.data (u8s a.data)
 id : o.id = a.id
 bid : o.bid = a.bid
 n : o.n = a.n
 on : o.on = a.on
 s : o.s = a.s
 nb : o.k.len = a.nb
 to : o.to = a.to
 li : Src 1 w o.l (a.li.map encI)
theorem OpIs.ext {o : OpM} {a : Stp} (h : OpIs w o a) (hx : Ext w w') : OpIs w' o a := ⟨h.kind, h.data.ext hx, h.id, h.bid, h.n, h.on, h.s, h.nb, h.to, h.li.ext hx⟩
theorem OpIs.llen {o : OpM} {a : Stp} (h : OpIs w o a) : o.l.len = a.li.length := by have := h.li.len; rw [List.length_map] at this; omega
theorem ocell2 {b : Nat} {T : TypeId} {o : OpM} (h : Var w b o.c T) : w.cell? (Addr.add ⟨b, 0, none⟩ 1) = some (.slice o.data.a o.data.len o.data.cap) ∧ w.cell? (Addr.add ⟨b, 0, none⟩ 5) = some (.bool o.on) ∧ w.cell? (Addr.add ⟨b, 0, none⟩ 50) = some (.slice o.l.a o.l.len o.l.cap) := by
 simp only [add_mk, h.cell]
 refine ⟨rfl, rfl, ?_⟩
 simp [OpM.c, Sv.c, Bk.c, List.getElem?_append, Ad.c_length]
theorem conv_u8s {s : Sl} {l : List UInt8} (h : Src 1 w s (u8s l)) : Sem.run Tryz.prog (convert Ty.Sl_uint8 Ty.string (.slice s.a s.len s.cap)) w = .ok (.string (S l)) w := by
 have := conv_byteS (src := Ty.Sl_uint8) (dst := Ty.string) (w := w) (s := s) (ns := l.map fun c => ((c.toNat : Nat) : Int)) (by kernel_rfl) (by kernel_rfl) (by rw [List.map_map]; exact h)
 have e : (l.map fun c => ((c.toNat : Nat) : Int)).map (fun n => UInt8.ofNat n.toNat) = l := by
   rw [List.map_map]
   conv => rhs; rw [← List.map_id l]
   refine List.map_congr_left fun c _ => ?_
   show UInt8.ofNat (((c.toNat : Nat) : Int)).toNat = c
   rw [Int.toNat_natCast]
   exact UInt8.ofNat_toNat
 rw [this, e]
theorem stp_eq (a b : Stp) : (a = b) ↔ a.s = b.s ∧ a.nb = b.nb ∧ a.kind = b.kind ∧ a.data = b.data ∧ a.id = b.id ∧ a.bid = b.bid ∧ a.n = b.n ∧ a.on = b.on ∧ a.to = b.to ∧ a.li = b.li := by
 constructor
 · rintro rfl; simp
 · obtain ⟨⟩ := a; obtain ⟨⟩ := b; simp; intros; simp_all
theorem ref29_Same {o p : OpM} {a b : Stp} (ha : OpIs w o a) (hb : OpIs w p b) (hn : a.li.length ≤ 1000000000) : Ret Tryz.prog F.ref29_Same #[.agg o.c.toArray, .agg p.c.toArray] w (fun v w' => v = .bool (decide (a = b)) ∧ Ext w w') := by
 refine W.ref29_Same_ok _ _ w _ ?_
 (delta W.ref29_Same nA z1 r3 T15 Br r7 r4 r5 r1 T8 r8 T5 bd wI; dsimp only)
 refine nxVar (vs := o.c) rfl fun w1 ho hx1 hs1 => nxVar (vs := p.c) rfl fun w2 hp hx2 hs2 => nx ?_
 have hd : Ext w2 w2.drew := Chg.drew (.refl _ _)
 have ho3 := ho.ext (Ext.trans hx2 hd)
 have hp3 := hp.ext hd
 have hX3 : Ext w w2.drew := Ext.trans hx1 (Ext.trans hx2 hd)
 obtain ⟨w3, hw3⟩ : ∃ w3, w3 = w2.drew := ⟨_, rfl⟩
 rw [← hw3] at ho3 hp3 hX3 ⊢
 have n1 : ¬ w3.heap.size ≤ (Addr.add ⟨w.heap.size, 0, none⟩ 6).block := fun h => by rw [addBlkS] at h; exact Nat.not_lt.2 h ho3.lt
 have n2 : ¬ w3.heap.size ≤ (Addr.add ⟨w1.heap.size, 0, none⟩ 6).block := fun h => by rw [addBlkS] at h; exact Nat.not_lt.2 h hp3.lt
 refine ⟨fun q => w3.heap.size ≤ q, n1, _, ords ho3, n2, _, ords hp3, ?_, ?_⟩
 all_goals
   first
   | (refine nxVar (vs := Sv.zero.c nilS) (by kernel_rfl) fun w7 hz1 hx7 hs7 => ⟨Chg.of_ext hx7, nxVar (vs := Sv.zero.c nilS) (by kernel_rfl) fun w8 hz2 hx8 hs8 => ⟨Chg.of_ext hx8, (hz1.ext hx8).storeOk (us := (o.s.c o.k).toArray.toList) (by simp [Sv.c_length]) (by simpa using Sv.plain _ _), by simp [Sv.c_length],
       nxPut (hz1.ext hx8) (us := o.s.c o.k) (by simp [Sv.c_length]) (by simp) fun w9 hA9 hc9 hs9 => ⟨hc9.mono fun q _ e => by subst e; exact Nat.le_refl _, (hz2.chg hc9 (by have := hz1.lt; omega)).storeOk (by simp [Sv.c_length]) (by simpa using Sv.plain _ _), by simp [Sv.c_length],
       nxPut (hz2.chg hc9 (by have := hz1.lt; omega)) (us := p.s.c p.k) (by simp [Sv.c_length]) (by simp) fun w10 hB10 hc10 hs10 => ?_⟩⟩⟩
      have hx10 : Ext w3 w10 := Ext.of_chg (Ext.of_chg (Ext.trans hx7 hx8) hc9 (Nat.le_refl _)) hc10 (by omega)
      have hA10 := hA9.chg hc10 (by have := hz1.lt; omega)
      obtain ⟨bA, hbA⟩ : ∃ bA, bA = w3.heap.size := ⟨_, rfl⟩
      obtain ⟨bB, hbB⟩ : ∃ bB, bB = w7.heap.size := ⟨_, rfl⟩
      rw [← hbA] at hA10
      rw [← hbB] at hB10
      rw [← hbA, ← hbB])
   | (refine nxVar (vs := Sv.zero.c nilS) (by kernel_rfl) fun w7 hz1 hx7 hs7 => ⟨Chg.of_ext hx7, nxVar (vs := Sv.zero.c nilS) (by kernel_rfl) fun w8 hz2 hx8 hs8 => ⟨Chg.of_ext hx8, hz2.storeOk (us := (o.s.c o.k).toArray.toList) (by simp [Sv.c_length]) (by simpa using Sv.plain _ _), by simp [Sv.c_length],
       nxPut hz2 (us := o.s.c o.k) (by simp [Sv.c_length]) (by simp) fun w9 hA9 hc9 hs9 => ⟨hc9.mono fun q _ e => by subst e; exact hx7.size, ((hz1.ext hx8).chg hc9 (by have := hz1.lt; omega)).storeOk (by simp [Sv.c_length]) (by simpa using Sv.plain _ _), by simp [Sv.c_length],
       nxPut ((hz1.ext hx8).chg hc9 (by have := hz1.lt; omega)) (us := p.s.c p.k) (by simp [Sv.c_length]) (by simp) fun w10 hB10 hc10 hs10 => ?_⟩⟩⟩
      have hx10 : Ext w3 w10 := Ext.of_chg (Ext.of_chg (Ext.trans hx7 hx8) hc9 hx7.size) hc10 (Nat.le_refl _)
      have hA10 := hA9.chg hc10 (by have := hz1.lt; omega)
      obtain ⟨bB, hbB⟩ : ∃ bB, bB = w3.heap.size := ⟨_, rfl⟩
      obtain ⟨bA, hbA⟩ : ∃ bA, bA = w7.heap.size := ⟨_, rfl⟩
      rw [← hbA] at hA10
      rw [← hbB] at hB10
      rw [← hbA, ← hbB])
   have ho10 := ho3.ext hx10
   have hp10 := hp3.ext hx10
   refine ⟨_, (scell hA10).1, _, (scell hB10).1, jnOr (!decide (o.s.addr = p.s.addr)) (fun _ q hq => ⟨_, srd hA10, _, srd hB10, _, eqAd _ _, hq _ (.refl _ _)⟩) fun w18 hx18 => ?_⟩
   have hA18 := hA10.ext hx18; have hB18 := hB10.ext hx18
   refine jnOr (o.s.port != p.s.port) (fun _ q hq => ⟨_, (scell hA18).2.2.1, _, (scell hB18).2.2.1, hq _ (.refl _ _)⟩) fun w23 hx23 => ?_
   have hA23 := hA18.ext hx23; have hB23 := hB18.ext hx23
   refine jnOr (o.s.proto != p.s.proto) (fun _ q hq => ⟨_, (scell hA23).2.2.2.1, _, (scell hB23).2.2.2.1, hq _ (.refl _ _)⟩) fun w28 hx28 => ?_
   have hA28 := hA23.ext hx28; have hB28 := hB23.ext hx28
   refine jnOr (o.s.bits != p.s.bits) (fun _ q hq => ⟨_, (scell hA28).2.2.2.2.1, _, (scell hB28).2.2.2.2.1, hq _ (.refl _ _)⟩) fun w33 hx33 => ?_
   have hA33 := hA28.ext hx33; have hB33 := hB28.ext hx33
   refine jnOr (o.s.lasts != p.s.lasts) (fun _ q hq => ⟨_, (scell hA33).2.2.2.2.2.1, _, (scell hB33).2.2.2.2.2.1, hq _ (.refl _ _)⟩) fun w38 hx38 => ?_
   have hA38 := hA33.ext hx38; have hB38 := hB33.ext hx38
   refine jnOr (((o.k.len : Nat) : Int) != ((p.k.len : Nat) : Int)) (fun _ q hq => ⟨o.k, (scell hA38).2.2.2.2.2.2, p.k, (scell hB38).2.2.2.2.2.2, hq _ (.refl _ _)⟩) fun w43 hx43 => ?_
   rw [Sv.neq_chain]
   have hx1043 : Ext w10 w43 := Ext.trans hx18 (Ext.trans hx23 (Ext.trans hx28 (Ext.trans hx33 (Ext.trans hx38 hx43))))
   have hX43 : Ext w w43 := Ext.trans hX3 (Ext.trans hx10 hx1043)
   have ho43 := ho10.ext hx1043
   have hp43 := hp10.ext hx1043
   refine ⟨fun hb => ⟨?_, hX43⟩, fun hb1 => ?_⟩
   · have : a ≠ b := fun e => by
       subst e
       rw [ha.s, hb.s, ha.nb, hb.nb] at *
       simp at *
     rw [decide_eq_false this]
   have hb1 : o.s = p.s ∧ a.nb = b.nb := by
     rw [Bool.or_eq_false_iff] at hb1
     refine ⟨by simpa using hb1.1, ?_⟩
     have := hb1.2
     rw [ha.nb, hb.nb] at this
     have h2 : ((a.nb : Nat) : Int) = ((b.nb : Nat) : Int) := by simpa using this
     omega
   have hda := ha.data.ext hX43
   have hdb := hb.data.ext hX43
   refine ⟨_, (ocell ho43).1, _, (ocell hp43).1, jnOr (!(ByteArray.toList (S a.data) == ByteArray.toList (S b.data))) (fun _ q hq => ⟨o.data, (ocell2 ho43).1, _, _, conv_u8s hda, p.data, (ocell2 hp43).1, _, _, conv_u8s hdb, hq _ (.refl _ _)⟩) fun w54 hx54 => ?_⟩
   have ho54 := ho43.ext hx54; have hp54 := hp43.ext hx54
   refine jnOr (o.id != p.id) (fun _ q hq => ⟨_, (ocell ho54).2.1, _, (ocell hp54).2.1, hq _ (.refl _ _)⟩) fun w59 hx59 => ?_
   have ho59 := ho54.ext hx59; have hp59 := hp54.ext hx59
   refine jnOr (o.bid != p.bid) (fun _ q hq => ⟨_, (ocell ho59).2.2.1, _, (ocell hp59).2.2.1, hq _ (.refl _ _)⟩) fun w64 hx64 => ?_
   have ho64 := ho59.ext hx64; have hp64 := hp59.ext hx64
   refine jnOr (o.n != p.n) (fun _ q hq => ⟨_, (ocell ho64).2.2.2.1, _, (ocell hp64).2.2.2.1, hq _ (.refl _ _)⟩) fun w69 hx69 => ?_
   have ho69 := ho64.ext hx69; have hp69 := hp64.ext hx69
   refine jnOr (!(o.on == p.on)) (fun _ q hq => ⟨_, (ocell2 ho69).2.1, _, (ocell2 hp69).2.1, hq _ (.refl _ _)⟩) fun w74 hx74 => ?_
   have ho74 := ho69.ext hx74; have hp74 := hp69.ext hx74
   refine jnOr (!decide (o.to = p.to)) (fun _ q hq => ⟨_, ordt ho74, _, ordt hp74, _, eqBk _ _, hq _ (.refl _ _)⟩) fun w80 hx80 => ?_
   have ho80 := ho74.ext hx80; have hp80 := hp74.ext hx80
   refine jnOr (((o.l.len : Nat) : Int) != ((p.l.len : Nat) : Int)) (fun _ q hq => ⟨o.l, (ocell2 ho80).2.2, p.l, (ocell2 hp80).2.2, hq _ (.refl _ _)⟩) fun w85 hx85 => ?_
   have hx4385 : Ext w43 w85 := Ext.trans hx54 (Ext.trans hx59 (Ext.trans hx64 (Ext.trans hx69 (Ext.trans hx74 (Ext.trans hx80 hx85)))))
   have hX85 := Ext.trans hX43 hx4385
   have ho85 := ho43.ext hx4385; have hp85 := hp43.ext hx4385
   have la := ha.llen; have lb := hb.llen
   have key : (((((((((o.kind != p.kind) || !(ByteArray.toList (S a.data) == ByteArray.toList (S b.data))) || (o.id != p.id)) || (o.bid != p.bid)) || (o.n != p.n)) || !(o.on == p.on)) || !decide (o.to = p.to)) || (((o.l.len : Nat) : Int) != ((p.l.len : Nat) : Int))) = false) ↔
       (a.kind = b.kind ∧ a.data = b.data ∧ a.id = b.id ∧ a.bid = b.bid ∧ a.n = b.n ∧ a.on = b.on ∧ a.to = b.to ∧ a.li.length = b.li.length) := by
     rw [ha.kind, hb.kind, ha.id, hb.id, ha.bid, hb.bid, ha.n, hb.n, ha.on, hb.on, ha.to, hb.to, la, lb, S_beq]
     have hc : (((a.li.length : Nat) : Int) = ((b.li.length : Nat) : Int)) ↔ a.li.length = b.li.length := by omega
     simp only [Bool.or_eq_false_iff, bne_eq_false_iff_eq, Bool.not_eq_false', beq_iff_eq, decide_eq_true_eq, and_assoc, hc]
   have hs : a.s = b.s := by rw [← ha.s, ← hb.s, hb1.1]
   refine ⟨fun hne => ⟨?_, hX85⟩, fun heq => ?_⟩
   · have : a ≠ b := fun e => by
       have h0 := (key.2 (by subst e; simp))
       rw [hne] at h0; cases h0
     rw [decide_eq_false this]
   have hk := key.1 heq
   refine ⟨fun n w' => ∃ i : Nat, n = i ∧ i ≤ a.li.length ∧ Ext w85 w' ∧ ∀ (j : Nat) (hj : j < i) (h1 : j < a.li.length) (h2 : j < b.li.length), a.li[j] = b.li[j], fun n _ => ((a.li.length : Int) - n).toNat, ⟨0, rfl, Nat.zero_le _, .refl _ _, fun j hj => by omega⟩, ?_⟩
   rintro _ w89 ⟨i, rfl, hi, hx89, hall⟩
   have hX89 := Ext.trans hX85 hx89
   refine ⟨o.l, (ocell2 (ho85.ext hx89)).2.2, fun hlt => nx ?_, fun hge => ⟨?_, hX89⟩⟩
   · have hlt : i < a.li.length := by have := of_decide_eq_true hlt; omega
     have hlt2 : i < b.li.length := by rw [← hk.2.2.2.2.2.2.2]; exact hlt
     have hd91 : Ext w89 w89.drew := Chg.drew (.refl _ _)
     have hx91 := Ext.trans hx89 hd91
     obtain ⟨A, hA, hbd, hc⟩ := (ha.li.ext (Ext.trans hX85 hx91)).at (i := i) (v := .int .i64 a.li[i]) (by rw [List.getElem?_map, List.getElem?_eq_getElem hlt]; rfl)
     obtain ⟨B, hB, hbd2, hc2⟩ := (hb.li.ext (Ext.trans hX85 hx91)).at (i := i) (v := .int .i64 b.li[i]) (by rw [List.getElem?_map, List.getElem?_eq_getElem hlt2]; rfl)
     have ew : IntKind.wrap .i64 ((i : Int) + 1) = ((i + 1 : Nat) : Int) := by rw [wrapi (by omega) (by omega)]; rfl
     refine ⟨id, o.l, (ocell2 (ho85.ext hx91)).2.2, A, hA, hbd, id, _, hc, id, p.l, (ocell2 (hp85.ext hx91)).2.2, B, hB, hbd2, id, _, hc2, fun hne => ⟨?_, Ext.trans hX85 hx91⟩, fun heq2 => ?_⟩
     · have : a ≠ b := fun e => by subst e; simp at hne
       rw [decide_eq_false this]
     · rw [ew]
       have hms : ((a.li.length : Int) - ((i + 1 : Nat) : Int)).toNat < ((a.li.length : Int) - (i : Int)).toNat := by omega
       refine ⟨⟨i + 1, rfl, hlt, hx91, fun j hj h1 h2 => ?_⟩, hms⟩
       rcases Nat.lt_or_ge j i with h3 | h3
       · exact hall j h3 h1 h2
       · have : j = i := by omega
         subst this; simpa using heq2
   · have hi : i = a.li.length := by have := of_decide_eq_false hge; omega
     have hli : a.li = b.li := List.ext_getElem hk.2.2.2.2.2.2.2 fun j h1 h2 => hall j (by omega) h1 h2
     have : a = b := (stp_eq a b).2 ⟨hs, hb1.2, hk.1, hk.2.1, hk.2.2.1, hk.2.2.2.1, hk.2.2.2.2.1, hk.2.2.2.2.2.1, hk.2.2.2.2.2.2.1, hli⟩
     rw [decide_eq_true this]
end Go.Proofs.YtgljoledlhmhnaaGreatDoor
namespace Go.Proofs.YtgljoledlhmhnaaGreatDoor
open Go Gx
variable {w w' : World}
theorem script_same {o p : OpM} {a b : Stp} (ha : OpIs w o a) (hb : OpIs w p b) (hn : a.li.length ≤ 1000000000) : Ret Tryz.prog F.script_same #[.agg o.c.toArray, .agg p.c.toArray] w (fun v w' => v = .bool (decide (a = b)) ∧ Ext w w') := by
 refine W.script_same_ok _ _ w _ ?_
 (delta W.script_same nA z1 r3 T10 Br T28 r7 r4 r5 r1 r8 T8 T5 bd wI; dsimp only)
 refine nxVar (vs := o.c) rfl fun w1 ho hx1 hs1 => nxVar (vs := p.c) rfl fun w2 hp hx2 hs2 => nx ?_
 have hd : Ext w2 w2.drew := Chg.drew (.refl _ _)
 have ho3 := ho.ext (Ext.trans hx2 hd)
 have hp3 := hp.ext hd
 have hX3 : Ext w w2.drew := Ext.trans hx1 (Ext.trans hx2 hd)
 obtain ⟨w3, hw3⟩ : ∃ w3, w3 = w2.drew := ⟨_, rfl⟩
 rw [← hw3] at ho3 hp3 hX3 ⊢
 have n1 : ¬ w3.heap.size ≤ (Addr.add ⟨w.heap.size, 0, none⟩ 6).block := fun h => by rw [addBlkS] at h; exact Nat.not_lt.2 h ho3.lt
 have n2 : ¬ w3.heap.size ≤ (Addr.add ⟨w1.heap.size, 0, none⟩ 6).block := fun h => by rw [addBlkS] at h; exact Nat.not_lt.2 h hp3.lt
 refine ⟨fun q => w3.heap.size ≤ q, n1, _, ords ho3, n2, _, ords hp3, ?_, ?_⟩
 all_goals
   first
   | (refine nxVar (vs := Sv.zero.c nilS) (by kernel_rfl) fun w7 hz1 hx7 hs7 => ⟨Chg.of_ext hx7, nxVar (vs := Sv.zero.c nilS) (by kernel_rfl) fun w8 hz2 hx8 hs8 => ⟨Chg.of_ext hx8, (hz1.ext hx8).storeOk (us := (o.s.c o.k).toArray.toList) (by simp [Sv.c_length]) (by simpa using Sv.plain _ _), by simp [Sv.c_length],
       nxPut (hz1.ext hx8) (us := o.s.c o.k) (by simp [Sv.c_length]) (by simp) fun w9 hA9 hc9 hs9 => ⟨hc9.mono fun q _ e => by subst e; exact Nat.le_refl _, (hz2.chg hc9 (by have := hz1.lt; omega)).storeOk (by simp [Sv.c_length]) (by simpa using Sv.plain _ _), by simp [Sv.c_length],
       nxPut (hz2.chg hc9 (by have := hz1.lt; omega)) (us := p.s.c p.k) (by simp [Sv.c_length]) (by simp) fun w10 hB10 hc10 hs10 => ?_⟩⟩⟩
      have hx10 : Ext w3 w10 := Ext.of_chg (Ext.of_chg (Ext.trans hx7 hx8) hc9 (Nat.le_refl _)) hc10 (by omega)
      have hA10 := hA9.chg hc10 (by have := hz1.lt; omega)
      obtain ⟨bA, hbA⟩ : ∃ bA, bA = w3.heap.size := ⟨_, rfl⟩
      obtain ⟨bB, hbB⟩ : ∃ bB, bB = w7.heap.size := ⟨_, rfl⟩
      rw [← hbA] at hA10
      rw [← hbB] at hB10
      rw [← hbA, ← hbB])
   | (refine nxVar (vs := Sv.zero.c nilS) (by kernel_rfl) fun w7 hz1 hx7 hs7 => ⟨Chg.of_ext hx7, nxVar (vs := Sv.zero.c nilS) (by kernel_rfl) fun w8 hz2 hx8 hs8 => ⟨Chg.of_ext hx8, hz2.storeOk (us := (o.s.c o.k).toArray.toList) (by simp [Sv.c_length]) (by simpa using Sv.plain _ _), by simp [Sv.c_length],
       nxPut hz2 (us := o.s.c o.k) (by simp [Sv.c_length]) (by simp) fun w9 hA9 hc9 hs9 => ⟨hc9.mono fun q _ e => by subst e; exact hx7.size, ((hz1.ext hx8).chg hc9 (by have := hz1.lt; omega)).storeOk (by simp [Sv.c_length]) (by simpa using Sv.plain _ _), by simp [Sv.c_length],
       nxPut ((hz1.ext hx8).chg hc9 (by have := hz1.lt; omega)) (us := p.s.c p.k) (by simp [Sv.c_length]) (by simp) fun w10 hB10 hc10 hs10 => ?_⟩⟩⟩
      have hx10 : Ext w3 w10 := Ext.of_chg (Ext.of_chg (Ext.trans hx7 hx8) hc9 hx7.size) hc10 (Nat.le_refl _)
      have hA10 := hA9.chg hc10 (by have := hz1.lt; omega)
      obtain ⟨bB, hbB⟩ : ∃ bB, bB = w3.heap.size := ⟨_, rfl⟩
      obtain ⟨bA, hbA⟩ : ∃ bA, bA = w7.heap.size := ⟨_, rfl⟩
      rw [← hbA] at hA10
      rw [← hbB] at hB10
      rw [← hbA, ← hbB])
   have ho10 := ho3.ext hx10
   have hp10 := hp3.ext hx10
   refine ⟨_, (scell hA10).1, _, (scell hB10).1, jnAnd (decide (o.s.addr = p.s.addr)) (fun _ q hq => ⟨_, srd hA10, _, srd hB10, _, eqAd _ _, hq _ (.refl _ _)⟩) fun w18 hx18 => ?_⟩
   have hA18 := hA10.ext hx18; have hB18 := hB10.ext hx18
   refine jnAnd (o.s.port == p.s.port) (fun _ q hq => ⟨_, (scell hA18).2.2.1, _, (scell hB18).2.2.1, hq _ (.refl _ _)⟩) fun w23 hx23 => ?_
   have hA23 := hA18.ext hx23; have hB23 := hB18.ext hx23
   refine jnAnd (o.s.proto == p.s.proto) (fun _ q hq => ⟨_, (scell hA23).2.2.2.1, _, (scell hB23).2.2.2.1, hq _ (.refl _ _)⟩) fun w28 hx28 => ?_
   have hA28 := hA23.ext hx28; have hB28 := hB23.ext hx28
   refine jnAnd (o.s.bits == p.s.bits) (fun _ q hq => ⟨_, (scell hA28).2.2.2.2.1, _, (scell hB28).2.2.2.2.1, hq _ (.refl _ _)⟩) fun w33 hx33 => ?_
   have hA33 := hA28.ext hx33; have hB33 := hB28.ext hx33
   refine jnAnd (o.s.lasts == p.s.lasts) (fun _ q hq => ⟨_, (scell hA33).2.2.2.2.2.1, _, (scell hB33).2.2.2.2.2.1, hq _ (.refl _ _)⟩) fun w38 hx38 => ?_
   have hA38 := hA33.ext hx38; have hB38 := hB33.ext hx38
   refine jnAnd (((o.k.len : Nat) : Int) == ((p.k.len : Nat) : Int)) (fun _ q hq => ⟨o.k, (scell hA38).2.2.2.2.2.2, p.k, (scell hB38).2.2.2.2.2.2, hq _ (.refl _ _)⟩) fun w43 hx43 => ?_
   rw [Sv.eq_chain]
   have hx1043 : Ext w10 w43 := Ext.trans hx18 (Ext.trans hx23 (Ext.trans hx28 (Ext.trans hx33 (Ext.trans hx38 hx43))))
   have hX43 : Ext w w43 := Ext.trans hX3 (Ext.trans hx10 hx1043)
   have ho43 := ho10.ext hx1043
   have hp43 := hp10.ext hx1043
   have hda := ha.data.ext hX43
   have hdb := hb.data.ext hX43
   refine jnOr (o.kind != p.kind) (fun _ q hq => ⟨_, (ocell ho43).1, _, (ocell hp43).1, hq _ (.refl _ _)⟩) fun w54 hx54 => ?_
   have ho54 := ho43.ext hx54; have hp54 := hp43.ext hx54
   refine jnOr (o.id != p.id) (fun _ q hq => ⟨_, (ocell ho54).2.1, _, (ocell hp54).2.1, hq _ (.refl _ _)⟩) fun w59 hx59 => ?_
   have ho59 := ho54.ext hx59; have hp59 := hp54.ext hx59
   refine jnOr (o.bid != p.bid) (fun _ q hq => ⟨_, (ocell ho59).2.2.1, _, (ocell hp59).2.2.1, hq _ (.refl _ _)⟩) fun w64 hx64 => ?_
   have ho64 := ho59.ext hx64; have hp64 := hp59.ext hx64
   refine jnOr (o.n != p.n) (fun _ q hq => ⟨_, (ocell ho64).2.2.2.1, _, (ocell hp64).2.2.2.1, hq _ (.refl _ _)⟩) fun w69 hx69 => ?_
   have ho69 := ho64.ext hx69; have hp69 := hp64.ext hx69
   refine jnOr (!(o.on == p.on)) (fun _ q hq => ⟨_, (ocell2 ho69).2.1, _, (ocell2 hp69).2.1, hq _ (.refl _ _)⟩) fun w74 hx74 => ?_
   have ho74 := ho69.ext hx74; have hp74 := hp69.ext hx74
   refine jnOr (!decide (o.to = p.to)) (fun _ q hq => ⟨_, ordt ho74, _, ordt hp74, _, eqBk _ _, hq _ (.refl _ _)⟩) fun w80 hx80 => ?_
   have ho80 := ho74.ext hx80; have hp80 := hp74.ext hx80
   have hx4380 : Ext w43 w80 := Ext.trans hx54 (Ext.trans hx59 (Ext.trans hx64 (Ext.trans hx69 (Ext.trans hx74 hx80))))
   refine jnOr (!(ByteArray.toList (S a.data) == ByteArray.toList (S b.data))) (fun _ q hq => ⟨o.data, (ocell2 ho80).1, _, _, conv_u8s (hda.ext hx4380), p.data, (ocell2 hp80).1, _, _, conv_u8s (hdb.ext hx4380), hq _ (.refl _ _)⟩) fun w81 hx81 => ?_
   have ho81 := ho80.ext hx81; have hp81 := hp80.ext hx81
   refine jnOr (((o.l.len : Nat) : Int) != ((p.l.len : Nat) : Int)) (fun _ q hq => ⟨o.l, (ocell2 ho81).2.2, p.l, (ocell2 hp81).2.2, hq _ (.refl _ _)⟩) fun w85 hx85 => ?_
   have hx4385 : Ext w43 w85 := Ext.trans hx4380 (Ext.trans hx81 hx85)
   have hX85 := Ext.trans hX43 hx4385
   have ho85 := ho43.ext hx4385; have hp85 := hp43.ext hx4385
   have la := ha.llen; have lb := hb.llen
   have key : ((((((((((!(decide (o.s = p.s) && (((o.k.len : Nat) : Int) == ((p.k.len : Nat) : Int)))) || (o.kind != p.kind)) || (o.id != p.id)) || (o.bid != p.bid)) || (o.n != p.n)) || !(o.on == p.on)) || !decide (o.to = p.to)) || !(ByteArray.toList (S a.data) == ByteArray.toList (S b.data))) || (((o.l.len : Nat) : Int) != ((p.l.len : Nat) : Int))) = false) ↔
       ((a.s = b.s ∧ a.nb = b.nb) ∧ a.kind = b.kind ∧ a.id = b.id ∧ a.bid = b.bid ∧ a.n = b.n ∧ a.on = b.on ∧ a.to = b.to ∧ a.data = b.data ∧ a.li.length = b.li.length) := by
     rw [ha.kind, hb.kind, ha.id, hb.id, ha.bid, hb.bid, ha.n, hb.n, ha.on, hb.on, ha.to, hb.to, la, lb, S_beq, ha.s, hb.s, ha.nb, hb.nb]
     have hc : (((a.li.length : Nat) : Int) = ((b.li.length : Nat) : Int)) ↔ a.li.length = b.li.length := by omega
     have hc2 : (((a.nb : Nat) : Int) = ((b.nb : Nat) : Int)) ↔ a.nb = b.nb := by omega
     simp only [Bool.or_eq_false_iff, bne_eq_false_iff_eq, Bool.not_eq_false', Bool.and_eq_true, beq_iff_eq, decide_eq_true_eq, and_assoc, hc, hc2]
   refine ⟨fun hne => ⟨?_, hX85⟩, fun heq => ?_⟩
   · have : a ≠ b := fun e => by
       have h0 := (key.2 (by subst e; simp))
       rw [hne] at h0; cases h0
     rw [decide_eq_false this]
   have hk := key.1 heq
   refine ⟨o.l, (ocell2 ho85).2.2, fun n w' => ∃ i : Nat, n = i ∧ i ≤ a.li.length ∧ Ext w85 w' ∧ ∀ (j : Nat) (hj : j < i) (h1 : j < a.li.length) (h2 : j < b.li.length), a.li[j] = b.li[j], fun n _ => ((a.li.length : Int) - n).toNat, ⟨0, rfl, Nat.zero_le _, .refl _ _, fun j hj => by omega⟩, ?_⟩
   rintro _ w89 ⟨i, rfl, hi, hx89, hall⟩
   have hX89 := Ext.trans hX85 hx89
   refine ⟨fun hlt => nx ?_, fun hge => ⟨?_, hX89⟩⟩
   · have hlt : i < a.li.length := by have := of_decide_eq_true hlt; omega
     have hlt2 : i < b.li.length := by rw [← hk.2.2.2.2.2.2.2.2]; exact hlt
     have hd91 : Ext w89 w89.drew := Chg.drew (.refl _ _)
     have hx91 := Ext.trans hx89 hd91
     obtain ⟨A, hA, hbd, hc⟩ := (ha.li.ext (Ext.trans hX85 hx91)).at (i := i) (v := .int .i64 a.li[i]) (by rw [List.getElem?_map, List.getElem?_eq_getElem hlt]; rfl)
     obtain ⟨B, hB, hbd2, hc2⟩ := (hb.li.ext (Ext.trans hX85 hx91)).at (i := i) (v := .int .i64 b.li[i]) (by rw [List.getElem?_map, List.getElem?_eq_getElem hlt2]; rfl)
     have ew : IntKind.wrap .i64 ((i : Int) + 1) = ((i + 1 : Nat) : Int) := by rw [wrapi (by omega) (by omega)]; rfl
     refine ⟨id, o.l, (ocell2 (ho85.ext hx91)).2.2, A, hA, hbd, id, _, hc, id, p.l, (ocell2 (hp85.ext hx91)).2.2, B, hB, hbd2, id, _, hc2, fun hne => ⟨?_, Ext.trans hX85 hx91⟩, fun heq2 => ?_⟩
     · have : a ≠ b := fun e => by subst e; simp at hne
       rw [decide_eq_false this]
     · rw [ew]
       have hms : ((a.li.length : Int) - ((i + 1 : Nat) : Int)).toNat < ((a.li.length : Int) - (i : Int)).toNat := by omega
       refine ⟨⟨i + 1, rfl, hlt, hx91, fun j hj h1 h2 => ?_⟩, hms⟩
       rcases Nat.lt_or_ge j i with h3 | h3
       · exact hall j h3 h1 h2
       · have : j = i := by omega
         subst this; simpa using heq2
   · have hi : i = a.li.length := by have := of_decide_eq_false hge; omega
     have hli : a.li = b.li := List.ext_getElem hk.2.2.2.2.2.2.2.2 fun j h1 h2 => hall j (by omega) h1 h2
     have : a = b := (stp_eq a b).2 ⟨hk.1.1, hk.1.2, hk.2.1, hk.2.2.2.2.2.2.2.1, hk.2.2.1, hk.2.2.2.1, hk.2.2.2.2.1, hk.2.2.2.2.2.1, hk.2.2.2.2.2.2.1, hli⟩
     rw [decide_eq_true this]
end Go.Proofs.YtgljoledlhmhnaaGreatDoor
namespace Go.Proofs.YtgljoledlhmhnaaGreatDoor
open Go Gx
variable {w w' : World}
theorem appWord : AppT Tryz.prog Ty.Sl_string Ty.string 1 16 := ⟨by kernel_rfl⟩
theorem strs_plain (ls : List (List UInt8)) : ∀ v ∈ strs ls, Plain v := by
 intro v hv
 obtain ⟨x, _, rfl⟩ := List.mem_map.1 hv
 trivial
theorem strs_len (ls : List (List UInt8)) : (strs ls).length = ls.length := by simp [strs]
theorem strs_app (a b : List (List UInt8)) : strs (a ++ b) = strs a ++ strs b := by simp [strs]
structure LnAt (w : World) (d : Nat) (s : Sl) (ws : List (List UInt8)) : Prop where
 v : Var w d [.slice s.a s.len s.cap] Ty.script_line
 o : OwnS 1 Ty.string w s (strs ws)
variable {d : Nat} {s : Sl} {ws us : List (List UInt8)}
def lnB (d : Nat) (s : Sl) (q : Nat) : Prop := q = d ∨ ownB s q
theorem LnAt.chg {W : Nat → Prop} (h : LnAt w d s ws) (hc : Chg W w w') (hn : ∀ q, lnB d s q → ¬ W q) : LnAt w' d s ws := ⟨h.v.chg hc (hn _ (.inl rfl)), h.o.chg hc fun q hq => hn q (.inr hq)⟩
theorem LnAt.ext (h : LnAt w d s ws) (hc : Ext w w') : LnAt w' d s ws := h.chg hc fun _ _ h => h
theorem LnAt.lt (h : LnAt w d s ws) {q : Nat} (hq : lnB d s q) : q < w.heap.size := hq.elim (fun e => by rw [e]; exact h.v.lt) (h.o.lt q)
theorem LnAt.len (h : LnAt w d s ws) : s.len = ws.length := by have := h.o.1; rw [strs_len] at this; omega
def LnStep (d : Nat) (s : Sl) (ws : List (List UInt8)) (w w' : World) : Prop := ∃ s', LnAt w' d s' ws ∧ Chg (lnB d s) w w' ∧ ∀ q, ownB s' q → ownB s q ∨ w.heap.size ≤ q
theorem LnStep.refl (h : LnAt w d s ws) (hx : Ext w w') : LnStep d s ws w w' := ⟨s, h.ext hx, Chg.of_ext hx, fun _ h => .inl h⟩
theorem LnStep.ahead {w0 : World} (hx : Ext w0 w) (h : LnStep d s ws w w') : LnStep d s ws w0 w' := by
 obtain ⟨s', h1, h2, h3⟩ := h
 exact ⟨s', h1, (Chg.of_ext hx).trans h2, fun q hq => (h3 q hq).imp id fun h => Nat.le_trans hx.size h⟩
theorem LnStep.step {w1 w2 : World} {s1 : Sl} (c1 : Chg (lnB d s) w w1) (f1 : ∀ q, ownB s1 q → ownB s q ∨ w.heap.size ≤ q) (h : LnStep d s1 ws w1 w2) : LnStep d s ws w w2 := by
 obtain ⟨s2, h2, c2, f2⟩ := h
 refine ⟨s2, h2, chgThen c1 c2 fun q hq => hq.elim (fun e => .inl (.inl e)) fun hq => (f1 q hq).imp .inr id, fun q hq => (f2 q hq).elim (f1 q) fun h => .inr (Nat.le_trans c1.size h)⟩
theorem line_text {x : Sl} (h : LnAt w d s ws) (hx : Src 1 w x (strs us)) (hn : ws.length + us.length ≤ 10000000) : Ret Tryz.prog F.script_line_text #[.pointer (some ⟨d, 0, none⟩), .slice x.a x.len x.cap] w (fun v w' => v = .tuple #[] ∧ LnStep d s (ws ++ us) w w') := by
 refine W.script_line_text_ok (some ⟨d, 0, none⟩) x w _ ?_
 (delta W.script_line_text r1; dsimp only)
 have hl := h.len
 have hxl : x.len = us.length := by have := hx.len; rw [strs_len] at this; omega
 obtain ⟨s', w4, g1, g2, g3, g4, g5⟩ := appWord.append (oT := Ty.Sl_string) hx h.o (strs_plain _) (by omega)
 have hv4 := h.v.chg g4 fun hq => absurd (h.o.notVar hq h.v) (by decide)
 refine ⟨_, rfl, s, h.v.cell, s', w4, g1, _, rfl, ⟨_, hv4.cell⟩, Blk.frozen hv4 _ rfl, nxSet hv4 fun w6 hv6 hc6 _ => ⟨rfl, s', ⟨hv6, ?_⟩, (g4.mono fun q _ hq => .inr hq).trans (hc6.mono fun q _ e => .inl e), g5⟩⟩
 rw [strs_app]
 exact g2.chg hc6 fun q hq e => by
   subst e
   exact absurd (g2.notVar hq hv4) (by decide)
theorem line_long (n : Nat) (h : LnAt w d s ws) (hn : n ≤ 18446744073709551615) (hw : ws.length ≤ 1000000) (ht : TabPow w) : Ret Tryz.prog F.script_line_long #[.pointer (some ⟨d, 0, none⟩), .int .u64 n] w (fun v w' => v = .tuple #[] ∧ LnStep d s (ws ++ [numB 10 n]) w w') := by
 refine W.script_line_long_ok (some ⟨d, 0, none⟩) n w _ ?_
 (delta W.script_line_long c4 c2 nA; dsimp only)
 refine (FormatUint10 n hn w ht).use ?_
 rintro _ w1 ⟨rfl, hx1⟩
 have hx4 : Ext w1 (w1.alloc (.cells #[.string (S (numB 10 n))] Ty.string)) := Chg.alloc (.refl _ _) _
 have hX := Ext.trans hx1 hx4
 have hs : Src 1 (w1.alloc (.cells #[.string (S (numB 10 n))] Ty.string)) ⟨some ⟨w1.heap.size, 0, none⟩, 1, 1⟩ (strs [numB 10 n]) := Src.new w1 [.string (S (numB 10 n))] 1 rfl
 refine ⟨_, rfl, nx ((line_text (h.ext hX) hs (by simp; omega)).use ?_)⟩
 rintro _ w5 ⟨rfl, hL⟩
 exact ⟨rfl, rfl, hL.ahead hX⟩
theorem line_ints {x : Sl} {l : List Int} (h : LnAt w d s ws) (hx : ∀ w', Chg (lnB d s) w w' → Src 1 w' x (l.map encI)) (hr : ∀ n ∈ l, I64 n) (hw : ws.length + l.length ≤ 1000000) (ht : ∀ w', Chg (lnB d s) w w' → TabPow w') :
   Ret Tryz.prog F.script_line_ints #[.pointer (some ⟨d, 0, none⟩), .slice x.a x.len x.cap] w (fun v w' => v = .tuple #[] ∧ LnStep d s (ws ++ l.map numI) w w') := by
 refine W.script_line_ints_ok (some ⟨d, 0, none⟩) x w _ ?_
 (delta W.script_line_ints Br bd r3 c4 c2 nA wI; dsimp only)
 have hxl : x.len = l.length := by have := (hx w (.refl _ _)).len; rw [List.length_map] at this; omega
 refine ⟨fun n w' => ∃ i : Nat, n = i ∧ i ≤ l.length ∧ LnStep d s (ws ++ (l.take i).map numI) w w', fun n _ => ((l.length : Int) - n).toNat, ⟨0, rfl, Nat.zero_le _, by simpa using LnStep.refl h (.refl _ _)⟩, ?_⟩
 rintro _ w4 ⟨i, rfl, hi, s4, h4, c4, f4⟩
 refine ⟨fun hlt => ?_, fun hge => ⟨rfl, ?_⟩⟩
 · have hlt : i < l.length := by have := of_decide_eq_true hlt; omega
   obtain ⟨A, hA, hbd, hc⟩ := (hx w4 c4).at (i := i) (v := .int .i64 l[i]) (by rw [List.getElem?_map, List.getElem?_eq_getElem hlt]; rfl)
   have hin := hr _ (List.getElem_mem hlt)
   refine ⟨A, hA, hbd, _, hc, (ItoaI l[i] hin.1 hin.2 w4 (ht w4 c4)).use ?_⟩
   rintro _ w7 ⟨rfl, hx7⟩
   have hx10 : Ext w7 (w7.alloc (.cells #[.string (S (numI l[i]))] Ty.string)) := Chg.alloc (.refl _ _) _
   have hX := Ext.trans hx7 hx10
   have hs : Src 1 (w7.alloc (.cells #[.string (S (numI l[i]))] Ty.string)) ⟨some ⟨w7.heap.size, 0, none⟩, 1, 1⟩ (strs [numI l[i]]) := Src.new w7 [.string (S (numI l[i]))] 1 rfl
   refine ⟨_, rfl, nx ((line_text (h4.ext hX) hs (by simp; omega)).use ?_)⟩
   rintro _ w11 ⟨rfl, hL⟩
   have ew : IntKind.wrap .i64 ((i : Int) + 1) = ((i + 1 : Nat) : Int) := by rw [wrapi (by omega) (by omega)]; rfl
   have hms : ((l.length : Int) - ((i + 1 : Nat) : Int)).toNat < ((l.length : Int) - (i : Int)).toNat := by omega
   rw [ew]
   refine ⟨rfl, ⟨i + 1, rfl, hlt, ?_⟩, hms⟩
   have := LnStep.step c4 f4 (hL.ahead hX)
   rw [List.append_assoc] at this
   rw [List.take_succ_eq_append_getElem hlt, List.map_append]
   exact this
 · have hi : i = l.length := by have := of_decide_eq_false hge; omega
   subst hi
   rw [List.take_length] at h4
   exact ⟨s4, h4, c4, f4⟩
end Go.Proofs.YtgljoledlhmhnaaGreatDoor
namespace Go.Proofs.YtgljoledlhmhnaaGreatDoor
open Go Gx
structure Tab2 (w : World) : Prop where
 pow : TabPow w
 bru : TabBru w
theorem Tab2.ext {w w' : World} (h : Tab2 w) (hx : Ext w w') : Tab2 w' := ⟨h.pow.ext hx, h.bru.ext hx⟩
structure Tabs (w : World) : Prop where
 tab : Tab2 w
 errs : Errs w
theorem Tabs.ext {w w' : World} (h : Tabs w) (hx : Ext w w') : Tabs w' := ⟨h.tab.ext hx, h.errs.ext hx⟩
theorem numB_len64 {b n : Nat} (hb : 2 ≤ b) (hn : n < 2 ^ 64) : (numB b n).length ≤ 64 :=
 numB_len b 63 hb n (Nat.lt_of_lt_of_le hn (Nat.pow_le_pow_left hb 64))
def tabHex : ByteArray := ByteArray.mk #[48, 49, 50, 51, 52, 53, 54, 55, 56, 57, 97, 98, 99, 100, 101, 102]
theorem ref12_Num (b : Nat) (hb : 2 ≤ b ∧ b ≤ 16) (n : Nat) : n < 2 ^ 63 → ∀ w : World, Ret Tryz.prog F.ref12_Num #[.int .i64 n, .int .i64 b] w (fun v w' => v = .string (S (numB b n)) ∧ Ext w w') := by
 induction n using Nat.strongRecOn with
 | ind n ih =>
   intro hn w
   have hn : n < 9223372036854775808 := hn
   refine W.ref12_Num_ok n b w _ ?_
   (delta W.ref12_Num Br wI c4 mI; dsimp only)
   refine ⟨fun h => ?_, fun h => ?_⟩
   · have h : n < b := by have := of_decide_eq_true h; omega
     rw [wrapi (n := (n : Int) + 1) (by omega) (by omega), numB_lt h]
     refine ⟨⟨by omega, ?_⟩, ⟨by omega, by omega⟩, ?_, .refl _ _⟩
     · show (n : Int) + 1 ≤ ((16 : Nat) : Int); omega
     · have e : ∀ i : Nat, i < 16 → (tabHex.extract i (i + 1)).data = (S [dig i]).data := by decide +kernel
       have := ByteArray.ext (e n (by omega))
       rw [← this]
       rfl
   · have h : b ≤ n := by have := of_decide_eq_false h; omega
     have hd : n / b < n := Nat.div_lt_self (by omega) (by omega)
     have hm : n % b < b := Nat.mod_lt _ (by omega)
     have e1 : Int.tdiv (n : Int) (b : Int) = ((n / b : Nat) : Int) := by rw [tdiv_nn (by omega)]; rfl
     have e2 : Int.tmod (n : Int) (b : Int) = ((n % b : Nat) : Int) := by rw [tmod_nn (by omega)]; rfl
     have hge := numB_ge hb.1 h
     rw [e1, e2]
     clear e1 e2
     generalize hq : n / b = q at *
     generalize hr : n % b = r at *
     rw [wrapi (n := (q : Int)) (by omega) (by omega)]
     refine nx ⟨fun _ => False, by omega, by omega, (ih _ hd (by show q < 9223372036854775808; omega) _).use ?_⟩
     rintro _ w3 ⟨rfl, hx3⟩
     refine ⟨_, rfl, (ih _ (by omega) (by show r < 9223372036854775808; omega) _).use ?_⟩
     rintro _ w6 ⟨rfl, hx6⟩
     have l1 := numB_len64 hb.1 (n := q) (by show q < 18446744073709551616; omega)
     have l2 := numB_len64 hb.1 (n := r) (by show r < 18446744073709551616; omega)
     refine ⟨_, rfl, by rw [S_size, S_size]; omega, ?_, Ext.trans (Ext.trans (Chg.drew (.refl _ _)) hx3) hx6⟩
     rw [S_append, numB_lt hm, ← hge]
theorem Src.sub {w : World} {s : Sl} {vs : List Value} {lo hi : Nat} (h : Src 1 w s vs) (hc : s.len ≤ s.cap) (h1 : lo ≤ hi) (h2 : hi ≤ s.len) : Src 1 w ⟨cutA s.a 1 lo s.cap, hi - lo, s.cap - lo⟩ ((vs.drop lo).take (hi - lo)) := by
 have hl : vs.length = s.len := by have := h.len; omega
 refine ⟨by simp; omega, fun hn => ?_, fun a ha => ?_⟩
 · have hsa : s.a = none := by
     unfold cutA at hn
     split at hn
     · exact hn
     · simpa using hn
   simp [h.nil hsa]
 · show rdCells w a 0 ((hi - lo) * 1) = _
   by_cases e : hi = lo
   · rw [show hi - lo = 0 by omega]; simp [rdCells]
   · have hA : ∃ A, s.a = some A ∧ a = A.add lo := by
       unfold cutA at ha
       rw [if_neg (by omega)] at ha
       cases hs : s.a with
       | none => rw [hs] at ha; cases ha
       | some A => rw [hs] at ha; exact ⟨A, rfl, by simpa using ha.symm⟩
     obtain ⟨A, hA, rfl⟩ := hA
     have hr := h.rd A hA
     have := rdCells_of (w := w) (A := A.add lo) ((vs.drop lo).take (hi - lo)) 0 (fun j v hj => by
       rw [add_add]
       have hj2 : j < hi - lo := by have := (List.getElem?_eq_some_iff.1 hj).1; simp at this; omega
       rw [List.getElem?_take_of_lt hj2, List.getElem?_drop] at hj
       have := rdCells_get hr hj
       simpa using this)
     have e2 : ((vs.drop lo).take (hi - lo)).length = hi - lo := by simp; omega
     rw [e2] at this
     rw [Nat.mul_one]
     exact this
def beN (l : List UInt8) : Nat := l.foldl (fun n c => n * 256 + c.toNat) 0
theorem beN_append (l m : List UInt8) : beN (l ++ m) = m.foldl (fun n c => n * 256 + c.toNat) (beN l) := by simp [beN, List.foldl_append]
theorem beN_snoc (l : List UInt8) (c : UInt8) : beN (l ++ [c]) = beN l * 256 + c.toNat := by rw [beN_append]; rfl
theorem beN_lt : ∀ (k : Nat) (l : List UInt8), l.length = k → beN l < 256 ^ k := by
 intro k
 induction k with
 | zero => intro l h; rw [List.length_eq_zero_iff.1 h]; simp [beN]
 | succ k ih =>
   intro l h
   obtain ⟨m, c, rfl⟩ : ∃ m c, l = m ++ [c] := by
     rcases List.eq_nil_or_concat l with rfl | ⟨m, c, hm⟩
     · simp at h
     · exact ⟨m, c, by rw [hm, List.concat_eq_append]⟩
   rw [beN_snoc, Nat.pow_succ]
   have := ih m (by simpa using h)
   have := UInt8.toNat_lt c
   omega
theorem bOr64 {a b : Nat} (ha : a < 2 ^ 64) (hb : b < 2 ^ 64) : bOr .u64 (a : Int) (b : Int) = ((a ||| b : Nat) : Int) := by
 have e1 : BitVec.ofInt 64 (a : Int) = BitVec.ofNat 64 a := by simp
 have e2 : BitVec.ofInt 64 (b : Int) = BitVec.ofNat 64 b := by simp
 unfold bOr
 show IntKind.u64.wrap (((BitVec.ofInt 64 (a : Int) ||| BitVec.ofInt 64 (b : Int)).toNat : Nat) : Int) = _
 rw [e1, e2, BitVec.toNat_or, BitVec.toNat_ofNat, BitVec.toNat_ofNat, Nat.mod_eq_of_lt ha, Nat.mod_eq_of_lt hb]
 have : a ||| b < 2 ^ 64 := Nat.or_lt_two_pow ha hb
 have : a ||| b < 18446744073709551616 := this
 rw [wr64 (by omega) (by omega)]
theorem or_byte (n c : Nat) (hc : c < 256) : n * 256 ||| c = n * 256 + c := by
 have := Nat.shiftLeft_add_eq_or_of_lt (i := 8) (b := c) (by simpa using hc) n
 rw [Nat.shiftLeft_eq] at this
 exact this.symm
theorem num_Get {s : Sl} {l : List UInt8} {w : World} (hs : Src 1 w s (u8s l)) (hc : s.len ≤ s.cap) {a k : Nat} (hk : 1 ≤ k ∧ k ≤ 8) (ha : a + k ≤ l.length) (hl : l.length ≤ 1000000000000) :
   Ret Tryz.prog F.num_Get #[.slice s.a s.len s.cap, .int .i64 a, .int .i64 k] w (fun v w' => v = .tuple #[.int .u64 ((beN ((l.drop a).take k) : Nat) : Int), .bool true] ∧ w = w') := by
 refine W.num_Get_ok s a k w _ ?_
 (delta W.num_Get c17 Br c9 bd r4 wI; dsimp only)
 have hsl : s.len = l.length := by have := hs.len; rw [u8s_length] at this; omega
 refine Calls.mono (W.num_cut_ok s a k w (fun v w' => v = .tuple #[.slice (cutA s.a 1 a s.cap) k (s.cap - a), .bool true] ∧ w = w') ?_) ?_
 · delta W.num_cut Br wI
   rw [wrapi (n := ((s.len : Nat) : Int) - (a : Int)) (by omega) (by omega), wrapi (n := (a : Int) + (k : Int)) (by omega) (by omega)]
   refine ⟨fun h => ?_, fun _ => ⟨⟨by omega, by omega⟩, ⟨by omega, by omega⟩, ?_, rfl⟩⟩
   · simp only [Bool.or_eq_true, decide_eq_true_eq] at h; omega
   · rw [show Int.toNat ((a : Int) + (k : Int)) - Int.toNat (a : Int) = k by omega]; rfl
 rintro _ _ ⟨_, rfl, rfl, rfl⟩
 refine ⟨⟨cutA s.a 1 a s.cap, k, s.cap - a⟩, true, rfl, Jn1 (fun b w' => b = false ∧ w = w') (fun q hq => ⟨fun h => by simp at h, fun _ => ?_⟩) ?_⟩
 · refine Calls.mono (W.num_good_ok k w (fun v w' => v = .bool true ∧ w = w') ⟨?_, rfl⟩) ?_
   · have h1 : decide ((k : Int) ≥ 1) = true := decide_eq_true (by omega)
     have h2 : decide ((k : Int) ≤ 8) = true := decide_eq_true (by omega)
     rw [h1, h2]; rfl
   · rintro _ _ ⟨_, rfl, rfl, rfl⟩
     exact ⟨_, rfl, hq _ _ ⟨rfl, rfl⟩⟩
 rintro _ _ ⟨rfl, rfl⟩
 have hsub := Src.sub hs hc (lo := a) (hi := a + k) (by omega) (by omega)
 rw [show a + k - a = k by omega] at hsub
 have hsub : Src 1 w ⟨cutA s.a 1 a s.cap, k, s.cap - a⟩ (u8s ((l.drop a).take k)) := by
   simpa [u8s, List.map_drop, List.map_take] using hsub
 obtain ⟨m, hm⟩ : ∃ m, m = (l.drop a).take k := ⟨_, rfl⟩
 have hml : m.length = k := by rw [hm]; simp; omega
 rw [← hm] at hsub ⊢
 refine ⟨fun h => by simp at h, fun _ => ⟨fun n i w' => w = w' ∧ ∃ j : Nat, i = j ∧ j ≤ k ∧ n = ((beN (m.take j) : Nat) : Int), fun _ i _ => ((k : Int) - i).toNat, ⟨rfl, 0, rfl, Nat.zero_le _, rfl⟩, ?_⟩⟩
 rintro _ _ _ ⟨rfl, j, rfl, hj, rfl⟩
 refine ⟨fun hlt => ?_, fun hge => ?_⟩
 · have hlt : ((j : Int) < ((k : Nat) : Int)) := of_decide_eq_true hlt
   have hlt : j < k := by omega
   obtain ⟨A, hA, hb, hcell⟩ := hsub.at (u8s_get (l := m) (i := j) (by omega))
   have h1 := beN_lt j (m.take j) (by simp; omega)
   have h2 : 256 ^ j ≤ 256 ^ 7 := Nat.pow_le_pow_right (by omega) (by omega)
   have h2 : 256 ^ j ≤ 72057594037927936 := h2
   have hc256 : (m[j]).toNat < 256 := UInt8.toNat_lt _
   have e1 : ((beN (m.take j) : Nat) : Int) * 2 ^ (min (Int.toNat 8) 64) = ((beN (m.take j) * 256 : Nat) : Int) := by
     show ((beN (m.take j) : Nat) : Int) * 256 = _; omega
   refine ⟨A, hA, hb, _, hcell, by decide, ?_⟩
   rw [e1, wr64 (n := ((beN (m.take j) * 256 : Nat) : Int)) (by omega) (by omega), wr64 (n := ((m[j].toNat : Nat) : Int)) (by omega) (by omega), bOr64 (by show _ < 18446744073709551616; omega) (by show _ < 18446744073709551616; omega), or_byte _ _ hc256, wrapi (n := (j : Int) + 1) (by omega) (by omega)]
   refine ⟨⟨rfl, j + 1, by omega, by omega, ?_⟩, ?_⟩
   · rw [take_succ m (by omega), beN_snoc]
   · show ((k : Int) - ((j : Int) + 1)).toNat < ((k : Int) - (j : Int)).toNat
     omega
 · have hge : ¬ ((j : Int) < ((k : Nat) : Int)) := of_decide_eq_false hge
   have hge : j = k := by omega
   subst hge
   exact ⟨by rw [List.take_of_length_le (by omega)], rfl⟩
def Ad.words (a : Ad) : List (List UInt8) := (List.range 8).map fun i => numB 16 (beN ((a.b.drop (2 * i)).take 2))
def showA (a : Ad) : List UInt8 := if a.good then (if a.six then joinB 58 a.words else joinB 46 (a.raw.map fun c => numB 10 c.toNat)) else []
theorem appStr : AppT Tryz.prog Ty.Sl_string Ty.string 1 16 := ⟨by kernel_rfl⟩
theorem pushStr {w : World} {s : Sl} {ls : List (List UInt8)} (l : List UInt8) (ho : OwnS 1 Ty.string w s (strs ls)) (hn : ls.length ≤ 1000000) :
   ∃ (s' : Sl) (w' : World), Sem.run Tryz.prog (Builtin.append_ #[Ty.Sl_string, Ty.Sl_string] Ty.Sl_string #[.slice s.a s.len s.cap, .slice (some ⟨w.heap.size, 0, none⟩) 1 1]) (w.alloc (.cells #[.string (S l)] Ty.string)) = .ok (.slice s'.a s'.len s'.cap) w' ∧
     OwnS 1 Ty.string w' s' (strs (ls ++ [l])) ∧ Chg (ownB s) w w' ∧ (∀ k, ownB s' k → ownB s k ∨ w.heap.size ≤ k) := by
 have hsl : s.len = ls.length := by have := ho.1; rw [strs_length] at this; omega
 obtain ⟨s', w', h1, h2, h3, h4, h5⟩ := appStr.push (oT := Ty.Sl_string) (w := w) (s := s) (xs := [.string (S l)]) rfl ho (fun v hv => by rw [List.mem_singleton.1 hv]; trivial) (by omega)
 exact ⟨s', w', h1, by rw [strs_append]; exact h2, h4, h5⟩
theorem addr_show (a : Ad) (w : World) (ht : Tab2 w) : Ret Tryz.prog F.addr_show #[.agg a.c.toArray] w (fun v w' => v = .string (S (showA a)) ∧ Ext w w') := by
 refine W.addr_show_ok _ w _ ?_
 (delta W.addr_show nA c9 Br r8 c5 bd r4 c4 wI T21 c21; dsimp only)
 refine nxVar (vs := a.c) rfl fun w1 hv hx1 hz1 => ⟨a.c, hv.rd a.c_length, (addr_good a w1).use ?_⟩
 rintro _ w3 ⟨rfl, hx3⟩
 have hX3 : Ext w w3 := Ext.trans hx1 hx3
 have hv3 := hv.ext hx3
 unfold showA
 refine ⟨_, rfl, fun h => ?_, fun h => ?_⟩
 · have h : a.good = false := by simpa using h
   rw [if_neg (by simp [h])]
   exact ⟨rfl, hX3⟩
 have hg : a.good = true := by simpa using h
 rw [if_pos hg]
 refine ⟨a.six, hv3.cell, fun h6 => ?_, fun h6 => ?_⟩
 · have h6 : a.six = false := by simpa using h6
   rw [if_neg (by simp [h6])]
   refine ⟨a.c, hv3.rd a.c_length, (addr_raw a w3).use ?_⟩
   rintro _ w8 ⟨s, rfl, hsl, hsc, hs, hx8⟩
   have hX8 : Ext w w8 := Ext.trans hX3 hx8
   have hrl : a.raw.length = 4 := by rw [a.raw_length, h6]; rfl
   have hml : ∀ k, k ≤ 4 → ((a.raw.map fun c => numB 10 c.toNat).take k).length = k := by intro k hk; simp [hrl]; omega
   refine ⟨s, rfl, fun t i w' => ∃ k : Nat, i = k ∧ k ≤ 4 ∧ Ext w w' ∧ Ext w8 w' ∧ (∀ q, ownB t q → w8.heap.size ≤ q) ∧ OwnS 1 Ty.string w' t (strs ((a.raw.map fun c => numB 10 c.toNat).take k)), fun _ i _ => ((4 : Int) - i).toNat, ⟨0, rfl, by omega, hX8, .refl _ _, fun q hq => (ownB_none q hq).elim, OwnS.none _ _ _⟩, ?_⟩
   rintro t _ w15 ⟨k, rfl, hk, hX, hY, hf, ho⟩
   refine ⟨fun hlt => ?_, fun hge => ?_⟩
   · have hlt : k < 4 := by have := of_decide_eq_true hlt; omega
     obtain ⟨A, hA, hb, hcell⟩ := (hs.ext hY).at (u8s_get (l := a.raw) (i := k) (by omega))
     have hc256 : (a.raw[k]'(by omega)).toNat < 256 := UInt8.toNat_lt _
     rw [wrapi (n := (k : Int) + 1) (by omega) (by omega)]
     refine ⟨A, hA, hb, _, hcell, ?_⟩
     rw [wrapi (n := (((a.raw[k]'(by omega)).toNat : Nat) : Int)) (by omega) (by omega)]
     refine (Itoa _ (by show _ < 9223372036854775808; omega) w15 (ht.ext hX).pow).use ?_
     rintro _ w18 ⟨rfl, hx18⟩
     obtain ⟨t', w23, h1, h2, h3, h4⟩ := pushStr (numB 10 (a.raw[k]'(by omega)).toNat) (ho.ext hx18) (by rw [hml k hk]; omega)
     refine ⟨_, rfl, nx ⟨t', w23, h1, ⟨k + 1, by omega, by omega, ?_, ?_, fun q hq => ?_, ?_⟩, ?_⟩⟩
     · exact Ext.of_new (Ext.trans hX hx18) h3 (fun q hq => Nat.le_trans hX8.size (hf q hq))
     · exact Ext.of_new (Ext.trans hY hx18) h3 hf
     · rcases h4 q hq with h | h
       · exact hf q h
       · exact Nat.le_trans (Ext.trans hY hx18).size h
     · rw [take_succ _ (by simp [hrl]; omega)]
       simpa using h2
     · show ((4 : Int) - ((k : Int) + 1)).toNat < ((4 : Int) - (k : Int)).toNat
       omega
   · have hge : k = 4 := by have := of_decide_eq_false hge; omega
     subst hge
     rw [List.take_of_length_le (by simp [hrl])] at ho
     have hsum : sumLen (a.raw.map fun c => numB 10 c.toNat) ≤ 64 * 4 := by
       have : ∀ l : List UInt8, sumLen (l.map fun c => numB 10 c.toNat) ≤ 64 * l.length := by
         intro l
         induction l with
         | nil => exact Nat.le_refl _
         | cons c l ih =>
           have := numB_len64 (b := 10) (n := c.toNat) (by omega) (by have := UInt8.toNat_lt c; show _ < 18446744073709551616; omega)
           simp only [List.map_cons, sumLen, List.length_cons]; omega
       have := this a.raw
       rwa [hrl] at this
     refine (Join1 (a.raw.map fun c => numB 10 c.toNat) 46 ho.src ho.2.1 (by simp [hrl]) (by omega)).use ?_
     rintro _ w24 ⟨rfl, hx24⟩
     exact ⟨_, rfl, rfl, Ext.trans hX hx24⟩
 · have h6 : a.six = true := by simpa using h6
   rw [if_pos h6]
   have hwl : a.words.length = 8 := by simp [Ad.words]
   have e : cutA (some (Addr.add ⟨w.heap.size, 0, none⟩ 1)) 1 0 16 = some ⟨w.heap.size, 1, none⟩ := by rw [add_mk, cut_some (by decide)]
   have hsrc : Src 1 w3 ⟨some ⟨w.heap.size, 1, none⟩, 16, 16⟩ (u8s a.b) := hv3.src8 (by rw [a.c_length]; decide) (by simp [Ad.c, List.take_of_length_le, u8s_length, a.h])
   have hml : ∀ k, k ≤ 8 → (a.words.take k).length = k := by intro k hk; simp [hwl]; omega
   refine ⟨fun t i w' => ∃ k : Nat, i = k ∧ k ≤ 8 ∧ Ext w w' ∧ Ext w3 w' ∧ (∀ q, ownB t q → w3.heap.size ≤ q) ∧ OwnS 1 Ty.string w' t (strs (a.words.take k)), fun _ i _ => ((8 : Int) - i).toNat, ⟨0, rfl, by omega, hX3, .refl _ _, fun q hq => (ownB_none q hq).elim, OwnS.none _ _ _⟩, ?_⟩
   rintro t _ w31 ⟨k, rfl, hk, hX, hY, hf, ho⟩
   refine ⟨fun hlt => ?_, fun hge => ?_⟩
   · have hlt : k < 8 := by have := of_decide_eq_true hlt; omega
     rw [wrapi (n := (k : Int) + 1) (by omega) (by omega), wrapi (n := 2 * (k : Int)) (by omega) (by omega), e]
     have hb2 := beN_lt 2 ((a.b.drop (2 * k)).take 2) (by simp [a.h]; omega)
     have hb2 : beN ((a.b.drop (2 * k)).take 2) < 65536 := hb2
     refine (num_Get (s := ⟨some ⟨w.heap.size, 1, none⟩, 16, 16⟩) (a := 2 * k) (k := 2) (hsrc.ext hY) (Nat.le_refl _) (by decide) (by rw [a.h]; omega) (by rw [a.h]; omega)).use ?_
     rintro _ _ ⟨rfl, rfl⟩
     refine ⟨_, _, rfl, (FormatUint16 _ (by show _ < 18446744073709551616; omega) w31 (ht.ext hX).bru).use ?_⟩
     rintro _ w36 ⟨rfl, hx36⟩
     obtain ⟨t', w41, h1, h2, h3, h4⟩ := pushStr (numB 16 (beN ((a.b.drop (2 * k)).take 2))) (ho.ext hx36) (by rw [hml k hk]; omega)
     refine ⟨_, rfl, nx ⟨t', w41, h1, ⟨k + 1, by omega, by omega, ?_, ?_, fun q hq => ?_, ?_⟩, ?_⟩⟩
     · exact Ext.of_new (Ext.trans hX hx36) h3 (fun q hq => Nat.le_trans hX3.size (hf q hq))
     · exact Ext.of_new (Ext.trans hY hx36) h3 hf
     · rcases h4 q hq with h | h
       · exact hf q h
       · exact Nat.le_trans (Ext.trans hY hx36).size h
     · rw [take_succ _ (by omega)]
       have : a.words[k]'(by omega) = numB 16 (beN ((a.b.drop (2 * k)).take 2)) := by simp [Ad.words]
       rw [this]
       exact h2
     · show ((8 : Int) - ((k : Int) + 1)).toNat < ((8 : Int) - (k : Int)).toNat
       omega
   · have hge : k = 8 := by have := of_decide_eq_false hge; omega
     subst hge
     rw [List.take_of_length_le (by omega)] at ho
     have hsum : sumLen a.words ≤ 64 * 8 := by
       have : ∀ l : List Nat, (∀ i ∈ l, i < 8) → sumLen (l.map fun i => numB 16 (beN ((a.b.drop (2 * i)).take 2))) ≤ 64 * l.length := by
         intro l
         induction l with
         | nil => intro _; exact Nat.le_refl _
         | cons c l ih =>
           intro hl
           have hb := beN_lt 2 ((a.b.drop (2 * c)).take 2) (by have := hl c (by simp); simp [a.h]; omega)
           have := numB_len64 (b := 16) (n := beN ((a.b.drop (2 * c)).take 2)) (by omega) (Nat.lt_trans hb (by decide))
           have := ih (fun i hi => hl i (by simp [hi]))
           simp only [List.map_cons, sumLen, List.length_cons]; omega
       have := this (List.range 8) (fun i hi => List.mem_range.1 hi)
       rw [List.length_range] at this
       exact this
     refine (Join1 a.words 58 ho.src ho.2.1 (by omega) (by omega)).use ?_
     rintro _ w42 ⟨rfl, hx42⟩
     exact ⟨_, rfl, rfl, Ext.trans hX hx42⟩
end Go.Proofs.YtgljoledlhmhnaaGreatDoor
namespace Go.Proofs.YtgljoledlhmhnaaGreatDoor
open Go Gx
theorem joinB_length (c : UInt8) : ∀ ls, (joinB c ls).length ≤ ls.length + sumLen ls
 | [] => by simp [joinB]
 | l :: ls => by rw [joinB_cons, List.length_append, tailB_length]; simp [sumLen]; omega
theorem sumLen_le {k : Nat} : ∀ {ls : List (List UInt8)}, (∀ l ∈ ls, l.length ≤ k) → sumLen ls ≤ k * ls.length
 | [], _ => by simp [sumLen]
 | l :: ls, h => by
   have h1 := h l (by simp)
   have h2 := sumLen_le (ls := ls) (fun m hm => h m (by simp [hm]))
   have : k * (l :: ls).length = k + k * ls.length := by rw [List.length_cons, Nat.mul_add]; omega
   rw [this]
   simp only [sumLen]; omega
theorem words_len (a : Ad) : ∀ l ∈ a.words, l.length ≤ 64 := by
 intro l hl
 obtain ⟨i, hi, rfl⟩ := List.mem_map.1 hl
 have hi := List.mem_range.1 hi
 have hb := beN_lt 2 ((a.b.drop (2 * i)).take 2) (by simp [a.h]; omega)
 exact numB_len64 (by omega) (Nat.lt_trans hb (by decide))
theorem raws_len (a : Ad) : ∀ l ∈ (a.raw.map fun c => numB 10 c.toNat), l.length ≤ 64 := by
 intro l hl
 obtain ⟨c, _, rfl⟩ := List.mem_map.1 hl
 exact numB_len64 (by omega) (Nat.lt_trans (UInt8.toNat_lt c) (by decide))
theorem showA_len (a : Ad) : (showA a).length ≤ 2000 := by
 unfold showA
 have hr := a.raw_length
 have hr16 : a.raw.length ≤ 16 := by rw [hr]; split <;> omega
 split
 · split
   · have := joinB_length 58 a.words
     have := sumLen_le (words_len a)
     have : a.words.length = 8 := by simp [Ad.words]
     omega
   · have := joinB_length 46 (a.raw.map fun c => numB 10 c.toNat)
     have := sumLen_le (raws_len a)
     simp only [List.length_map] at *
     omega
 · simp
def preJ (c : UInt8) (n : Nat) (ls : List (List UInt8)) : Nat → List UInt8
 | 0 => []
 | k + 1 => preJ c n ls k ++ (ls.getD k [] ++ if k + 1 < n then [c] else [])
theorem preJ_rest (c : UInt8) (ls : List (List UInt8)) : ∀ k, k < ls.length → preJ c ls.length ls k ++ joinB c (ls.drop k) = joinB c ls
 | 0, _ => rfl
 | k + 1, h => by
   have ih := preJ_rest c ls k (by omega)
   rw [← ih]
   have e1 : ls.drop k = ls[k] :: ls.drop (k + 1) := List.drop_eq_getElem_cons (by omega)
   have e2 : ls.drop (k + 1) = ls[k + 1] :: ls.drop (k + 2) := List.drop_eq_getElem_cons h
   have e3 : ls.getD k [] = ls[k] := by simp [List.getD, show k < ls.length by omega]
   rw [e1, preJ, e3, if_pos h, e2]
   simp [joinB]
theorem preJ_all (c : UInt8) (ls : List (List UInt8)) (h : ls ≠ []) : preJ c ls.length ls ls.length = joinB c ls := by
 have hp := List.length_pos_iff.2 h
 obtain ⟨k, hk⟩ : ∃ k, ls.length = k + 1 := ⟨ls.length - 1, by omega⟩
 have h1 := preJ_rest c ls k (by omega)
 have e1 : ls.drop k = [ls[k]] := by
   rw [List.drop_eq_getElem_cons (by omega), List.drop_of_length_le (by omega)]
 have e3 : ls.getD k [] = ls[k] := by simp [List.getD, show k < ls.length by omega]
 rw [e1] at h1
 have e4 : preJ c ls.length ls ls.length = preJ c ls.length ls (k + 1) := congrArg (preJ c ls.length ls) hk
 rw [← h1, e4, preJ, e3, if_neg (by omega)]
 simp [joinB]
theorem preJ_len {c : UInt8} {n : Nat} {ls : List (List UInt8)} (h : ∀ l ∈ ls, l.length ≤ 64) : ∀ k, (preJ c n ls k).length ≤ 65 * k
 | 0 => by simp [preJ]
 | k + 1 => by
   have ih := preJ_len (c := c) (n := n) h k
   have h2 : (ls.getD k []).length ≤ 64 := by
     by_cases hk : k < ls.length
     · have e3 : ls.getD k [] = ls[k] := by simp [List.getD, hk]
       rw [e3]; exact h _ (List.getElem_mem _)
     · have e3 : ls.getD k [] = [] := by simp [List.getD, show ls[k]? = none from List.getElem?_eq_none (by omega)]
       rw [e3]; simp
   simp only [preJ, List.length_append]
   split
   · rw [List.length_singleton]; omega
   · rw [List.length_nil]; omega
theorem beN2 (a : Ad) {k : Nat} (h : k < 8) : beN ((a.b.drop (2 * k)).take 2) = 256 * (a.b[2 * k]'(by rw [a.h]; omega)).toNat + (a.b[2 * k + 1]'(by rw [a.h]; omega)).toNat := by
 have e : (a.b.drop (2 * k)).take 2 = [a.b[2 * k]'(by rw [a.h]; omega), a.b[2 * k + 1]'(by rw [a.h]; omega)] := by
   rw [List.drop_eq_getElem_cons (i := 2 * k) (by rw [a.h]; omega), List.take_succ_cons, List.drop_eq_getElem_cons (i := 2 * k + 1) (by rw [a.h]; omega), List.take_succ_cons, List.take_zero]
 rw [e]
 simp only [beN, List.foldl]
 omega
theorem ref12_Show (a : Ad) (w : World) : Ret Tryz.prog F.ref12_Show #[.agg a.c.toArray] w (fun v w' => v = .string (S (showA a)) ∧ Ext w w') := by
 refine W.ref12_Show_ok _ w _ ?_
 (delta W.ref12_Show nA c9 Br r8 r4 c4 wI mI; dsimp only)
 refine nxVar (vs := a.c) rfl fun w1 hv hx1 hz1 => ⟨a.c, hv.rd a.c_length, (ref12_Good a w1).use ?_⟩
 rintro _ w3 ⟨rfl, hx3⟩
 have hX3 : Ext w w3 := Ext.trans hx1 hx3
 have hv3 := hv.ext hx3
 unfold showA
 refine ⟨_, rfl, fun h => ?_, fun h => ?_⟩
 · have h : a.good = false := by simpa using h
   rw [if_neg (by simp [h])]
   exact ⟨rfl, hX3⟩
 have hg : a.good = true := by simpa using h
 rw [if_pos hg]
 have eA : ∀ k : Nat, Addr.add (Addr.add ⟨w.heap.size, 0, none⟩ 1) (Int.toNat (k : Int) * 1) = ⟨w.heap.size, 1 + k, none⟩ := by intro k; rw [add_mk, add_mk]; simp
 have hwl : a.words.length = 8 := by simp [Ad.words]
 have hw2 := words_len a
 have hr2 := raws_len a
 obtain ⟨rs, hrs⟩ : ∃ rs, rs = a.raw.map fun c => numB 10 c.toNat := ⟨_, rfl⟩
 rw [← hrs] at hr2 ⊢
 refine ⟨fun s i w' => ∃ k : Nat, i = ((12 + k : Nat) : Int) ∧ k ≤ 4 ∧ (a.six = true → k = 0) ∧ Ext w w' ∧ Var w' w.heap.size a.c Ty.api_Addr ∧ s = S (preJ 46 4 rs k), fun _ i _ => ((16 : Int) - i).toNat, ⟨0, rfl, by omega, fun _ => rfl, hX3, hv3, rfl⟩, ?_⟩
 rintro _ _ w10 ⟨k, rfl, hk, hk6, hX, hv10, rfl⟩
 refine Jn1 (fun b w' => w10 = w' ∧ b = (decide (k < 4) && !a.six)) (fun q hq => ⟨fun h => ⟨a.six, hv10.cell, hq _ _ ⟨rfl, ?_⟩⟩, fun h => hq _ _ ⟨rfl, ?_⟩⟩) ?_
 · have h : k < 4 := by have := of_decide_eq_true h; omega
   simp [h]
 · have h : ¬ k < 4 := by have := of_decide_eq_false h; omega
   simp [h]
 rintro _ _ ⟨rfl, rfl⟩
 refine ⟨fun h => ?_, fun h => ?_⟩
 · have h : k < 4 ∧ a.six = false := by simpa using h
   obtain ⟨hlt, h6⟩ := h
   have hrl : a.raw.length = 4 := by rw [a.raw_length, h6]; rfl
   have hraw : a.raw = a.b.drop 12 := by simp [Ad.raw, h6]
   have hcell := a.cB (i := 12 + k) (by omega)
   have hc256 : (a.b[12 + k]'(by rw [a.h]; omega)).toNat < 256 := UInt8.toNat_lt _
   have hgd : rs.getD k [] = numB 10 (a.b[12 + k]'(by rw [a.h]; omega)).toNat := by
     rw [hrs]
     simp [List.getD, hraw, show k < 4 from hlt, a.h]
   have hl1 := preJ_len (c := 46) (n := 4) hr2 k
   have hl2 := numB_len64 (b := 10) (n := (a.b[12 + k]'(by rw [a.h]; omega)).toNat) (by omega) (Nat.lt_trans hc256 (by decide))
   refine Jn1 (fun s w' => Ext w w' ∧ Var w' w.heap.size a.c Ty.api_Addr ∧ s = S (preJ 46 4 rs (k + 1))) (fun q hq => ⟨⟨by omega, by omega⟩, _, by rw [eA, hv10.cell]; exact hcell, ?_⟩) ?_
   · rw [wrapi (n := (((a.b[12 + k]'(by rw [a.h]; omega)).toNat : Nat) : Int)) (by omega) (by omega)]
     refine (ref12_Num 10 (by decide) _ (Nat.lt_trans hc256 (by decide)) w10).use ?_
     rintro _ w17 ⟨rfl, hx17⟩
     have e2 : ∀ l m : List UInt8, (S l ++ S m) ++ ByteArray.mk #[46] = S (l ++ (m ++ [46])) := by
       intro l m; rw [S_append, show ByteArray.mk #[46] = S [46] from rfl, S_append, List.append_assoc]
     refine ⟨_, rfl, by rw [S_size, S_size]; omega, fun h => ⟨?_, hq _ _ ⟨Ext.trans hX hx17, hv10.ext hx17, ?_⟩⟩, fun h => hq _ _ ⟨Ext.trans hX hx17, hv10.ext hx17, ?_⟩⟩
     · rw [S_append, S_size, show (ByteArray.mk #[46]).size = 1 from rfl, List.length_append]; omega
     · have h : k + 1 < 4 := by have := of_decide_eq_true h; omega
       rw [e2, preJ, hgd, if_pos h]
     · have h : ¬ k + 1 < 4 := by have := of_decide_eq_false h; omega
       rw [S_append, preJ, hgd, if_neg h, List.append_nil]
   · rintro _ w21 ⟨hX21, hv21, rfl⟩
     rw [wrapi (n := ((12 + k : Nat) : Int) + 1) (by omega) (by omega)]
     refine ⟨⟨k + 1, by omega, by omega, fun h => (by rw [h6] at h; cases h), hX21, hv21, rfl⟩, ?_⟩
     show ((16 : Int) - (((12 + k : Nat) : Int) + 1)).toNat < ((16 : Int) - ((12 + k : Nat) : Int)).toNat
     omega
 · have hnk : ¬ (k < 4 ∧ a.six = false) := by
     intro h2
     simp [h2] at h
   refine ⟨fun s i w' => ∃ j : Nat, i = j ∧ j ≤ 8 ∧ (a.six = false → j = 0) ∧ Ext w w' ∧ Var w' w.heap.size a.c Ty.api_Addr ∧ s = S (preJ 46 4 rs k ++ preJ 58 8 a.words j), fun _ i _ => ((8 : Int) - i).toNat, ⟨0, rfl, by omega, fun _ => rfl, hX, hv10, by simp [preJ]⟩, ?_⟩
   rintro _ _ w26 ⟨j, rfl, hj, hj6, hX26, hv26, rfl⟩
   refine Jn1 (fun b w' => w26 = w' ∧ b = (decide (j < 8) && a.six)) (fun q hq => ⟨fun h => ⟨a.six, hv26.cell, hq _ _ ⟨rfl, ?_⟩⟩, fun h => hq _ _ ⟨rfl, ?_⟩⟩) ?_
   · have h : j < 8 := by have := of_decide_eq_true h; omega
     simp [h]
   · have h : ¬ j < 8 := by have := of_decide_eq_false h; omega
     simp [h]
   rintro _ _ ⟨rfl, rfl⟩
   refine ⟨fun h => ?_, fun h => ?_⟩
   · have h : j < 8 ∧ a.six = true := by simpa using h
     obtain ⟨hlt, h6⟩ := h
     have hk0 := hk6 h6
     subst hk0
     simp only [preJ, List.nil_append]
     have hc1 := a.cB (i := 2 * j) (by omega)
     have hc2 := a.cB (i := 2 * j + 1) (by omega)
     have hb1 : (a.b[2 * j]'(by rw [a.h]; omega)).toNat < 256 := UInt8.toNat_lt _
     have hb2 : (a.b[2 * j + 1]'(by rw [a.h]; omega)).toNat < 256 := UInt8.toNat_lt _
     have hgd : a.words.getD j [] = numB 16 (256 * (a.b[2 * j]'(by rw [a.h]; omega)).toNat + (a.b[2 * j + 1]'(by rw [a.h]; omega)).toNat) := by
       rw [← beN2 a hlt]
       simp [List.getD, Ad.words, hlt]
     have hl1 := preJ_len (c := 58) (n := 8) hw2 j
     have hl2 := numB_len64 (b := 16) (n := 256 * (a.b[2 * j]'(by rw [a.h]; omega)).toNat + (a.b[2 * j + 1]'(by rw [a.h]; omega)).toNat) (by omega) (by show _ < 18446744073709551616; omega)
     rw [wrapi (n := 2 * (j : Int)) (by omega) (by omega), wrapi (n := 2 * (j : Int) + 1) (by omega) (by omega), show 2 * (j : Int) + 1 = ((2 * j + 1 : Nat) : Int) by omega, show 2 * (j : Int) = ((2 * j : Nat) : Int) by omega, eA, eA]
     refine Jn1 (fun s w' => Ext w w' ∧ Var w' w.heap.size a.c Ty.api_Addr ∧ s = S (preJ 58 8 a.words (j + 1))) (fun q hq => nx ⟨fun _ => False, ⟨by omega, by omega⟩, id, _, by rw [hv26.drew.cell]; exact hc1, ⟨by omega, by omega⟩, id, _, by rw [hv26.drew.cell]; exact hc2, ?_⟩) ?_
     · rw [wrapi (n := (((a.b[2 * j]'(by rw [a.h]; omega)).toNat : Nat) : Int)) (by omega) (by omega), wrapi (n := (((a.b[2 * j + 1]'(by rw [a.h]; omega)).toNat : Nat) : Int)) (by omega) (by omega), wrapi (n := 256 * (((a.b[2 * j]'(by rw [a.h]; omega)).toNat : Nat) : Int)) (by omega) (by omega), wrapi (by omega) (by omega),
         show 256 * (((a.b[2 * j]'(by rw [a.h]; omega)).toNat : Nat) : Int) + (((a.b[2 * j + 1]'(by rw [a.h]; omega)).toNat : Nat) : Int) = ((256 * (a.b[2 * j]'(by rw [a.h]; omega)).toNat + (a.b[2 * j + 1]'(by rw [a.h]; omega)).toNat : Nat) : Int) by omega]
       refine (ref12_Num 16 (by decide) _ (by show _ < 9223372036854775808; omega) _).use ?_
       rintro _ w36 ⟨rfl, hx36⟩
       have hxx : Ext w26 w36 := Ext.trans (Chg.drew (.refl _ _)) hx36
       have e2 : ∀ l m : List UInt8, (S l ++ S m) ++ ByteArray.mk #[58] = S (l ++ (m ++ [58])) := by
         intro l m; rw [S_append, show ByteArray.mk #[58] = S [58] from rfl, S_append, List.append_assoc]
       refine ⟨_, rfl, hx36, by rw [S_size, S_size]; omega, fun h => ⟨?_, hq _ _ ⟨Ext.trans hX26 hxx, hv26.ext hxx, ?_⟩⟩, fun h => hq _ _ ⟨Ext.trans hX26 hxx, hv26.ext hxx, ?_⟩⟩
       · rw [S_append, S_size, show (ByteArray.mk #[58]).size = 1 from rfl, List.length_append]; omega
       · have h : j + 1 < 8 := by have := of_decide_eq_true h; omega
         rw [e2, preJ, hgd, if_pos h]
       · have h : ¬ j + 1 < 8 := by have := of_decide_eq_false h; omega
         rw [S_append, preJ, hgd, if_neg h, List.append_nil]
     · rintro _ w40 ⟨hX40, hv40, rfl⟩
       rw [wrapi (n := (j : Int) + 1) (by omega) (by omega)]
       refine ⟨⟨j + 1, by omega, by omega, fun h => (by rw [h6] at h; cases h), hX40, hv40, by simp [preJ]⟩, ?_⟩
       show ((8 : Int) - ((j : Int) + 1)).toNat < ((8 : Int) - (j : Int)).toNat
       omega
   · have h2 : ¬ (j < 8 ∧ a.six = true) := by
       intro h3
       simp [h3] at h
     refine ⟨?_, hX26⟩
     cases h6 : a.six
     · have hk4 : k = 4 := by
         rcases Classical.em (k < 4) with h3 | h3
         · exact absurd ⟨h3, h6⟩ hnk
         · omega
       have hj0 := hj6 h6
       subst hk4 hj0
       have hrl : rs.length = 4 := by rw [hrs, List.length_map, a.raw_length, h6]; rfl
       have := preJ_all 46 rs (by intro e; rw [e] at hrl; simp at hrl)
       rw [hrl] at this
       simp [preJ] at this ⊢
       rw [← this]
     · have hj8 : j = 8 := by
         rcases Classical.em (j < 8) with h3 | h3
         · exact absurd ⟨h3, h6⟩ h2
         · omega
       have hk0 := hk6 h6
       subst hj8 hk0
       have := preJ_all 58 a.words (by intro e; rw [e] at hwl; simp at hwl)
       rw [hwl] at this
       rw [this]
       simp [preJ]
end Go.Proofs.YtgljoledlhmhnaaGreatDoor
