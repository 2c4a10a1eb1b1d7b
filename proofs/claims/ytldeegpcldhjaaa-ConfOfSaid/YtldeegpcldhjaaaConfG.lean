/- The farm: AddBackend, Service, IDs. -/
import Derived.Test.YtldeegpcldhjaaaConfF
namespace Go.Proofs.Ytldeegpcldhjaaa
open Go Gx

variable {w w' : World} {fm : Fm} {R : List Rec} {r : Rec}

theorem bcell {b : Nat} {T : TypeId} {x : Bk} (h : Var w b x.c T) : w.cell? ⟨b, 0, none⟩ = some (.int .i64 x.id) ∧ w.cell? (Addr.add ⟨b, 0, none⟩ 1) = some (.bool x.addr.six) ∧ w.cell? (Addr.add ⟨b, 0, none⟩ 18) = some (.int .u16 x.port) ∧ w.cell? (Addr.add ⟨b, 0, none⟩ 19) = some (.int .i64 x.weight) ∧ w.cell? (Addr.add ⟨b, 0, none⟩ 20) = some (.bool x.drained) := by
  simp only [add_mk, h.cell]
  refine ⟨rfl, rfl, ?_, ?_, ?_⟩ <;> simp [Bk.c, List.getElem?_append, Ad.c_length]
theorem brd {b : Nat} {T : TypeId} {x : Bk} (h : Var w b x.c T) : rdCells w (Addr.add ⟨b, 0, none⟩ 1) 0 17 = some x.addr.c := by
  rw [add_mk, h.rdAt (by rw [Bk.c_length]; decide)]
  show some ((x.addr.c ++ _).take 17) = _
  rw [List.take_append_of_le_length (by rw [Ad.c_length]; decide), List.take_of_length_le (by rw [Ad.c_length]; decide)]
theorem buildBk (x : Bk) (w : World) : Sem.run Try.prog (Instr.buildSlice Ty.Sl_api_Backend 1 #[(0, .agg x.c.toArray)]) w = .ok (.slice (some ⟨w.heap.size, 0, none⟩) 1 1) (w.alloc (.cells x.c.toArray Ty.api_Backend)) := by
  obtain ⟨id, ⟨six, b, h⟩, port, weight, drained⟩ := x
  obtain ⟨x0, x1, x2, x3, x4, x5, x6, x7, x8, x9, x10, x11, x12, x13, x14, x15, rfl⟩ := list16 b h
  kernel_rfl

/-- What is wrong with a backend, as the program asks. -/
def badB (s : Sv) (b : Bk) : Bool := !idOk b.id || !b.addr.good || !(b.addr.six == s.addr.six) || b.port == 0 || !weightOk b.weight || b.drained
theorem badB_not (s : Sv) (b : Bk) : badB s b = !canB s b := by
  unfold badB canB
  cases idOk b.id <;> cases b.addr.good <;> cases (b.addr.six == s.addr.six) <;> cases (b.port == 0) <;> cases weightOk b.weight <;> cases b.drained <;> rfl

theorem badB_tail {x : Nat} {T : TypeId} {b : Bk} {w1 : World} (c : Bool) {b0 : Bool} (hc : c = (b0 || b.port == 0 || !weightOk b.weight || b.drained)) (hv : Var w1 x b.c T) {q : Bool → World → Prop} (hq : ∀ w', Ext w1 w' → q c w') :
    Jn (fun k20 : Bool → World → Prop => (b0 = true → k20 true w1) ∧ (b0 = false → ∃ n21 : Int, w1.cell? (Addr.add ⟨x, 0, none⟩ 18) = some (.int .u16 n21) ∧ k20 ((n21 : Int) == 0) w1))
      (fun (b22 : Bool) (w23 : World) => Jn (fun k24 : Bool → World → Prop => (b22 = true → k24 true w23) ∧ (b22 = false → ∃ n25 : Int, w23.cell? (Addr.add ⟨x, 0, none⟩ 19) = some (.int .i64 n25) ∧
          Calls Try.prog F.farm_weight #[.int .i64 n25] w23 fun e27 w26 => ∃ b28 : Bool, e27 = .returned (.bool b28) ∧ k24 (!b28) w26))
        (fun (b29 : Bool) (w30 : World) => Jn (fun k31 : Bool → World → Prop => (b29 = true → k31 true w30) ∧ (b29 = false → ∃ b32 : Bool, w30.cell? (Addr.add ⟨x, 0, none⟩ 20) = some (.bool b32) ∧ k31 b32 w30))
          (fun (b33 : Bool) (w34 : World) => q b33 w34))) := by
  subst hc
  refine jnOr (b.port == 0) (fun _ q hq => ⟨_, (bcell hv).2.2.1, hq _ (.refl _ _)⟩) fun w2 hx2 => ?_
  have hv2 := hv.ext hx2
  refine jnOr (!weightOk b.weight) (fun _ q hq => ⟨_, (bcell hv2).2.2.2.1, (farm_weight _ w2).use ?_⟩) fun w3 hx3 => ?_
  · rintro _ _ ⟨rfl, rfl⟩
    exact ⟨_, rfl, hq _ (.refl _ _)⟩
  have hv3 := hv2.ext hx3
  exact jnOr b.drained (fun _ q hq => ⟨_, (bcell hv3).2.2.2.2, hq _ (.refl _ _)⟩) fun w4 hx4 => hq _ (Ext.trans hx2 (Ext.trans hx3 hx4))

theorem farm_AddBackend (h : FarmAt w fm R) (sid : Int) (b : Bk) : Ret Try.prog F.farm_Farm_AddBackend #[.pointer (some ⟨fm.p, 0, none⟩), .int .i64 sid, .agg b.c.toArray] w (fun v w' => Step fm R w (addBackend (absR R) sid b) v w') := by
  refine W.farm_Farm_AddBackend_ok (some ⟨fm.p, 0, none⟩) sid _ w _ ?_
  unfold W.farm_Farm_AddBackend
  refine nxVar (vs := b.c) rfl fun w1 hv hx1 hs1 => ⟨fun hn => by simp at hn, fun _ => ?_⟩
  have h1 := h.ext hx1
  obtain ⟨p4, hl, hp4⟩ := h1.look sid
  refine ⟨_, rfl, _, h1.cells.1, p4, _, w1, hl, fun hb => ?_, fun hb => ?_⟩
  · have hb : hasId R sid = false := by simpa using hb
    have e : addBackend (absR R) sid b = (6, absR R) := by
      unfold addBackend
      rw [find_abs h]
      have : R.find? (fun r => r.s.id == sid) = none := List.find?_eq_none.2 fun x hx => by simpa using hasId_false.1 hb x hx
      rw [this]; rfl
    rw [e]
    exact Step.same h hx1 rfl
  have hb : hasId R sid = true := by simpa using hb
  obtain ⟨r, hr, rfl⟩ := hasId_true.1 hb
  have hp := hp4 r hr rfl
  rw [hp]
  have hab : addBackend (absR R) r.s.id b = if canB r.s b then if hasB r.bs b.id then (7, absR R) else if r.bs.length ≥ 16 then (2, absR R) else (0, updL (absR R) r.s.id (insB b)) else (1, absR R) := by
    unfold addBackend
    rw [find_abs h, find_some h hr]; rfl
  refine ⟨_, (bcell hv).1, (farm_at h1 hr b.id).use ?_⟩
  rintro _ w8 ⟨rfl, hx8⟩
  have hX8 := Ext.trans hx1 hx8
  refine ⟨_, _, rfl, Jn1 (fun c w' => Ext w8 w' ∧ c = badB r.s b) (fun q hq => ?_) ?_⟩
  · have hd : Ext w8 w8.drew := Chg.drew (.refl _ _)
    have hv13 := (hv.ext hx8).ext hd
    refine nx ⟨fun _ => False, id, _, (bcell hv13).1, (farm_id b.id _).use ?_⟩
    rintro _ _ ⟨rfl, rfl⟩
    refine ⟨_, rfl, fun _ => False, fun hi => ?_, fun hi => ⟨id, _, brd hv13, (addr_Good' b.addr _).use ?_⟩⟩
    · refine badB_tail (b0 := true) (badB r.s b) ?_ hv13 fun w' hx => hq _ _ ⟨Ext.trans hd hx, rfl⟩
      unfold badB; rw [hi]; rfl
    rintro _ w36 ⟨rfl, hx36⟩
    have hv36 := hv13.ext hx36
    have hX36 := Ext.trans hd hx36
    refine ⟨_, rfl, hx36, fun hg => ?_, fun hg => ?_⟩
    · refine badB_tail (b0 := true) (badB r.s b) ?_ hv36 fun w' hx => hq _ _ ⟨Ext.trans hX36 hx, rfl⟩
      unfold badB; rw [hi, hg]; rfl
    · have h36 := (h1.ext hx8).ext hX36
      refine ⟨id, _, (bcell hv36).2.1, _, rfl, id, _, (scell (h36.sv r hr)).2.1, ?_⟩
      refine badB_tail (b0 := !(b.addr.six == r.s.addr.six)) (badB r.s b) ?_ hv36 fun w' hx => hq _ _ ⟨Ext.trans hX36 hx, rfl⟩
      unfold badB; rw [hi, hg]; rfl
  rintro _ w73 ⟨hx73, rfl⟩
  rw [badB_not]
  have hX73 := Ext.trans hX8 hx73
  have h73 := h.ext hX73
  refine ⟨fun hc => ?_, fun hc => ⟨fun hh => ?_, fun hh => ⟨_, rfl, r.k, (scell (h73.sv r hr)).2.2.2.2.2.2, fun hl => ?_, fun hl => ?_⟩⟩⟩
  · have hc : canB r.s b = false := by simpa using hc
    rw [hc] at hab
    rw [hab]
    exact Step.same h hX73 rfl
  all_goals have hc : canB r.s b = true := by simpa using hc
  all_goals rw [hc, if_pos rfl] at hab
  · rw [hh, if_pos rfl] at hab
    rw [hab]
    exact Step.same h hX73 rfl
  all_goals rw [hh] at hab
  all_goals simp only [Bool.false_eq_true, if_false] at hab
  all_goals have hbl := BR.len (h73.bk r hr).src
  · have hl : ((r.k.len : Nat) : Int) ≥ 16 := of_decide_eq_true hl
    rw [if_pos (by omega)] at hab
    rw [hab]
    exact Step.same h hX73 rfl
  have hl : ¬ ((r.k.len : Nat) : Int) ≥ 16 := of_decide_eq_false hl
  rw [if_neg (by omega)] at hab
  have hd : Ext w73 w73.drew := Chg.drew (.refl _ _)
  have hX76 := Ext.trans hX73 hd
  have h76 := h.ext hX76
  have hv76 := ((hv.ext hx8).ext hx73).ext hd
  have hw : w.heap.size < w73.drew.heap.size := hv76.lt
  have hxa : Ext w73.drew (w73.drew.alloc (.cells b.c.toArray Ty.api_Backend)) := Chg.alloc (.refl _ _) _
  have hX82 := Ext.trans hX76 hxa
  have h82 := h.ext hX82
  have hbk := h82.bk r hr
  have hsv := h82.sv r hr
  have hnb : ¬ ownB r.k w73.drew.heap.size := fun hq => by have := (h76.bk r hr).lt _ hq; omega
  refine nx ⟨ownB r.k, _, rfl, ?_, r.k, (scell (h76.sv r hr)).2.2.2.2.2.2, ?_, _, hv76.rd b.c_length, ⟨some ⟨w73.drew.heap.size, 0, none⟩, 1, 1⟩, _, buildBk b _, Chg.of_ext hxa, ?_⟩
  · rw [add_mk]; intro hq; exact absurd ((h76.bk r hr).notVar hq (h76.sv r hr)) (by decide)
  · intro hq
    have := (h.bk r hr).lt _ hq
    simp at this
  refine (bk_Insert (v := ⟨some ⟨w73.drew.heap.size, 0, none⟩, 1, 1⟩) (i := posB r.bs b.id) hbk (Src.new _ _ 1 (by rw [b.c_length])) rfl rfl (Blk.new _ _ _) hnb b.plain (bksC_plain _) (by have := posB_le r.bs b.id; omega) (by omega)).use ?_
  rintro _ w83 ⟨s', rfl, ho83, hl83, hc83, hfr83⟩
  have hsv83 : Var w83 r.blk (r.s.c r.k) Ty.api_Service := hsv.chg hc83 fun hq => absurd (hbk.notVar hq hsv) (by decide)
  refine ⟨s', rfl, hc83, _, rfl, ⟨_, (scell hsv83).2.2.2.2.2.2⟩, by rw [add_mk]; exact Blk.frozen hsv83 _ rfl, ?_⟩
  rw [add_mk]
  refine nxSet hsv83 fun w87 hv87 hc87 hs87 => ?_
  have ev : (r.s.c r.k).set (0 + 22) (.slice s'.a s'.len s'.cap) = r.s.c s' := r.s.set22 r.k s'
  rw [ev] at hv87
  have hC : Chg (fun q => q = r.blk ∨ ownB r.k q) (w73.drew.alloc (.cells b.c.toArray Ty.api_Backend)) w87 := (Chg.mono hc83 fun _ _ h => .inr h).trans (Chg.mono hc87 fun _ _ h => .inl h)
  have hnr : ¬ ownB s' r.blk := fun hq => by
    rcases hfr83 _ hq with h1 | h1
    · exact absurd (hbk.notVar h1 hsv) (by decide)
    · have := hsv.lt; omega
  have ho87 : OwnS 21 Ty.api_Backend w87 s' (bksC (insB b r.bs)) := by
    have := ho83.chg hc87 (fun q hq e => by subst e; exact hnr hq)
    unfold insB
    rw [bksC_app, bksC_app, bksC_one, ← bksC_take, ← bksC_drop]
    exact this
  rw [hab]
  obtain ⟨R', g1, g2, g3⟩ := h82.set hr hC hv87 ho87 (insB_rise (h.rise r hr) hh) (by rw [insB_length]; omega) hfr83
  refine Step.trans_ext hX82 ⟨rfl, R', g1, ?_, Chg.mono hC fun q _ hq => sub_foot hr q hq, g3⟩
  rw [g2, updL_abs h hr rfl (insB b)]

end Go.Proofs.Ytldeegpcldhjaaa
