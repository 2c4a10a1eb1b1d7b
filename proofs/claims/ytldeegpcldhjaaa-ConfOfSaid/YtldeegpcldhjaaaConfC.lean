/- The farm: its two maps and its services in memory; New, AddService, DropService. -/
import Derived.Test.YtldeegpcldhjaaaConfB
namespace Go.Proofs.Ytldeegpcldhjaaa
open Go Gx

theorem infoZ {P : Program} {T : TypeId} {z : Value} (h : (P.info? T).bind (·.zero) = some z) : ∃ i, P.info? T = some i ∧ i.zero = some z := by
  cases hi : P.info? T with
  | none => rw [hi] at h; cases h
  | some i => rw [hi] at h; exact ⟨i, rfl, h⟩

theorem Dr.c_inj {a b : Dr} (h : a.c = b.c) : a = b := by
  simp only [Dr.c] at h
  obtain ⟨h1, h2⟩ := List.append_inj h (by simp [Ad.c_length])
  have h3 := Ad.c_inj h1
  cases a; cases b
  simp_all
theorem Dr.okCs (d : Dr) : Gx.okCs ((.bool :: bytesL 16) ++ [.int .u16, .int .u8]) d.c := okCs_mk d.addr.okCs ⟨_, _, rfl, ⟨_, rfl⟩, _, _, rfl, ⟨_, rfl⟩, rfl⟩
theorem eqDr (a b : Dr) : AggEq Try.prog Ty.farm_door a.c.toArray b.c.toArray (decide (a = b)) := by
  have h := AggEq.flat (P := Try.prog) (T := Ty.farm_door) (d := (Try.prog.underlying Ty.farm_door).get (by kernel_rfl)) (ls := (.bool :: bytesL 16) ++ [.int .u16, .int .u8]) (Option.some_get _).symm (by kernel_rfl) (by kernel_rfl) (by kernel_rfl) a.okCs b.okCs
  have e : eqVs a.c b.c = decide (a = b) := by
    rw [Bool.eq_iff_iff, eqVs_iff a.okCs b.okCs, decide_eq_true_eq]
    exact ⟨Dr.c_inj, fun h => by rw [h]⟩
  rwa [e] at h
/-- A value without parts, which is like itself. -/
def Bare : Value → Prop
  | .bool _ => True
  | .int _ _ => True
  | .pointer _ => True
  | _ => False
theorem sameBits_bare (n : Nat) : ∀ v, Bare v → Instr.sameBits n v v = true := by
  intro v hv
  cases v <;> simp only [Bare] at hv <;> cases n <;> simp [Instr.sameBits]
theorem sameBits_agg (n : Nat) (l : List Value) (h : ∀ v ∈ l, Bare v) : Instr.sameBits (n + 1) (.agg l.toArray) (.agg l.toArray) = true := by
  have : ∀ l : List Value, (∀ v ∈ l, Bare v) → ((l.zip l).all fun (x, y) => Instr.sameBits n x y) = true := by
    intro l
    induction l with
    | nil => intro _; rfl
    | cons v l ih =>
      intro h
      simp only [List.zip_cons_cons, List.all_cons, Bool.and_eq_true]
      exact ⟨sameBits_bare n v (h v (by simp)), ih fun u hu => h u (by simp [hu])⟩
  show ((l.toArray.size == l.toArray.size) && _) = true
  rw [beq_self_eq_true, Bool.true_and]
  exact this l h
theorem u8s_bare (l : List UInt8) : ∀ v ∈ u8s l, Bare v := by
  intro v hv
  obtain ⟨b, _, rfl⟩ := List.mem_map.1 hv
  trivial
theorem Dr.bare (d : Dr) : ∀ v ∈ d.c, Bare v := by
  intro v hv
  rcases List.mem_append.1 hv with hv | hv
  · rcases List.mem_cons.1 hv with rfl | hv
    · trivial
    · exact u8s_bare _ v hv
  · simp only [List.mem_cons, List.not_mem_nil, or_false] at hv
    rcases hv with rfl | rfl <;> trivial
theorem checkDr (b : Bool) (d : Dr) (w : World) : (Instr.checkKey b 10000 Ty.farm_door (.agg d.c.toArray)).run Try.prog w = .ok () w := by
  obtain ⟨⟨six, l, h⟩, port, proto⟩ := d
  obtain ⟨x0, x1, x2, x3, x4, x5, x6, x7, x8, x9, x10, x11, x12, x13, x14, x15, rfl⟩ := list16 l h
  kernel_rfl
abbrev encI : Int → Value := fun n => .int .i64 n
abbrev encD : Dr → Value := fun d => .agg d.c.toArray
theorem keyI : KeyT Try.prog Ty.int encI := KeyT.int (by kernel_rfl)
theorem keyD : KeyT Try.prog Ty.farm_door encD :=
  KeyT.agg (d := (Try.prog.underlying Ty.farm_door).get (by kernel_rfl)) (Option.some_get _).symm (by kernel_rfl) (fun a b w => (eqDr a b).2 w) checkDr (fun d => sameBits_agg 9999 d.c d.bare)

/-! ### The farm in memory -/
structure Rec where
  s : Sv
  bs : List Bk
  blk : Nat
  k : Sl
structure Fm where
  p : Nat
  m1 : Nat
  m2 : Nat
def Rec.e1 (r : Rec) : Int × Value := (r.s.id, .pointer (some ⟨r.blk, 0, none⟩))
def Rec.e2 (r : Rec) : Dr × Value := (r.s.door, .int .i64 r.s.id)
structure FarmAt (w : World) (fm : Fm) (R : List Rec) : Prop where
  v : Var w fm.p [.map (some fm.m1), .map (some fm.m2)] Ty.farm_Farm
  k1 : MapK w fm.m1 encI (R.map Rec.e1)
  k2 : MapK w fm.m2 encD (R.map Rec.e2)
  ne : fm.m1 ≠ fm.m2
  sv : ∀ r ∈ R, Var w r.blk (r.s.c r.k) Ty.api_Service
  bk : ∀ r ∈ R, OwnS 21 Ty.api_Backend w r.k (bksC r.bs)
  rise : ∀ r ∈ R, Rise r.bs
  few : ∀ r ∈ R, r.bs.length ≤ 16
  ids : R.Pairwise fun a b => a.s.id < b.s.id
  len : R.length ≤ 8
  apart : ∀ a ∈ R, ∀ b ∈ R, a.s.id ≠ b.s.id → a.blk ≠ b.blk ∧ ∀ q, ownB a.k q → ¬ ownB b.k q
def foot (fm : Fm) (R : List Rec) (q : Nat) : Prop := q = fm.p ∨ q = fm.m1 ∨ q = fm.m2 ∨ ∃ r ∈ R, q = r.blk ∨ ownB r.k q

variable {w w' : World} {fm : Fm} {R : List Rec} {r : Rec}

theorem Var.inj {b : Nat} {vs us : List Value} {T T' : TypeId} (h : Var w b vs T) (h' : Var w b us T') : T = T' := (Blk.inj h h').2
theorem FarmAt.chg {W : Nat → Prop} (h : FarmAt w fm R) (hc : Chg W w w') (hn : ∀ q, foot fm R q → ¬ W q) : FarmAt w' fm R :=
  ⟨h.v.chg hc (hn _ (.inl rfl)), h.k1.chg hc (hn _ (.inr (.inl rfl))), h.k2.chg hc (hn _ (.inr (.inr (.inl rfl)))), h.ne,
   fun r hr => (h.sv r hr).chg hc (hn _ (.inr (.inr (.inr ⟨r, hr, .inl rfl⟩)))), fun r hr => (h.bk r hr).chg hc fun q hq => hn _ (.inr (.inr (.inr ⟨r, hr, .inr hq⟩))),
   h.rise, h.few, h.ids, h.len, h.apart⟩
theorem FarmAt.ext (h : FarmAt w fm R) (hc : Ext w w') : FarmAt w' fm R := h.chg hc fun _ _ h => h
theorem FarmAt.lt (h : FarmAt w fm R) {q : Nat} (hq : foot fm R q) : q < w.heap.size := by
  rcases hq with rfl | rfl | rfl | ⟨r, hr, rfl | hq⟩
  · exact h.v.lt
  · exact h.k1.lt
  · exact h.k2.lt
  · exact (h.sv r hr).lt
  · exact (h.bk r hr).lt q hq
theorem FarmAt.uniq (h : FarmAt w fm R) {a b : Rec} (ha : a ∈ R) (hb : b ∈ R) (he : a.s.id = b.s.id) : a = b := by
  obtain ⟨i, hi, rfl⟩ := List.getElem_of_mem ha
  obtain ⟨j, hj, rfl⟩ := List.getElem_of_mem hb
  have := List.pairwise_iff_getElem.1 h.ids
  rcases Nat.lt_trichotomy i j with hij | hij | hij
  · have := this i j hi hj hij; omega
  · subst hij; rfl
  · have := this j i hj hi hij; omega

theorem FarmAt.cells (h : FarmAt w fm R) : w.cell? ⟨fm.p, 0, none⟩ = some (.map (some fm.m1)) ∧ w.cell? (Addr.add ⟨fm.p, 0, none⟩ 1) = some (.map (some fm.m2)) := by
  rw [add_mk]
  exact ⟨h.v.cell, h.v.cell⟩
theorem mapT1 : Try.prog.underlying Ty.map_int_P_api_Service = some (.map Ty.int Ty.P_api_Service) := by kernel_rfl
theorem mapT2 : Try.prog.underlying Ty.map_farm_door_int = some (.map Ty.farm_door Ty.int) := by kernel_rfl
theorem zeroPS : (Try.prog.info? Ty.P_api_Service).bind (·.zero) = some (.pointer none) := by kernel_rfl
theorem zeroInt : (Try.prog.info? Ty.int).bind (·.zero) = some (.int .i64 0) := by kernel_rfl

def hasId (R : List Rec) (id : Int) : Bool := R.any fun r => r.s.id == id
def hasDoor (R : List Rec) (d : Dr) : Bool := R.any fun r => decide (r.s.door = d)
theorem hasId_true {id : Int} : hasId R id = true ↔ ∃ r ∈ R, r.s.id = id := by simp [hasId]
theorem hasId_false {id : Int} : hasId R id = false ↔ ∀ r ∈ R, r.s.id ≠ id := by simp [hasId]
theorem hasDoor_true {d : Dr} : hasDoor R d = true ↔ ∃ r ∈ R, r.s.door = d := by simp [hasDoor]
theorem hasDoor_false {d : Dr} : hasDoor R d = false ↔ ∀ r ∈ R, r.s.door ≠ d := by simp [hasDoor]

theorem FarmAt.look (h : FarmAt w fm R) (id : Int) : ∃ p : Option Addr, Sem.run Try.prog (Instr.lookup Ty.map_int_P_api_Service (.map (some fm.m1)) (.int .i64 id) true) w = .ok (.tuple #[.pointer p, .bool (hasId R id)]) w ∧ (∀ r ∈ R, r.s.id = id → p = some ⟨r.blk, 0, none⟩) := by
  cases hh : hasId R id with
  | true =>
    obtain ⟨r, hr, rfl⟩ := hasId_true.1 hh
    exact ⟨some ⟨r.blk, 0, none⟩, h.k1.lookup_some keyI mapT1 (k := r.s.id) (v := .pointer (some ⟨r.blk, 0, none⟩)) (List.mem_map.2 ⟨r, hr, rfl⟩) true, fun r' hr' he => by rw [h.uniq hr' hr he]⟩
  | false =>
    have hn := hasId_false.1 hh
    obtain ⟨i, hi, hz⟩ := infoZ zeroPS
    exact ⟨none, h.k1.lookup_none keyI mapT1 hi hz (fun v hv => by
      obtain ⟨r, hr, he⟩ := List.mem_map.1 hv
      simp only [Rec.e1, Prod.mk.injEq] at he
      exact hn r hr he.1) true, fun r hr he => absurd he (hn r hr)⟩
theorem FarmAt.lookD (h : FarmAt w fm R) (d : Dr) : ∃ n : Int, Sem.run Try.prog (Instr.lookup Ty.map_farm_door_int (.map (some fm.m2)) (.agg d.c.toArray) true) w = .ok (.tuple #[.int .i64 n, .bool (hasDoor R d)]) w := by
  cases hh : hasDoor R d with
  | true =>
    obtain ⟨r, hr, rfl⟩ := hasDoor_true.1 hh
    exact ⟨r.s.id, h.k2.lookup_some keyD mapT2 (k := r.s.door) (v := .int .i64 r.s.id) (List.mem_map.2 ⟨r, hr, rfl⟩) true⟩
  | false =>
    have hn := hasDoor_false.1 hh
    obtain ⟨i, hi, hz⟩ := infoZ zeroInt
    exact ⟨0, h.k2.lookup_none keyD mapT2 hi hz (fun v hv => by
      obtain ⟨r, hr, he⟩ := List.mem_map.1 hv
      simp only [Rec.e2, Prod.mk.injEq] at he
      exact hn r hr he.1) true⟩

theorem farm_New (w : World) : Ret Try.prog F.farm_New #[] w (fun v w' => ∃ fm : Fm, v = .pointer (some ⟨fm.p, 0, none⟩) ∧ FarmAt w' fm [] ∧ Ext w w' ∧ ∀ q, foot fm [] q → w.heap.size ≤ q) := by
  refine W.farm_New_ok w _ ?_
  unfold W.farm_New
  obtain ⟨g1, g2⟩ := MapK.make (P := Try.prog) (enc := encI) Ty.map_int_P_api_Service w
  obtain ⟨g3, g4⟩ := MapK.make (P := Try.prog) (enc := encD) Ty.map_farm_door_int (w.alloc (.map #[] 0))
  have x1 : Ext w (w.alloc (.map #[] 0)) := Chg.alloc (.refl _ _) _
  have x2 : Ext (w.alloc (.map #[] 0)) ((w.alloc (.map #[] 0)).alloc (.map #[] 0)) := Chg.alloc (.refl _ _) _
  refine ⟨some w.heap.size, _, g1, some (w.alloc (.map #[] 0)).heap.size, _, g3, nxVar (vs := [.map (some w.heap.size), .map (some (w.alloc (.map #[] 0)).heap.size)]) rfl fun w5 hv hx5 hs5 => ?_⟩
  have hs : (w.alloc (.map #[] 0)).heap.size = w.heap.size + 1 := by simp
  have hs2 : ((w.alloc (.map #[] 0)).alloc (.map #[] 0)).heap.size = w.heap.size + 2 := by simp
  refine ⟨⟨_, w.heap.size, (w.alloc (.map #[] 0)).heap.size⟩, rfl, ⟨hv, (g2.ext x2).ext hx5, g4.ext hx5, by show w.heap.size ≠ (w.alloc (.map #[] 0)).heap.size; rw [hs]; omega, by simp, by simp, by simp, by simp, by simp, by simp, by simp⟩, Ext.trans (Ext.trans x1 x2) hx5, ?_⟩
  rintro q (rfl | rfl | rfl | ⟨r, hr, _⟩)
  · show w.heap.size ≤ ((w.alloc (.map #[] 0)).alloc (.map #[] 0)).heap.size; omega
  · exact Nat.le_refl _
  · show w.heap.size ≤ (w.alloc (.map #[] 0)).heap.size; omega
  · cases hr

end Go.Proofs.Ytldeegpcldhjaaa
