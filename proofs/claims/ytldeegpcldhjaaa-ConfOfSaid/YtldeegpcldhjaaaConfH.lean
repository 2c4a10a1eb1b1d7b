/- The farm: IDs, Service; the farm's services, told. -/
import Derived.Test.YtldeegpcldhjaaaConfG
import Derived.Test.YtldeegpcldhjaaaSh
namespace Go.Proofs.Ytldeegpcldhjaaa
open Go Gx

variable {w w' : World} {fm : Fm} {R : List Rec} {r : Rec}

theorem Ext.of_below (h : Go.RowKit.Below w.heap.size w w') : Ext w w' := ⟨h.os, h.tape, h.output, h.size, fun k hk _ => h.block k hk⟩
theorem OwnS.of_row {sz : Nat} {T : TypeId} {base : Nat} {v : Value} {n : Nat} {xs : List Value} (h : w.ownsRow base T sz v n xs) : ∃ s : Sl, v = .slice s.a s.len s.cap ∧ OwnS sz T w s xs ∧ s.len = n ∧ ∀ q, ownB s q → base ≤ q := by
  obtain ⟨h1, ⟨rfl, rfl⟩ | ⟨g, cap, cur, rfl, hb, hg, h2, h3, h4, h5⟩⟩ := h
  · have : xs = [] := List.length_eq_zero_iff.1 (by omega)
    subst this
    exact ⟨⟨none, 0, 0⟩, rfl, OwnS.none _ _ _, rfl, fun q hq => (ownB_none q hq).elim⟩
  · refine ⟨⟨some ⟨g, 0, none⟩, n, cap⟩, rfl, OwnS.mk' hg h1 h2 h3 h4 h5, rfl, fun q hq => ?_⟩
    rw [← ownB_some.1 hq]; exact hb

/-- An int map, as the library's contracts speak of it. -/
def RU : Value → Option (DataW Unit × List MemPlace) := fun _ => some (.lit (.bool true), [])
theorem ownsInt {q : Nat} {M : List (Int × Value)} (h : MapK w q encI M) (hM : M.length ≤ 1000000) (hr : ∀ x ∈ M, -9223372036854775808 ≤ x.1 ∧ x.1 ≤ 9223372036854775807) :
    ∃ D : DataW Unit, w.ownsMap Try.prog Ty.int RU q M.length D ∧ (intKeys D).Perm (M.map (·.1)) ∧ Maps.size D = M.length := by
  obtain ⟨L, clk, hb, h1, h2, h3, h4⟩ := h
  have hl : L.length = M.length := by rw [← h1.length_eq, List.length_map]
  have hk : ∀ x ∈ L, -9223372036854775808 ≤ x.1 ∧ x.1 ≤ 9223372036854775807 := fun x hx => hr (kvM x) (h1.mem_iff.1 (List.mem_map.2 ⟨x, hx, rfl⟩))
  have hrd : ∀ x ∈ L, Go.WideElems.rd Try.prog Ty.int RU (entM encI x) = some (.int .i64 x.1, .lit (.bool true)) := fun x hx => by
    have hw : (Lit.int .i64 x.1).wf = true := by
      have := hk x hx
      simp [Lit.wf, IntKind.min, IntKind.max, IntKind.signed, IntKind.bits]; omega
    exact Go.WideElems.rd_mk (R := RU) (yv := (.lit (.bool true), [])) (Maps.keyOf_int_mk (k := Ty.int) (by kernel_rfl) hw) rfl
  have hmp : ((L.map (entM encI)).map (Go.WideElems.rg Try.prog Ty.int RU)) = L.map fun x => (Lit.int .i64 x.1, DataW.lit (.bool true)) := by
    rw [List.map_map]
    refine List.map_congr_left fun x hx => ?_
    have := Go.WideElems.rg_of (hrd x hx)
    simp only [Function.comp_apply]
    exact this
  have hF : Go.WideElems.Fit Try.prog Ty.int RU (L.map (entM encI)).toArray clk := by
    refine ⟨by simp [hl]; unfold maxLen; omega, ⟨fun x hx => ?_, ?_, ?_⟩, fun x hx => ?_⟩
    · obtain ⟨y, hy, rfl⟩ := List.mem_map.1 (by simpa using hx : x ∈ L.map (entM encI))
      exact h4 y hy
    · simp only [List.map_map]
      exact h3
    · simp only [List.map_map]
      have : ((fun e : MapEntry => e.key) ∘ entM encI) = fun x : Int × Value × Nat => encI x.1 := rfl
      show (L.map ((fun e : MapEntry => e.key) ∘ entM encI)).Nodup
      rw [this]
      have e : (L.map fun x : Int × Value × Nat => encI x.1) = (L.map (·.1)).map encI := by rw [List.map_map]; rfl
      rw [e]
      exact List.Pairwise.map encI (fun a b hab he => hab (by cases he; rfl)) h2
    · obtain ⟨y, hy, rfl⟩ := List.mem_map.1 (by simpa using hx : x ∈ L.map (entM encI))
      exact ⟨_, hrd y hy⟩
  have hsp := Go.WideShapes.sorted_perm (L.map fun x => (Lit.int .i64 x.1, (DataW.lit (.bool true) : DataW Unit)))
  refine ⟨_, ⟨_, clk, hb, hF, by simp [hl], rfl⟩, ?_, ?_⟩
  · simp only [hmp]
    show (List.map (fun p : Lit × DataW Unit => Go.intOf p.1) _).Perm _
    refine (hsp.map _).trans ?_
    rw [List.map_map]
    have := h1.map (·.1)
    rw [List.map_map] at this
    exact this
  · simp only [hmp]
    show List.length _ = _
    rw [hsp.length_eq, List.length_map, hl]

theorem sorts_in (m : Nat) : AnyZI.SortsIn Try.prog sortedA_ren Fence.wide m :=
  ⟨fun blk off cap ss W hH hblk hsz => callsIn_wide.2 (AnyM.slices_Sort_int sortA blk off cap ss W hH hblk hsz), fun p cap W => callsIn_wide.2 (AnyM.slices_Sort_int_none sortA p cap W)⟩

/-- slices.Sorted(maps.Keys(m)). -/
theorem sortedKeys {q : Nat} {M : List (Int × Value)} (h : MapK w q encI M) (hM : M.length ≤ 1000000) (hr : ∀ x ∈ M, -9223372036854775808 ≤ x.1 ∧ x.1 ≤ 9223372036854775807) :
    Ret Try.prog F.slices_Sorted_int #[.func (.func F.maps_Keys_map_int_P_api_Service_int_P_api_Service_1) #[] #[.pointer (some ⟨w.heap.size, 0, none⟩)]] (w.alloc (.cells #[.map (some q)] Ty.map_int_P_api_Service))
      (fun v w' => ∃ (s : Sl) (ids : List Int), v = .slice s.a s.len s.cap ∧ OwnS 1 Ty.int w' s (ids.map encI) ∧ s.len = ids.length ∧ ids.Perm (M.map (·.1)) ∧ ids.Pairwise (fun a b => decide (a ≤ b) = true) ∧ Ext w w' ∧ ∀ k, ownB s k → w.heap.size ≤ k) := by
  have hx1 : Ext w (w.alloc (.cells #[.map (some q)] Ty.map_int_P_api_Service)) := Chg.alloc (.refl _ _) _
  have hs1 : (w.alloc (.cells #[.map (some q)] Ty.map_int_P_api_Service)).heap.size = w.heap.size + 1 := by simp
  obtain ⟨D, hown, hperm, hsz⟩ := ownsInt (h.ext hx1) hM hr
  have hseq := AnyZI.keys_gives (ρ := keysA_ren) { keysA with } Fence.wide 2 trivial rfl (by omega) w.heap.size q M.length D (w.alloc (.cells #[.map (some q)] Ty.map_int_P_api_Service)) (by omega) (by simp) hown
  have cS := AnyZI.sorted_in sortedA Fence.wide 5 trivial trivial trivial trivial rfl (by omega) (sorts_in _) (enters_of Try.func61 (by kernel_rfl) rfl) F.maps_Keys_map_int_P_api_Service_int_P_api_Service_1 #[.pointer (some ⟨w.heap.size, 0, none⟩)] trivial (enters_of Try.func62 (by kernel_rfl) rfl) _ _ (by rw [hsz]; unfold maxLen; omega) (by rw [hsz]; omega) _ hseq
  have cS' := callsIn_wide.1 (cS.mono (R' := fun e w' => ∃ v, e = .returned v ∧ ∃ (s : Sl) (ids : List Int), v = .slice s.a s.len s.cap ∧ OwnS 1 Ty.int w' s (ids.map encI) ∧ s.len = ids.length ∧ ids.Perm (M.map (·.1)) ∧ ids.Pairwise (fun a b => decide (a ≤ b) = true) ∧ Ext w w' ∧ ∀ k, ownB s k → w.heap.size ≤ k) ?_)
  · exact cS'
  · rintro e w2 ⟨v, ss, rfl, hS, hrow, _, hb⟩
    obtain ⟨s, rfl, ho, hl, hfr⟩ := OwnS.of_row hrow
    refine ⟨_, rfl, s, ss.mergeSort (fun x y => decide (x ≤ y)), rfl, ho, by rw [hl, List.length_mergeSort], ?_, ?_, Ext.trans hx1 (Ext.of_below hb), fun k hk => by have := hfr k hk; omega⟩
    · exact (List.mergeSort_perm _ _).trans (hS.trans hperm)
    · exact List.pairwise_mergeSort (fun a b c h1 h2 => by simp only [decide_eq_true_eq] at *; omega) (fun a b => by simp only [Bool.or_eq_true, decide_eq_true_eq]; omega) ss

theorem ids_unique : ∀ {a b : List Int}, a.Perm b → a.Pairwise (fun x y => decide (x ≤ y) = true) → b.Pairwise (fun x y => x < y) → a = b := by
  intro a b hp ha hb
  refine hp.eq_of_pairwise (le := fun x y => x ≤ y) (fun x y _ _ h1 h2 => by omega) (ha.imp fun h => of_decide_eq_true h) (hb.imp fun h => by omega)

theorem farm_IDs (h : FarmAt w fm R) (hok : ∀ r ∈ R, idOk r.s.id = true) : Ret Try.prog F.farm_Farm_IDs #[.pointer (some ⟨fm.p, 0, none⟩)] w
    (fun v w' => ∃ s : Sl, v = .slice s.a s.len s.cap ∧ OwnS 1 Ty.int w' s ((R.map fun r => r.s.id).map encI) ∧ s.len = R.length ∧ Ext w w' ∧ ∀ k, ownB s k → w.heap.size ≤ k) := by
  refine W.farm_Farm_IDs_ok (some ⟨fm.p, 0, none⟩) w _ ?_
  unfold W.farm_Farm_IDs
  refine ⟨fun hn => by simp at hn, fun _ => ⟨_, rfl, _, h.cells.1, ?_⟩⟩
  refine Calls.mono (W.maps_Keys_map_int_P_api_Service_int_P_api_Service_ok (some fm.m1) w (fun v w' => v = .func (.func F.maps_Keys_map_int_P_api_Service_int_P_api_Service_1) #[] #[.pointer (some ⟨w.heap.size, 0, none⟩)] ∧ w.alloc (.cells #[.map (some fm.m1)] Ty.map_int_P_api_Service) = w') ⟨rfl, rfl⟩) ?_
  rintro _ _ ⟨_, rfl, rfl, rfl⟩
  refine ⟨⟨F.maps_Keys_map_int_P_api_Service_int_P_api_Service_1, #[], #[.pointer (some ⟨w.heap.size, 0, none⟩)]⟩, rfl, (sortedKeys h.k1 (by rw [List.length_map]; have := h.len; omega) (fun x hx => ?_)).use ?_⟩
  · obtain ⟨r, hr, rfl⟩ := List.mem_map.1 hx
    have := hok r hr
    unfold idOk at this
    simp only [Bool.and_eq_true, decide_eq_true_eq] at this
    show _ ≤ r.s.id ∧ r.s.id ≤ _
    omega
  · rintro _ w2 ⟨s, ids, rfl, ho, hl, hp, hpw, hx, hfr⟩
    have e1 : (R.map Rec.e1).map (·.1) = R.map fun r => r.s.id := by rw [List.map_map]; rfl
    rw [e1] at hp
    have : ids = R.map fun r => r.s.id := ids_unique hp hpw (by rw [List.pairwise_map]; exact h.ids)
    subst this
    exact ⟨s, rfl, s, rfl, ho, by rw [hl, List.length_map], hx, hfr⟩

end Go.Proofs.Ytldeegpcldhjaaa
