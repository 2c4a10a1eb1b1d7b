/- Contracts of the functions that the statement reaches, and the plain laws over them; each theorem stands with its conditions. -/
import Derived.OpenShut
import Derived.Test.YtplieiecebljmaaGreatRows
import Derived.Test.YtplieiecebljmaaGreatBNone2
namespace Go.Proofs.YtplieiecebljmaaGreat
open Go Gx
theorem fold_spl : ∀ (l : List Value) (k : Nat) (arr : Array Value), (l.zipIdx k).foldl (fun cs (p : Value × Nat) => cs.setIfInBounds p.2 p.1) arr = spl arr k l
 | [], _, _ => rfl
 | v :: l, k, arr => by
   rw [List.zipIdx_cons, List.foldl_cons]
   exact fold_spl l (k + 1) (arr.setIfInBounds k v)
theorem run_buildOne {P : Program} {T e : TypeId} {d : TypeDesc} {i : TypeInfo} {z : Value} {sz : Nat} {cs : Array Value} (w : World) (h1 : P.underlying T = some (.slice e)) (h2 : P.underlying e = some d) (h3 : P.cellsOf e = sz) (hi : P.info? e = some i) (hzz : i.zero = some z) (hcs : cs.size = sz) (hs0 : sz ≠ 0) (hle : sz ≤ 16777216) :
   Sem.run P (Instr.buildSlice T 1 #[(0, .agg cs)]) w = .ok (.slice (some ⟨w.heap.size, 0, none⟩) 1 1) (w.alloc (.cells cs e)) := by
 have hz := run_sizeOf' (P := P) (w := w) h2
 rw [h3] at hz
 have hfill : Instr.fill (fun i => some (i * sz, sz)) ((Array.range (1 * sz)).map fun x => z.cells[x % z.cells.size]!) [(0, .agg cs)] = some cs := by
   have hc : (Value.agg cs).cells = cs := rfl
   rw [Instr.fill]
   simp only [hc]
   rw [if_neg (by simp [hcs]), Instr.fill]
   rw [← Array.foldl_toList, Array.toList_zipIdx]
   have e : (fun (cs : Array Value) (x : Value × Nat) => match x with | (c, j) => cs.setIfInBounds (0 * sz + j) c) = fun cs (p : Value × Nat) => cs.setIfInBounds p.2 p.1 := by
     funext cs x
     obtain ⟨c, j⟩ := x
     simp
   rw [e, fold_spl]
   congr 1
   apply Array.toList_inj.1
   rw [toList_spl _ _ _ (by simp [hcs])]
   simp [hcs]
 have hti := run_typeInfo' (w := w) hi
 have hn : ¬ (1 * sz > 2 ^ 24) := by
   have : (2 : Nat) ^ 24 = 16777216 := rfl
   omega
 have hn0 : ¬ (1 * sz = 0) := by omega
 have hf2 : Instr.fill (fun i => some (i * sz, sz)) ((Array.range (1 * sz)).map fun x => z.cells[x % z.cells.size]!) (#[(0, Value.agg cs)] : Array (Nat × Value)).toList = some cs := hfill
 simp only [Instr.buildSlice, Sem.run_bind, run_underlying' h1, hz, Result.andThen, hn, hn0, if_false, zeroValue, hti, hzz, Sem.run_pure, hf2]
 simp [newRow, newObj, Sem.run]
theorem buildSec (w : World) (l : Sec) (hl : l.length = 256) :
   Sem.run Tryz.prog (Instr.buildSlice Ty.Sl_dev_sector 1 #[(0, .agg (u8s l).toArray)]) w = .ok (.slice (some ⟨w.heap.size, 0, none⟩) 1 1) (w.alloc (.cells (u8s l).toArray Ty.dev_sector)) := by
 have h : ((Tryz.prog.info? Ty.dev_sector).bind (·.zero)).isSome = true := by kernel_rfl
 obtain ⟨z, hz⟩ := Option.isSome_iff_exists.1 h
 obtain ⟨i, hi, hzz⟩ := infoZ' hz
 exact run_buildOne (d := .array 256 Ty.uint8) (sz := 256) w (by kernel_rfl) (by kernel_rfl) (by kernel_rfl) hi hzz (by rw [List.size_toArray, u8s_length, hl]) (by decide) (by decide)
theorem appSec : AppT Tryz.prog Ty.Sl_dev_sector Ty.dev_sector 256 256 := ⟨by kernel_rfl⟩
def Dv.put (D : Dv) (i : Nat) (s : Sl) (l : Sec) : Dv :=
 { D.burn 2 with waits := ⟨i, s, D.secsAt i ++ [l]⟩ :: D.waits.filter (fun x => x.i != i), writes := IntKind.wrap .i64 (D.writes + 1), ld := D.ld + 1 }
theorem find_filter {D : Dv} {i j : Nat} (h : j ≠ i) : (D.waits.filter fun x => x.i != i).find? (fun x => x.i == j) = D.waits.find? fun x => x.i == j := by
 rw [List.find?_filter]
 congr 1
 funext x
 by_cases e : x.i = j
 · rw [e]; simp [h]
 · simp [e]
theorem put_now (D : Dv) (i : Nat) (s : Sl) (l : Sec) (j : Nat) : (D.put i s l).now j = if j = i then l else D.now j := by
 unfold Dv.now Dv.put
 by_cases h : j = i
 · subst h
   simp
 · rw [if_neg h]
   simp only
   rw [List.find?_cons_of_neg (by simp; omega), find_filter h]
   rfl
def WriteR (D : Dv) (i : Nat) (l : Sec) (w : World) (v : Value) (w' : World) : Prop :=
 (D.burns 2 = true ∧ v = .int .i64 3 ∧ DevAt w' (D.burn 2) ∧ Chg (fun q => q = D.d) w w') ∨
 (D.burns 2 = false ∧ v = .int .i64 0 ∧ ∃ s : Sl, DevAt w' (D.put i s l) ∧ Chg (fpD D) w w' ∧ ∀ q, ownB s q → fpD D q ∨ w.heap.size ≤ q)
theorem dev_Write {w : World} {D : Dv} {b : Sl} {l : Sec} (h : DevAt w D) {i : Nat} (hi : i < D.n) (hld : D.ld ≤ 1000000000) (hb : Src 1 w b (u8s l)) (hl : l.length = 256) (hd : ∀ q, ownB b q → ¬ fpD D q) :
   Ret Tryz.prog F.dev_Device_Write #[.pointer (some ⟨D.d, 0, none⟩), .int .i64 ((i : Nat) : Int), .slice b.a b.len b.cap] w (WriteR D i l w) := by
 have hbl := len8 hb
 have hn2 := h.n2
 refine W.dev_Device_Write_ok (some ⟨D.d, 0, none⟩) ((i : Nat) : Int) b w _ ?_
 (delta W.dev_Device_Write c3 Br T13 r2 st wI; dsimp only)
 refine (dev_has h _).use ?_
 rintro _ _ ⟨rfl, rfl⟩
 have hin : decide (0 ≤ (i : Int) ∧ (i : Int) < D.n) = true := decide_eq_true ⟨by omega, by omega⟩
 refine ⟨_, rfl, fun h1 => ?_, fun _ => ⟨_, rfl, (dev_burns h (k := 2) (by decide)).use ?_⟩⟩
 · rw [hin, hbl, hl] at h1
   simp at h1
 rintro _ w2 ⟨rfl, hd2, hc2, hz2⟩
 refine ⟨_, rfl, fun hb1 => .inl ⟨hb1, rfl, hd2, hc2⟩, fun hb1 => nx ?_⟩
 obtain ⟨old, hold⟩ : ∃ old : Sl, (match D.waits.find? fun x => x.i == i with | some x => x.s | none => ⟨none, 0, 0⟩) = old := ⟨_, rfl⟩
 have hd3 := hd2.ext (ext_drew w2)
 have hb3 : Src 1 w2.drew b (u8s l) := (hb.chg hc2 fun q hq e => hd q hq (.inl e)).ext (ext_drew w2)
 -- the row that waits
 have hso : OwnS 256 Ty.dev_sector w2.drew old (fl u8s (D.secsAt i)) ∧ (∀ q, ownB old q → fpD D q ∧ q ≠ D.d ∧ q ≠ D.lb ∧ q ≠ D.mr) ∧ (∀ x ∈ D.waits, x.i ≠ i → ∀ q, ownB x.s q → ¬ ownB old q) ∧ (D.secsAt i).length ≤ D.ld ∧ (∀ s ∈ D.secsAt i, s.length = 256) ∧
     ∀ w' : World, MapK w' D.mr encZ (D.waits.map Wt.e) → Sem.run Tryz.prog (Instr.lookup Ty.map_int_Sl_dev_sector (.map (some D.mr)) (.int .i64 ((i : Nat) : Int)) false) w' = .ok (.slice old.a old.len old.cap) w' := by
   cases hf : D.waits.find? fun x => x.i == i with
   | some x =>
     rw [hf] at hold
     have hold : x.s = old := hold
     subst hold
     have hx := List.mem_of_find?_eq_some hf
     have hxi : x.i = i := by
       have := List.find?_some hf
       exact eq_of_beq this
     have e : D.secsAt i = x.secs := by unfold Dv.secsAt; rw [hf]
     rw [e]
     refine ⟨hd3.ws x hx, fun q hq => ⟨.inr (.inr (.inr ⟨x, hx, hq⟩)), fun e => (h.a2 x hx).1 (e ▸ hq), fun e => (h.a2 x hx).2.1 (e ▸ hq), fun e => (h.a2 x hx).2.2 (e ▸ hq)⟩, fun y hy hne => h.a3 y hy x hx (by omega), (h.wn x hx).2.2, h.sw x hx, fun w' hm => hm.lookup_some keyZ mapTZ (k := (i : Int)) (v := .slice x.s.a x.s.len x.s.cap) (List.mem_map.2 ⟨x, hx, by unfold Wt.e; rw [hxi]⟩) false⟩
   | none =>
     rw [hf] at hold
     have hold : (⟨none, 0, 0⟩ : Sl) = old := hold
     subst hold
     have e : D.secsAt i = [] := by unfold Dv.secsAt; rw [hf]
     rw [e]
     obtain ⟨ti, h1, h2⟩ := infoZ' zeroSec
     refine ⟨OwnS.none _ _ _, fun q hq => (ownB_none q hq).elim, fun x _ _ q _ hq => (ownB_none q hq).elim, Nat.zero_le _, fun s hs => (by cases hs), fun w' hm => hm.lookup_none keyZ mapTZ (k := (i : Int)) h1 h2 (fun v hv => ?_) false⟩
     obtain ⟨x, hx, he⟩ := List.mem_map.1 hv
     have h3 := List.find?_eq_none.1 hf x hx
     unfold Wt.e at he
     simp only [Prod.mk.injEq] at he
     apply h3
     have : x.i = i := by omega
     rw [this]; simp
 obtain ⟨ho, hof, hoo, hoc, hos, hlk⟩ := hso
 obtain ⟨A, hA, hrd⟩ : ∃ A, b.a = some A ∧ rdCells w2.drew A 0 256 = some (u8s l) := by
   cases ha : b.a with
   | none =>
     have := congrArg List.length (hb.nil ha)
     rw [u8s_length, hl] at this
     cases this
   | some A =>
     refine ⟨A, rfl, ?_⟩
     have := hb3.rd A ha
     rwa [hbl, hl] at this
 have hAn : ¬ ownB old A.block := fun hq => hd _ ⟨A, hA, rfl⟩ (hof _ hq).1
 -- the row, appended
 have happ : ∀ w4 : World, Ext w2.drew w4 → ∃ (s' : Sl) (w5 : World), Sem.run Tryz.prog (Builtin.append_ #[Ty.Sl_dev_sector, Ty.Sl_dev_sector] Ty.Sl_dev_sector #[.slice old.a old.len old.cap, .slice (some ⟨w4.heap.size, 0, none⟩) 1 1]) (w4.alloc (.cells (u8s l).toArray Ty.dev_sector)) = .ok (.slice s'.a s'.len s'.cap) w5 ∧
     OwnS 256 Ty.dev_sector w5 s' (fl u8s (D.secsAt i ++ [l])) ∧ Chg (ownB old) w4 w5 ∧ (∀ k, ownB s' k → ownB old k ∨ w4.heap.size ≤ k) ∧ Chg (ownB old) (w4.alloc (.cells (u8s l).toArray Ty.dev_sector)) w5 := by
   intro w4 hx4
   have hlen : old.len = (D.secsAt i).length := by
     have := ho.1
     rw [fl_length (c := u8s) (sz := 256) _ fun s hs => by rw [u8s_length]; exact hos s hs] at this
     omega
   have hxa := ext_alloc w4 (.cells (u8s l).toArray Ty.dev_sector)
   obtain ⟨s', w5, g1, g2, g3, g4, g5⟩ := appSec.append (oT := Ty.Sl_dev_sector) (x := ⟨some ⟨w4.heap.size, 0, none⟩, 1, 1⟩) (Src.new (T := Ty.dev_sector) w4 (u8s l) 1 (by rw [u8s_length, hl])) (ho.ext (hx4.trans hxa)) (u8s_plain l) (by rw [hlen]; show (2 * (_ + 1) + 1000) * 256 ≤ _; omega)
   refine ⟨s', w5, g1, ?_, (Chg.of_ext hxa).trans g4, fun k hk => (g5 k hk).imp id fun h => ?_, g4⟩
   · rw [fl_app]
     have : fl u8s [l] = u8s l := by simp [fl]
     rw [this]; exact g2
   · have := hxa.size; omega
 -- the map, laid anew
 have hupd : ∀ (w5 : World) (s' : Sl), MapK w5 D.mr encZ (D.waits.map Wt.e) → ∃ w6 : World, Sem.run Tryz.prog (Instr.mapUpdate Ty.map_int_Sl_dev_sector (.map (some D.mr)) (.int .i64 ((i : Nat) : Int)) (.slice s'.a s'.len s'.cap)) w5 = .ok () w6 ∧ Chg (fun q => q = D.mr) w5 w6 ∧
     MapK w6 D.mr encZ ((Wt.mk i s' (D.secsAt i ++ [l]) :: D.waits.filter fun x => x.i != i).map Wt.e) := by
   intro w5 s' hm
   have hkeys := hm.keys
   rw [List.map_map] at hkeys
   cases hf : D.waits.find? fun x => x.i == i with
   | some x =>
     have hx := List.mem_of_find?_eq_some hf
     have hxi : x.i = i := by
       have := List.find?_some hf
       exact eq_of_beq this
     obtain ⟨L1, L2, he⟩ := List.append_of_mem hx
     have hne : ∀ y ∈ L1 ++ L2, y.i ≠ i := by
       intro y hy e
       rw [he, List.map_append, List.map_cons] at hkeys
       have h1 := (List.perm_middle.nodup_iff).1 hkeys
       rw [List.nodup_cons] at h1
       apply h1.1
       rw [← List.map_append]
       refine List.mem_map.2 ⟨y, hy, ?_⟩
       show ((y.i : Nat) : Int) = ((x.i : Nat) : Int)
       omega
     have hfl : D.waits.filter (fun x => x.i != i) = L1 ++ L2 := by
       rw [he, List.filter_append, List.filter_cons_of_neg (by simp [hxi])]
       rw [List.filter_eq_self.2 fun y hy => by have := hne y (List.mem_append_left _ hy); simpa using this, List.filter_eq_self.2 fun y hy => by have := hne y (List.mem_append_right _ hy); simpa using this]
     have hp : (D.waits.map Wt.e).Perm (((i : Int), .slice x.s.a x.s.len x.s.cap) :: (L1 ++ L2).map Wt.e) := by
       rw [he, List.map_append, List.map_cons, List.map_append]
       have : x.e = ((i : Int), .slice x.s.a x.s.len x.s.cap) := by unfold Wt.e; rw [hxi]
       rw [this]
       exact List.perm_middle
     obtain ⟨w6, g1, g2, _, g3⟩ := mapK_upd_old keyZ mapTZ (hm.perm hp) (.slice s'.a s'.len s'.cap)
     refine ⟨w6, g1, g2, ?_⟩
     rw [hfl]
     exact g3
   | none =>
     have hne : ∀ y ∈ D.waits, y.i ≠ i := fun y hy e => by
       have := List.find?_eq_none.1 hf y hy
       rw [e] at this; simp at this
     have hfl : D.waits.filter (fun x => x.i != i) = D.waits := List.filter_eq_self.2 fun y hy => by simpa using hne y hy
     obtain ⟨w6, g1, g2, _, g3⟩ := mapK_upd_new keyZ mapTZ (k := (i : Int)) hm (fun v hv => by
       obtain ⟨x, hx, he⟩ := List.mem_map.1 hv
       unfold Wt.e at he
       simp only [Prod.mk.injEq] at he
       exact hne x hx (by omega)) (.slice s'.a s'.len s'.cap)
     refine ⟨w6, g1, g2, ?_⟩
     rw [hfl]
     exact g3
 -- the end, both ways
 have fin : ∀ (w5 w6 : World) (s' : Sl), Chg (ownB old) w2.drew w5 → OwnS 256 Ty.dev_sector w5 s' (fl u8s (D.secsAt i ++ [l])) → (∀ k, ownB s' k → ownB old k ∨ w2.drew.heap.size ≤ k) → Chg (fun q => q = D.mr) w5 w6 → MapK w6 D.mr encZ ((Wt.mk i s' (D.secsAt i ++ [l]) :: D.waits.filter fun x => x.i != i).map Wt.e) →
     ∃ a23 : Addr, (some ⟨D.d, 0, none⟩ : Option Addr) = some a23 ∧ ∃ n24 : Int, w6.cell? (a23.add 6) = some (.int .i64 n24) ∧ ∃ a25 : Addr, (some ⟨D.d, 0, none⟩ : Option Addr) = some a25 ∧ (∃ u : Value, w6.cell? (a25.add 6) = some u) ∧ w6.frozen? (a25.add 6) = false ∧ Nx (w6.setCell (a25.add 6) (.int .i64 (IntKind.wrap .i64 (n24 + 1)))) fun w26 => WriteR D i l w (.int .i64 0) w26 := by
   intro w5 w6 s' hc5 hs5 hfr hc6 hm6
   have hv5 := hd3.v.chg hc5 fun hq => (hof _ hq).2.1 rfl
   have hv6 : Var w6 D.d (D.burn 2).c Ty.dev_Device := hv5.chg hc6 h.a1.2.1
   have hlen : (D.burn 2).c.length = 7 := hd2.clen
   obtain ⟨s1, s2⟩ := setOk hv6 (i := 6) (by rw [hlen]; decide)
   have c6 : w6.cell? (Addr.add ⟨D.d, 0, none⟩ 6) = some (.int .i64 D.writes) := by
     rw [add_mk, Nat.zero_add, hv6.cell]
     unfold Dv.c
     have := hd2.f4
     rw [List.getElem?_append_right (by rw [List.length_map]; omega), List.length_map, this]; rfl
   rw [add_mk, Nat.zero_add] at c6
   refine ⟨_, rfl, D.writes, by rw [add_mk, Nat.zero_add]; exact c6, _, rfl, by rw [add_mk, Nat.zero_add]; exact s1, by rw [add_mk, Nat.zero_add]; exact s2, ?_⟩
   rw [add_mk, Nat.zero_add]
   have hc7 := chgSet w6 D.d 6 (.int .i64 (IntKind.wrap .i64 (D.writes + 1)))
   have hv7 := varSet hv6 (i := 6) (.int .i64 (IntKind.wrap .i64 (D.writes + 1)))
   have hcc : (D.burn 2).c.set 6 (.int .i64 (IntKind.wrap .i64 (D.writes + 1))) = (D.put i s' l).c := by
     have h4 := hd2.f4
     have e1 : (D.put i s' l).c = (D.burn 2).fz.map (.int .i64) ++ [.slice (some ⟨D.lb, 0, none⟩) D.lasts.length D.lasts.length, .map (some D.mr), .int .i64 (IntKind.wrap .i64 (D.writes + 1))] := rfl
     have e2 : (D.burn 2).c = (D.burn 2).fz.map (.int .i64) ++ [.slice (some ⟨D.lb, 0, none⟩) D.lasts.length D.lasts.length, .map (some D.mr), .int .i64 D.writes] := rfl
     rw [e1, e2, List.set_append_right _ _ (by rw [List.length_map]; omega), List.length_map, h4]
     rfl
   rw [hcc] at hv7
   have hc57 : Chg (fun q => q = D.mr ∨ q = D.d) w5 (w6.setCell ⟨D.d, 6, none⟩ (.int .i64 (IntKind.wrap .i64 (D.writes + 1)))) := (hc6.mono fun q _ e => .inl e).trans (hc7.mono fun q _ e => .inr e)
   have hsn : ∀ q, ownB s' q → q ≠ D.d ∧ q ≠ D.lb ∧ q ≠ D.mr := fun q hq => by
     have hlts := hd3.lt (q := D.d) (.inl rfl)
     have hltb := hd3.lt (q := D.lb) (.inr (.inl rfl))
     have hltm := hd3.lt (q := D.mr) (.inr (.inr (.inl rfl)))
     rcases hfr q hq with h1 | h1
     · exact (hof q h1).2
     · exact ⟨by omega, by omega, by omega⟩
   have hmem : ∀ x ∈ D.waits.filter (fun x => x.i != i), x ∈ D.waits ∧ x.i ≠ i := fun x hx => by
     obtain ⟨h1, h2⟩ := List.mem_filter.1 hx
     exact ⟨h1, by simpa using h2⟩
   refine nx (.inr ⟨hb1, rfl, s', ⟨hv7, ?_, ?_, ?_, ?_, h.sl, ?_, h.n1, h.n2, hd2.f4, hd2.fr, h.a1, ?_, ?_⟩, ?_, ?_⟩)
   · exact Blk.chg (Blk.chg hd3.l hc5 fun hq => (hof _ hq).2.2.1 rfl) hc57 (by
       rintro (e | e)
       · exact h.a1.2.2 e
       · exact h.a1.1 e.symm)
   · exact hm6.chg hc7 (fun e => h.a1.2.1 e.symm)
   · intro x hx
     rcases List.mem_cons.1 hx with rfl | hx
     · exact hs5.chg hc57 fun q hq => by
         rintro (e | e)
         · exact (hsn q hq).2.2 e
         · exact (hsn q hq).1 e
     · obtain ⟨h1, h2⟩ := hmem x hx
       refine ((hd3.ws x h1).chg hc5 fun q hq => hoo x h1 h2 q hq).chg hc57 fun q hq => ?_
       rintro (e | e)
       · exact (h.a2 x h1).2.2 (e ▸ hq)
       · exact (h.a2 x h1).1 (e ▸ hq)
   · intro x hx
     rcases List.mem_cons.1 hx with rfl | hx
     · refine ⟨by simp, hi, ?_⟩
       show (D.secsAt i ++ [l]).length ≤ D.ld + 1
       rw [List.length_append, List.length_singleton]; omega
     · obtain ⟨h1, h2⟩ := hmem x hx
       have := h.wn x h1
       exact ⟨this.1, this.2.1, Nat.le_succ_of_le this.2.2⟩
   · intro x hx
     rcases List.mem_cons.1 hx with rfl | hx
     · intro s hs
       rcases List.mem_append.1 hs with hs | hs
       · exact hos s hs
       · rw [List.mem_singleton.1 hs]; exact hl
     · exact h.sw x (hmem x hx).1
   · intro x hx
     rcases List.mem_cons.1 hx with rfl | hx
     · exact ⟨fun hq => (hsn _ hq).1 rfl, fun hq => (hsn _ hq).2.1 rfl, fun hq => (hsn _ hq).2.2 rfl⟩
     · exact h.a2 x (hmem x hx).1
   · have hnew : ∀ y ∈ D.waits, y.i ≠ i → ∀ q, ownB y.s q → ¬ ownB s' q := fun y hy hne q hq hq2 => by
       rcases hfr q hq2 with h1 | h1
       · exact hoo y hy hne q hq h1
       · have := (hd3.ws y hy).lt q hq; omega
     intro x hx y hy hne q hq hq2
     rcases List.mem_cons.1 hx with rfl | hx
     · rcases List.mem_cons.1 hy with rfl | hy
       · exact hne rfl
       · exact hnew y (hmem y hy).1 (fun e => hne e.symm) q hq2 hq
     · rcases List.mem_cons.1 hy with rfl | hy
       · exact hnew x (hmem x hx).1 hne q hq hq2
       · exact h.a3 x (hmem x hx).1 y (hmem y hy).1 hne q hq hq2
   · refine ((hc2.mono fun q _ e => .inl e).trans ((Chg.of_ext (ext_drew w2)).trans (hc5.mono fun q _ hq => (hof q hq).1))).trans (hc57.mono fun q _ hq => ?_)
     rcases hq with e | e
     · exact .inr (.inr (.inl e))
     · exact .inl e
   · intro q hq
     rcases hfr q hq with h1 | h1
     · exact .inl (hof q h1).1
     · have : w2.drew.heap.size = w2.heap.size := rfl
       exact .inr (by omega)
 refine ⟨ownB old, _, rfl, fun hq => (hof _ hq).2.1 rfl, some D.mr, hd3.c5, _, rfl, fun hq => (hof _ hq).2.1 rfl, some D.mr, hd3.c5, by omega, A, hA, hAn, _, hrd, ⟨?_, ?_⟩⟩
 · obtain ⟨s', w5, g1, g2, g3, g4, g5⟩ := happ w2.drew (.refl _ _)
   have hm5 := hd3.m.chg g3 fun hq => (hof _ hq).2.2.2 rfl
   obtain ⟨w6, e1, e2, e3⟩ := hupd w5 s' hm5
   exact ⟨old, _, hlk _ hd3.m, .refl _ _, ⟨some ⟨w2.drew.heap.size, 0, none⟩, 1, 1⟩, _, buildSec _ l hl, Chg.of_ext (ext_alloc _ _), s', w5, g1, g5, w6, e1, fin w5 w6 s' g3 g2 g4 e2 e3⟩
 · obtain ⟨s', w5, g1, g2, g3, g4, g5⟩ := happ w2.drew (.refl _ _)
   have hm4 := hd3.m.ext (ext_alloc w2.drew (.cells (u8s l).toArray Ty.dev_sector))
   have hm5 := hd3.m.chg g3 fun hq => (hof _ hq).2.2.2 rfl
   obtain ⟨w6, e1, e2, e3⟩ := hupd w5 s' hm5
   exact ⟨⟨some ⟨w2.drew.heap.size, 0, none⟩, 1, 1⟩, _, buildSec _ l hl, Chg.of_ext (ext_alloc _ _), old, _, hlk _ hm4, .refl _ _, s', w5, g1, g5, w6, e1, fin w5 w6 s' g3 g2 g4 e2 e3⟩
end Go.Proofs.YtplieiecebljmaaGreat
namespace Go.Proofs.YtplieiecebljmaaGreat
open Go Gx
theorem zrow_rep {P : Program} {e : TypeId} {v : Value} {sz : Nat} (hz : ((P.info? e).bind (·.zero)).map (·.cells) = some (List.replicate sz v).toArray) (hc : P.cellsOf e = sz) (hs : 0 < sz) (n : Nat) : zrow P e n = (List.replicate (n * sz) v).toArray := by
 unfold zrow
 rw [hc]
 cases hi : (P.info? e).bind (·.zero) with
 | none => rw [hi] at hz; cases hz
 | some z =>
   rw [hi] at hz
   simp only [Option.map_some, Option.some.injEq] at hz
   simp only [Option.getD_some]
   apply Array.ext
   · simp
   · intro i h1 h2
     have hn : n * sz ≠ 0 := by
       intro h
       simp [h] at h2
     simp only [hn, if_false, hz, Array.getElem_map, Array.getElem_range]
     have hlt : i % sz < sz := Nat.mod_lt _ hs
     simp [hlt]
theorem fl_rep (m n : Nat) : fl u8s (List.replicate n (List.replicate m 0)) = List.replicate (n * m) (.int .u8 0) := by
 induction n with
 | zero => simp [fl]
 | succ n ih =>
   rw [List.replicate_succ, fl_cons, ih, Nat.add_mul, Nat.one_mul, Nat.add_comm]
   have e : u8s (List.replicate m 0) = List.replicate m (Value.int .u8 0) := by simp [u8s]
   rw [e, List.replicate_append_replicate]
def zSec : Sec := List.replicate 256 0
theorem zrowSec (n : Nat) : zrow Tryz.prog Ty.dev_sector n = (fl u8s (List.replicate n zSec)).toArray := by
 unfold zSec
 rw [fl_rep]
 exact zrow_rep (by kernel_rfl) (by kernel_rfl) (by decide) n
def newDv (n d lb mr : Nat) : Dv := ⟨d, lb, mr, [-1, -1, -1, -1], List.replicate n zSec, [], 0, 0⟩
theorem dev_clear {w : World} {b : Nat} {vs : List Value} {T : TypeId} (h : Var w b vs T) (hl : 4 ≤ vs.length) :
   Ret Tryz.prog F.dev_fuses_clear #[.pointer (some ⟨b, 0, none⟩)] w (fun v w' => v = .tuple #[] ∧ Var w' b (List.replicate 4 (.int .i64 (-1)) ++ vs.drop 4) T ∧ Chg (fun q => q = b) w w' ∧ w'.heap.size = w.heap.size) := by
 refine W.dev_fuses_clear_ok (some ⟨b, 0, none⟩) w _ ?_
 (delta W.dev_fuses_clear Br st wI; dsimp only)
 refine ⟨fun i w' => ∃ j : Nat, i = j ∧ j ≤ 4 ∧ Var w' b (List.replicate j (.int .i64 (-1)) ++ vs.drop j) T ∧ Chg (fun q => q = b) w w' ∧ w'.heap.size = w.heap.size, fun i _ => ((4 : Int) - i).toNat, ⟨0, rfl, by omega, h, .refl _ _, rfl⟩, ?_⟩
 rintro _ w1 ⟨j, rfl, hj, hv, hc, hz⟩
 refine ⟨fun hlt => ?_, fun hge => ?_⟩
 · have hlt : j < 4 := by have := of_decide_eq_true hlt; omega
   have ha : Addr.add ⟨b, 0, none⟩ (Int.toNat ((j : Nat) : Int) * 1) = ⟨b, j, none⟩ := by rw [Int.toNat_natCast, Nat.mul_one, add_mk, Nat.zero_add]
   obtain ⟨s1, s2⟩ := setOk hv (i := j) (by simp; omega)
   rw [wrapi (n := (j : Int) + 1) (by omega) (by omega)]
   refine ⟨_, rfl, ⟨by omega, by show (j : Int) < 4; omega⟩, by rw [ha]; exact s1, by rw [ha]; exact s2, nx ⟨⟨j + 1, by omega, by omega, ?_, ?_, ?_⟩, ?_⟩⟩
   · have := varSet hv (i := j) (.int .i64 (-1))
     rw [ha]
     have e : (List.replicate j (Value.int .i64 (-1)) ++ vs.drop j).set j (.int .i64 (-1)) = List.replicate (j + 1) (.int .i64 (-1)) ++ vs.drop (j + 1) := by
       rw [List.set_append_right _ _ (by simp), List.length_replicate, Nat.sub_self, List.drop_eq_getElem_cons (show j < vs.length by omega), List.set_cons_zero, List.replicate_succ', List.append_assoc]
       rfl
     rwa [e] at this
   · rw [ha]; exact hc.trans (chgSet _ _ _ _)
   · rw [ha]; simpa [World.setCell] using hz
   · show ((4 : Int) - ((j : Int) + 1)).toNat < ((4 : Int) - (j : Int)).toNat
     omega
 · have hge : j = 4 := by have := of_decide_eq_false hge; omega
   subst hge
   exact ⟨rfl, hv, hc, hz⟩
theorem dev_New {n : Nat} (h1 : 16 ≤ n) (h2 : n ≤ 1600) (w : World) :
   Ret Tryz.prog F.dev_New #[.int .i64 ((n : Nat) : Int)] w (fun v w' => ∃ d lb mr : Nat, v = .tuple #[.pointer (some ⟨d, 0, none⟩), .int .i64 0] ∧ DevAt w' (newDv n d lb mr) ∧ Ext w w' ∧ ∀ q, fpD (newDv n d lb mr) q → w.heap.size ≤ q) := by
 refine W.dev_New_ok ((n : Nat) : Int) w _ ?_
 (delta W.dev_New Br mI c4 nA c1; dsimp only)
 refine ⟨fun h => ?_, fun _ => ⟨⟨by omega, by omega, by omega, by omega⟩, ?_⟩⟩
 · simp only [Bool.or_eq_true, decide_eq_true_eq] at h; omega
 rw [zrowSec, Int.toNat_natCast]
 have hb1 := Blk.new w (fl u8s (List.replicate n zSec)).toArray Ty.dev_sector
 have hx1 := ext_alloc w (.cells (fl u8s (List.replicate n zSec)).toArray Ty.dev_sector)
 have hz1 := alloc_size w (.cells (fl u8s (List.replicate n zSec)).toArray Ty.dev_sector)
 obtain ⟨w1, hw1⟩ : ∃ w1, w1 = w.alloc (.cells (fl u8s (List.replicate n zSec)).toArray Ty.dev_sector) := ⟨_, rfl⟩
 rw [← hw1] at hb1 hx1 hz1 ⊢
 obtain ⟨g1, g2⟩ := MapK.make (P := Tryz.prog) (enc := encZ) Ty.map_int_Sl_dev_sector w1
 have hx2 := ext_alloc w1 (.map #[] 0)
 have hz2 := alloc_size w1 (.map #[] 0)
 obtain ⟨w2, hw2⟩ : ∃ w2, w2 = w1.alloc (.map #[] 0) := ⟨_, rfl⟩
 rw [← hw2] at g1 g2 hx2 hz2
 refine nx ⟨some w1.heap.size, w2, g1, #[.int .i64 0, .int .i64 0, .int .i64 0, .int .i64 0, .slice (some ⟨w.heap.size, 0, none⟩) n n, .map (some w1.heap.size), .int .i64 0], by kernel_rfl, nxVar (vs := [.int .i64 0, .int .i64 0, .int .i64 0, .int .i64 0, .slice (some ⟨w.heap.size, 0, none⟩) n n, .map (some w1.heap.size), .int .i64 0]) rfl fun w3 hv3 hx3 hz3 => ⟨_, rfl, (dev_clear hv3 (by show 4 ≤ 7; decide)).use ?_⟩⟩
 rintro _ w4 ⟨rfl, hv4, hc4, hz4⟩
 refine ⟨rfl, w2.heap.size, w.heap.size, w1.heap.size, rfl, ⟨?_, ?_, ?_, fun x hx => (by cases hx), fun x hx => (by cases hx), fun s hs => ?_, fun x hx => (by cases hx), ?_, ?_, rfl, fun x hx => ?_, ?_, fun x hx => (by cases hx), fun x hx => (by cases hx)⟩, Ext.of_chg (hx1.trans (hx2.trans hx3)) hc4 (by omega), ?_⟩
 · have e : (newDv n w2.heap.size w.heap.size w1.heap.size).c = List.replicate 4 (.int .i64 (-1)) ++ [Value.int .i64 0, .int .i64 0, .int .i64 0, .int .i64 0, .slice (some ⟨w.heap.size, 0, none⟩) n n, .map (some w1.heap.size), .int .i64 0].drop 4 := by
     unfold Dv.c newDv
     simp
   rw [e]; exact hv4
 · exact Blk.chg ((hb1.ext hx2).ext hx3) hc4 (by show ¬ w.heap.size = w2.heap.size; omega)
 · exact (g2.ext hx3).chg hc4 (by omega)
 · rw [List.eq_of_mem_replicate hs, zSec, List.length_replicate]
 · show 16 ≤ (List.replicate n zSec).length; simpa using h1
 · show (List.replicate n zSec).length ≤ 1600; simpa using h2
 · have : x = -1 := by
     simp [newDv] at hx; exact hx
   subst this; exact ⟨by decide, by decide⟩
 · exact ⟨by show w2.heap.size ≠ w.heap.size; omega, by show w2.heap.size ≠ w1.heap.size; omega, by show w.heap.size ≠ w1.heap.size; omega⟩
 · rintro q (rfl | rfl | rfl | ⟨x, hx, _⟩)
   · show w.heap.size ≤ w2.heap.size; omega
   · exact Nat.le_refl _
   · show w.heap.size ≤ w1.heap.size; omega
   · cases hx
end Go.Proofs.YtplieiecebljmaaGreat
namespace Go.Proofs.YtplieiecebljmaaGreat
open Go Gx
structure Fr where
 full : Bool
 dirty : Bool
 used : Bool
 no : Int
 pins : Int
 b : Sl
 l : Sec
def Fr.c (f : Fr) : List Value := [.bool f.full, .bool f.dirty, .bool f.used, .int .i64 f.no, .int .i64 f.pins, .slice f.b.a f.b.len f.b.cap]
def fr0 : Fr := ⟨false, false, false, 0, 0, ⟨none, 0, 0⟩, []⟩
structure Ch where
 c : Nat
 fb : Nat
 frames : List Fr
 hand : Nat
 D : Dv
def fpC (C : Ch) (q : Nat) : Prop := q = C.c ∨ q = C.fb ∨ fpD C.D q
structure CaRaw (w : World) (C : Ch) : Prop where
 v : Var w C.c [.pointer (some ⟨C.D.d, 0, none⟩), .slice (some ⟨C.fb, 0, none⟩) C.frames.length C.frames.length, .int .i64 C.hand] Ty.cache_Cache
 f : Blk w C.fb (fl Fr.c C.frames).toArray Ty.cache_frame
 dev : DevAt w C.D
 k1 : 8 ≤ C.frames.length
 k2 : C.frames.length ≤ 64
 hd : C.hand < C.frames.length
 a1 : C.c ≠ C.fb ∧ ¬ fpD C.D C.c ∧ ¬ fpD C.D C.fb
structure FrOk (X : Nat → Prop) (w : World) (C : Ch) (f : Fr) (no : Nat) : Prop where
 num : f.no = no
 lt : no < C.D.n
 tx : Tx (fun q => ¬ fpC C q ∧ ¬ X q) w f.b f.l
 len : f.l.length = 256
 clean : f.dirty = false → f.l = C.D.now no
structure CaInv (X : Nat → Prop) (w : World) (C : Ch) : Prop where
 pins : ∀ f ∈ C.frames, f.pins = 0
 ok : ∀ f ∈ C.frames, f.full = true → ∃ no : Nat, FrOk X w C f no
 un : ∀ (i j : Nat) (hi : i < C.frames.length) (hj : j < C.frames.length), (C.frames[i]).full = true → (C.frames[j]).full = true → (C.frames[i]).no = (C.frames[j]).no → i = j
 xl : ∀ q, X q → q < w.heap.size ∧ ¬ fpC C q
structure CaAt (X : Nat → Prop) (w : World) (C : Ch) : Prop where
 raw : CaRaw w C
 inv : CaInv X w C
def Ch.view (C : Ch) (no : Nat) : Sec := match C.frames.find? fun f => f.full && f.no == (no : Int) with
 | some f => f.l
 | none => C.D.now no
theorem Fr.c_length (f : Fr) : f.c.length = 6 := rfl
theorem frC (l : List Fr) : ∀ x ∈ l, (Fr.c x).length = 6 := fun x _ => rfl
section
variable {w w' : World} {C : Ch} {X : Nat → Prop}
theorem CaRaw.lt (h : CaRaw w C) {q : Nat} (hq : fpC C q) : q < w.heap.size := by
 rcases hq with rfl | rfl | hq
 · exact h.v.lt
 · exact Blk.lt h.f
 · exact h.dev.lt hq
theorem CaRaw.chg {W : Nat → Prop} (h : CaRaw w C) (hc : Chg W w w') (hn : ∀ q, fpC C q → ¬ W q) : CaRaw w' C :=
 ⟨h.v.chg hc (hn _ (.inl rfl)), Blk.chg h.f hc (hn _ (.inr (.inl rfl))), h.dev.chg hc fun q hq => hn q (.inr (.inr hq)), h.k1, h.k2, h.hd, h.a1⟩
theorem CaRaw.ext (h : CaRaw w C) (hc : Ext w w') : CaRaw w' C := h.chg hc fun _ _ h => h
theorem CaInv.chg {W : Nat → Prop} (h : CaInv X w C) (hc : Chg W w w') (hn : ∀ q, W q → fpC C q ∨ X q) : CaInv X w' C :=
 ⟨h.pins, fun f hf hfull => by
   obtain ⟨no, g1, g2, g3, g4, g5⟩ := h.ok f hf hfull
   exact ⟨no, g1, g2, Tx.chg g3 hc fun q hq hw => by
     rcases hn q hw with h1 | h1
     · exact hq.1 h1
     · exact hq.2 h1, g4, g5⟩, h.un, fun q hq => ⟨Nat.lt_of_lt_of_le (h.xl q hq).1 hc.size, (h.xl q hq).2⟩⟩
theorem CaAt.chg {W : Nat → Prop} (h : CaAt X w C) (hc : Chg W w w') (hn : ∀ q, W q → X q) : CaAt X w' C :=
 ⟨h.raw.chg hc fun q hq hw => (h.inv.xl q (hn q hw)).2 hq, h.inv.chg hc fun q hw => .inr (hn q hw)⟩
theorem CaAt.ext (h : CaAt X w C) (hc : Ext w w') : CaAt X w' C := h.chg hc fun _ h => h.elim
theorem frAddr (fb i : Nat) : Addr.add ⟨fb, 0, none⟩ (Int.toNat ((i : Nat) : Int) * 6) = ⟨fb, i * 6, none⟩ := by rw [Int.toNat_natCast, add_mk, Nat.zero_add]
theorem CaRaw.cells (h : CaRaw w C) : w.cell? ⟨C.c, 0, none⟩ = some (.pointer (some ⟨C.D.d, 0, none⟩)) ∧ w.cell? (Addr.add ⟨C.c, 0, none⟩ 1) = some (.slice (some ⟨C.fb, 0, none⟩) C.frames.length C.frames.length) ∧ w.cell? (Addr.add ⟨C.c, 0, none⟩ 2) = some (.int .i64 C.hand) := by
 rw [add_mk, add_mk]
 exact ⟨h.v.cell, h.v.cell, h.v.cell⟩
theorem frCell {w : World} {fb : Nat} {fs : List Fr} {T : TypeId} (h : Blk w fb (fl Fr.c fs).toArray T) {i j : Nat} (hi : i < fs.length) (hj : j < 6) : w.cell? ⟨fb, i * 6 + j, none⟩ = ((fs[i]).c)[j]? := by
 rw [Blk.cell h]
 simp only [List.getElem?_toArray]
 exact fl_get (frC fs) hi hj
theorem frSet1 {w : World} {fb : Nat} {fs : List Fr} {T : TypeId} (h : Blk w fb (fl Fr.c fs).toArray T) {i j : Nat} (hi : i < fs.length) (hj : j < 6) {v : Value} (f' : Fr) (hf : f'.c = (fs[i]).c.set j v) :
   (∃ u : Value, w.cell? ⟨fb, i * 6 + j, none⟩ = some u) ∧ w.frozen? ⟨fb, i * 6 + j, none⟩ = false ∧ Blk (w.setCell ⟨fb, i * 6 + j, none⟩ v) fb (fl Fr.c (fs.set i f')).toArray T ∧ Chg (fun q => q = fb) w (w.setCell ⟨fb, i * 6 + j, none⟩ v) := by
 refine ⟨⟨((fs[i]).c)[j]'(by rw [Fr.c_length]; exact hj), by rw [frCell h hi hj, List.getElem?_eq_getElem (by rw [Fr.c_length]; exact hj)]⟩, Blk.frozen h _ rfl, ?_, chgSet _ _ _ _⟩
 have := varSet (vs := fl Fr.c fs) h (i := i * 6 + j) v
 rw [fl_set1 (frC fs) hi hj hf] at this
 exact this
theorem frSetAll {w : World} {fb : Nat} {fs : List Fr} {T : TypeId} (h : Blk w fb (fl Fr.c fs).toArray T) {i : Nat} (hi : i < fs.length) (f' : Fr) :
   StoreOk w ⟨fb, i * 6, none⟩ f'.c ∧ Blk (setCells w ⟨fb, i * 6, none⟩ 0 f'.c) fb (fl Fr.c (fs.set i f')).toArray T ∧ Chg (fun q => q = fb) w (setCells w ⟨fb, i * 6, none⟩ 0 f'.c) := by
 have hl := fl_length (c := Fr.c) fs (frC fs)
 have hle : i * 6 + f'.c.length ≤ (fl Fr.c fs).toArray.size := by
   rw [List.size_toArray, hl, Fr.c_length]; omega
 refine ⟨Blk.storeOk h _ _ hle ?_, ?_, Chg.setsB (.refl _ _) _ 0⟩
 · intro v hv
   unfold Fr.c at hv
   simp only [List.mem_cons, List.not_mem_nil, or_false] at hv
   rcases hv with rfl | rfl | rfl | rfl | rfl | rfl <;> trivial
 · have h0 := Blk.set0 (o := i * 6) h f'.c
   have e : spl (fl Fr.c fs).toArray (i * 6) f'.c = (fl Fr.c (fs.set i f')).toArray := by
     have h1 := toList_spl f'.c (fl Fr.c fs).toArray (i * 6) hle
     have h2 := fl_set (frC fs) hi f'
     have h3 : f'.c.length = 6 := rfl
     rw [h3] at h1
     have h4 : (spl (fl Fr.c fs).toArray (i * 6) f'.c).toList = fl Fr.c (fs.set i f') := h1.trans h2
     rw [← h4]
   rw [e] at h0
   exact h0
theorem cache_has (h : CaRaw w C) (no : Int) : Ret Tryz.prog F.cache_Cache_has #[.pointer (some ⟨C.c, 0, none⟩), .int .i64 no] w (fun v w' => v = .bool (decide (0 ≤ no ∧ no < C.D.n)) ∧ w = w') := by
 refine W.cache_Cache_has_ok (some ⟨C.c, 0, none⟩) no w _ ?_
 (delta W.cache_Cache_has Br c2; dsimp only)
 refine Jn1 (fun b w' => b = decide (0 ≤ no ∧ no < C.D.n) ∧ w = w') (fun q hq => ⟨fun hb => ⟨_, rfl, _, h.cells.1, (dev_Len h.dev).use ?_⟩, fun hb => hq _ _ ⟨?_, rfl⟩⟩) ?_
 · rintro _ _ ⟨rfl, rfl⟩
   have hb : 0 ≤ no := by simpa using hb
   refine ⟨_, rfl, hq _ _ ⟨?_, rfl⟩⟩
   rw [Bool.eq_iff_iff, decide_eq_true_eq, decide_eq_true_eq]
   exact ⟨fun h => ⟨hb, h⟩, fun h => h.2⟩
 · have hb : ¬ 0 ≤ no := by simpa using hb
   rw [decide_eq_false (fun h => hb h.1)]
 · rintro _ _ ⟨rfl, rfl⟩
   exact ⟨rfl, rfl⟩
def AtR (C : Ch) (no : Int) (v : Value) : Prop :=
 (∃ (i : Nat) (hi : i < C.frames.length), v = .pointer (some ⟨C.fb, i * 6, none⟩) ∧ (C.frames[i]).full = true ∧ (C.frames[i]).no = no) ∨
 (v = .pointer none ∧ ∀ f ∈ C.frames, f.full = true → f.no ≠ no)
theorem cache_at (h : CaRaw w C) (no : Int) : Ret Tryz.prog F.cache_Cache_at #[.pointer (some ⟨C.c, 0, none⟩), .int .i64 no] w (fun v w' => AtR C no v ∧ w = w') := by
 obtain ⟨c0, c1, c2⟩ := h.cells
 have hk := h.k2
 refine W.cache_Cache_at_ok (some ⟨C.c, 0, none⟩) no w _ ?_
 (delta W.cache_Cache_at Br r1 bd r3 r2 wI; dsimp only)
 refine ⟨fun h => (by cases h), fun _ => ⟨_, rfl, ⟨some ⟨C.fb, 0, none⟩, C.frames.length, C.frames.length⟩, c1, fun i w' => ∃ j : Nat, i = j ∧ j ≤ C.frames.length ∧ w = w' ∧ ∀ (k : Nat) (hk : k < C.frames.length), k < j → (C.frames[k]).full = true → (C.frames[k]).no ≠ no, fun i _ => ((C.frames.length : Int) - i).toNat, ⟨0, rfl, Nat.zero_le _, rfl, fun k _ h => by omega⟩, ?_⟩⟩
 rintro _ _ ⟨j, rfl, hj, rfl, hall⟩
 refine ⟨fun hlt => ?_, fun hge => ?_⟩
 · have hlt : (j : Int) < ((C.frames.length : Nat) : Int) := of_decide_eq_true hlt
   have hlt : j < C.frames.length := by omega
   refine ⟨_, rfl, ⟨some ⟨C.fb, 0, none⟩, C.frames.length, C.frames.length⟩, c1, _, rfl, ⟨by omega, by show (j : Int) < ((C.frames.length : Nat) : Int); omega⟩, _, rfl, ?_⟩
   rw [frAddr]
   have f0 := frCell h.f hlt (j := 0) (by decide)
   have f3 := frCell h.f hlt (j := 3) (by decide)
   refine ⟨(C.frames[j]).full, f0, Jn1 (fun b w' => w = w' ∧ (b = true ↔ ((C.frames[j]).full = true ∧ (C.frames[j]).no = no))) (fun q hq => ⟨fun hb => ⟨_, rfl, (C.frames[j]).no, by rw [add_mk]; exact f3, hq _ _ ⟨rfl, ?_⟩⟩, fun hb => hq _ _ ⟨rfl, ?_⟩⟩) ?_⟩
   · rw [beq_iff_eq]
     exact ⟨fun h => ⟨hb, h⟩, fun h => h.2⟩
   · rw [hb]
     exact ⟨fun h => (by cases h), fun h => (by cases h.1)⟩
   rintro b w' ⟨rfl, hb⟩
   refine ⟨fun h1 => ⟨.inl ⟨j, hlt, rfl, (hb.1 h1).1, (hb.1 h1).2⟩, rfl⟩, fun h1 => ?_⟩
   rw [wrapi (n := (j : Int) + 1) (by omega) (by omega)]
   refine ⟨⟨j + 1, by omega, by omega, rfl, fun k hk h2 h3 => ?_⟩, ?_⟩
   · rcases Nat.lt_or_ge k j with h4 | h4
     · exact hall k hk h4 h3
     · have : k = j := by omega
       subst this
       intro h5
       rw [hb.2 ⟨h3, h5⟩] at h1; cases h1
   · show ((C.frames.length : Int) - ((j : Int) + 1)).toNat < ((C.frames.length : Int) - (j : Int)).toNat
     omega
 · have hge : j = C.frames.length := by
     have : ¬ ((j : Int) < ((C.frames.length : Nat) : Int)) := of_decide_eq_false hge
     omega
   subst hge
   refine ⟨.inr ⟨rfl, fun f hf hfull => ?_⟩, rfl⟩
   obtain ⟨k, hk, rfl⟩ := List.getElem_of_mem hf
   exact hall k hk hk hfull
theorem cache_empty (h : CaRaw w C) : Ret Tryz.prog F.cache_Cache_empty #[.pointer (some ⟨C.c, 0, none⟩)] w (fun v w' => ((∃ (i : Nat) (hi : i < C.frames.length), v = .pointer (some ⟨C.fb, i * 6, none⟩) ∧ (C.frames[i]).full = false) ∨ (v = .pointer none ∧ ∀ f ∈ C.frames, f.full = true)) ∧ w = w') := by
 obtain ⟨c0, c1, c2⟩ := h.cells
 have hk := h.k2
 refine W.cache_Cache_empty_ok (some ⟨C.c, 0, none⟩) w _ ?_
 (delta W.cache_Cache_empty r1 Br bd r3 wI; dsimp only)
 refine ⟨_, rfl, ⟨some ⟨C.fb, 0, none⟩, C.frames.length, C.frames.length⟩, c1, fun i w' => ∃ j : Nat, i = j ∧ j ≤ C.frames.length ∧ w = w' ∧ ∀ (k : Nat) (hk : k < C.frames.length), k < j → (C.frames[k]).full = true, fun i _ => ((C.frames.length : Int) - i).toNat, ⟨0, rfl, Nat.zero_le _, rfl, fun k _ h => by omega⟩, ?_⟩
 rintro _ _ ⟨j, rfl, hj, rfl, hall⟩
 refine ⟨fun hlt => ?_, fun hge => ?_⟩
 · have hlt : (j : Int) < ((C.frames.length : Nat) : Int) := of_decide_eq_true hlt
   have hlt : j < C.frames.length := by omega
   have f0 := frCell h.f hlt (j := 0) (by decide)
   refine ⟨_, rfl, ⟨some ⟨C.fb, 0, none⟩, C.frames.length, C.frames.length⟩, c1, _, rfl, ⟨by omega, by show (j : Int) < ((C.frames.length : Nat) : Int); omega⟩, (C.frames[j]).full, by rw [frAddr]; exact f0, fun hb => ⟨_, rfl, ⟨some ⟨C.fb, 0, none⟩, C.frames.length, C.frames.length⟩, c1, _, rfl, ⟨by omega, by show (j : Int) < ((C.frames.length : Nat) : Int); omega⟩, .inl ⟨j, hlt, by rw [frAddr], by simpa using hb⟩, rfl⟩, fun hb => ?_⟩
   rw [wrapi (n := (j : Int) + 1) (by omega) (by omega)]
   refine ⟨⟨j + 1, by omega, by omega, rfl, fun k hk h2 => ?_⟩, ?_⟩
   · rcases Nat.lt_or_ge k j with h4 | h4
     · exact hall k hk h4
     · have : k = j := by omega
       subst this
       simpa using hb
   · show ((C.frames.length : Int) - ((j : Int) + 1)).toNat < ((C.frames.length : Int) - (j : Int)).toNat
     omega
 · have hge : j = C.frames.length := by
     have : ¬ ((j : Int) < ((C.frames.length : Nat) : Int)) := of_decide_eq_false hge
     omega
   subst hge
   refine ⟨.inr ⟨rfl, fun f hf => ?_⟩, rfl⟩
   obtain ⟨k, hk, rfl⟩ := List.getElem_of_mem hf
   exact hall k hk hk
def SameU (fs gs : List Fr) : Prop := gs.length = fs.length ∧ ∀ (i : Nat) (h1 : i < fs.length) (h2 : i < gs.length), gs[i] = { fs[i] with used := (gs[i]).used }
theorem SameU.refl (fs : List Fr) : SameU fs fs := ⟨rfl, fun i h1 h2 => rfl⟩
theorem SameU.set {fs gs : List Fr} (h : SameU fs gs) {i : Nat} (hi : i < gs.length) (u : Bool) : SameU fs (gs.set i { gs[i] with used := u }) := by
 refine ⟨by rw [List.length_set]; exact h.1, fun j h1 h2 => ?_⟩
 rw [List.getElem_set]
 split
 · rename_i e
   subst e
   have := h.2 i h1 hi
   rw [this]
 · exact h.2 j h1 _
theorem cache_victim (h : CaRaw w C) (hp : ∀ f ∈ C.frames, f.pins = 0) : Ret Tryz.prog F.cache_Cache_victim #[.pointer (some ⟨C.c, 0, none⟩)] w (fun v w' => ∃ (i : Nat) (gs : List Fr) (hd : Nat), i < C.frames.length ∧ v = .pointer (some ⟨C.fb, i * 6, none⟩) ∧ SameU C.frames gs ∧ CaRaw w' { C with frames := gs, hand := hd } ∧ Chg (fun q => q = C.c ∨ q = C.fb) w w') := by
 obtain ⟨c0, c1, c2⟩ := h.cells
 have hk1 := h.k1
 have hk2 := h.k2
 have hhd := h.hd
 refine W.cache_Cache_victim_ok (some ⟨C.c, 0, none⟩) w _ ?_
 (delta W.cache_Cache_victim r2 r1 Br wI bd r3 st; dsimp only)
 refine ⟨_, rfl, _, c2, _, rfl, ⟨some ⟨C.fb, 0, none⟩, C.frames.length, C.frames.length⟩, c1, fun at' i w' => ∃ (s : Nat) (gs : List Fr), i = s ∧ s ≤ C.frames.length ∧ at' = (((C.hand + s) % C.frames.length : Nat) : Int) ∧ SameU C.frames gs ∧ CaRaw w' { C with frames := gs } ∧ Chg (fun q => q = C.c ∨ q = C.fb) w w' ∧ ∀ (t : Nat) (hx : (C.hand + t) % C.frames.length < gs.length), t < s → (gs[(C.hand + t) % C.frames.length]).used = false,
   fun _ i _ => (2 * (C.frames.length : Int) - i).toNat, ⟨0, C.frames, rfl, Nat.zero_le _, by rw [Nat.add_zero, Nat.mod_eq_of_lt hhd], SameU.refl _, h, .refl _ _, fun t _ h => by omega⟩, ?_⟩
 rintro _ _ w1 ⟨s, gs, rfl, hs, rfl, hsu, hr, hc, hall⟩
 have hgl : gs.length = C.frames.length := hsu.1
 obtain ⟨i, hi⟩ : ∃ i, i = (C.hand + s) % C.frames.length := ⟨_, rfl⟩
 have hil : i < gs.length := by rw [hi, hgl]; exact Nat.mod_lt _ (by omega)
 rw [← hi]
 obtain ⟨d0, d1, d2⟩ := hr.cells
 have d1 : w1.cell? (Addr.add ⟨C.c, 0, none⟩ 1) = some (.slice (some ⟨C.fb, 0, none⟩) gs.length gs.length) := d1
 have hf : Blk w1 C.fb (fl Fr.c gs).toArray Ty.cache_frame := hr.f
 rw [wrapi (n := 2 * ((C.frames.length : Nat) : Int)) (by omega) (by omega)]
 have hw : IntKind.wrap .i64 (((i : Nat) : Int) + 1) = ((i + 1 : Nat) : Int) := by rw [wrapi (by omega) (by omega)]; rfl
 have htm : Int.tmod ((i + 1 : Nat) : Int) ((gs.length : Nat) : Int) = (((i + 1) % gs.length : Nat) : Int) := by
   rw [Int.tmod_eq_emod_of_nonneg (by omega)]; rfl
 have hnext : (i + 1) % gs.length = (C.hand + (s + 1)) % C.frames.length := by
   rw [hi, hgl, Nat.mod_add_mod]; rfl
 refine ⟨fun hlt => ?_, fun hge => ?_⟩
 · refine Jn1 (fun a w' => a = (((C.hand + (s + 1)) % C.frames.length : Nat) : Int) ∧ ∃ gs' : List Fr, s + 1 ≤ C.frames.length ∧ SameU C.frames gs' ∧ CaRaw w' { C with frames := gs' } ∧ Chg (fun q => q = C.c ∨ q = C.fb) w w' ∧ ∀ (t : Nat) (hx : (C.hand + t) % C.frames.length < gs'.length), t < s + 1 → (gs'[(C.hand + t) % C.frames.length]).used = false) (fun q hq => ⟨_, rfl, ⟨some ⟨C.fb, 0, none⟩, gs.length, gs.length⟩, d1, _, rfl, ⟨by omega, by show (i : Int) < ((gs.length : Nat) : Int); omega⟩, _, rfl, ⟨some ⟨C.fb, 0, none⟩, gs.length, gs.length⟩, d1, by show ((gs.length : Nat) : Int) ≠ 0; omega, _, rfl, ?_⟩) ?_
   · rw [frAddr, hw]
     have f4 := frCell hf hil (j := 4) (by decide)
     have f2 := frCell hf hil (j := 2) (by decide)
     have hpin : (gs[i]).pins = 0 := by
       have h1 := hsu.2 i (by omega) hil
       have h2 : (gs[i]).pins = (C.frames[i]'(by omega)).pins := by rw [h1]
       rw [h2]
       exact hp _ (List.getElem_mem _)
     refine ⟨(gs[i]).pins, by rw [add_mk]; exact f4, fun hb => ?_, fun _ => ⟨_, rfl, (gs[i]).used, by rw [add_mk]; exact f2, fun hu => ⟨_, rfl, ?_⟩, fun hu => ⟨_, rfl, ?_⟩⟩⟩
     · rw [hpin] at hb; simp at hb
     · have hslt : s < C.frames.length := by
         rcases Nat.lt_or_ge s C.frames.length with h1 | h1
         · exact h1
         · have es : s = C.frames.length := by omega
           have e0 : (C.hand + 0) % C.frames.length = i := by rw [hi, es, Nat.add_mod_right]; rfl
           have h2 := hall 0 (by rw [e0]; exact hil) (by omega)
           have h3 : (gs[i]).used = false := by
             have e : gs[(C.hand + 0) % C.frames.length]'(by rw [e0]; exact hil) = gs[i] := by congr 1
             rw [← e]; exact h2
           rw [h3] at hu; cases hu
       obtain ⟨g1, g2, g3, g4⟩ := frSet1 hf hil (j := 2) (by decide) (v := .bool false) { gs[i] with used := false } rfl
       rw [add_mk]
       refine ⟨g1, g2, nx (hq _ _ ⟨by rw [htm, hnext], gs.set i { gs[i] with used := false }, hslt, hsu.set hil false, ?_, hc.trans (g4.mono fun q _ e => .inr e), fun t hx ht => ?_⟩)⟩
       · have hv := hr.v.chg g4 h.a1.1
         refine ⟨?_, g3, hr.dev.chg g4 (fun q hq e => h.a1.2.2 (e ▸ hq)), ?_, ?_, ?_, h.a1⟩
         · show Var _ _ [_, .slice (some ⟨C.fb, 0, none⟩) (gs.set i _).length (gs.set i _).length, _] _
           rw [List.length_set]; exact hv
         · show 8 ≤ (gs.set i _).length; rw [List.length_set]; omega
         · show (gs.set i _).length ≤ 64; rw [List.length_set]; omega
         · show C.hand < (gs.set i _).length; rw [List.length_set]; omega
       · rw [List.getElem_set]
         split
         · rfl
         · rename_i hne
           rcases Nat.lt_or_ge t s with h1 | h1
           · exact hall t _ h1
           · have : t = s := by omega
             subst this
             exact absurd hi hne
     · obtain ⟨s1, s2⟩ := setOk hr.v (i := 2) (by simp)
       rw [add_mk, htm]
       refine ⟨s1, s2, nx ⟨i, gs, (i + 1) % gs.length, by omega, rfl, hsu, ?_, hc.trans ((chgSet _ _ _ _).mono fun q _ e => .inl e)⟩⟩
       have hcc := chgSet w1 C.c 2 (.int .i64 (((i + 1) % gs.length : Nat) : Int))
       refine ⟨varSet hr.v (i := 2) (.int .i64 (((i + 1) % gs.length : Nat) : Int)), Blk.chg hf hcc (fun e => h.a1.1 e.symm), hr.dev.chg hcc (fun q hq e => h.a1.2.1 (e ▸ hq)), hr.k1, hr.k2, ?_, h.a1⟩
       exact Nat.mod_lt _ (by omega)
   · rintro a w' ⟨rfl, gs', h1, h2, h3, h4, h5⟩
     rw [wrapi (n := (s : Int) + 1) (by omega) (by omega)]
     refine ⟨⟨s + 1, gs', by omega, h1, rfl, h2, h3, h4, h5⟩, ?_⟩
     show (2 * (C.frames.length : Int) - ((s : Int) + 1)).toNat < (2 * (C.frames.length : Int) - (s : Int)).toNat
     omega
 · have := of_decide_eq_false hge
   omega
end
end Go.Proofs.YtplieiecebljmaaGreat
namespace Go.Proofs.YtplieiecebljmaaGreat
open Go Gx
structure CTo (C C' : Ch) (w w' : World) (k : Nat) : Prop where
 c : C'.c = C.c
 d : C'.D.d = C.D.d
 len : C'.frames.length = C.frames.length
 lasts : C'.D.lasts = C.D.lasts
 ld : C'.D.ld ≤ C.D.ld + k
 calm : ∀ m, C.D.calm (m + k) → C'.D.calm m
 chg : Chg (fpC C) w w'
 fp : ∀ q, fpC C' q → fpC C q ∨ w.heap.size ≤ q
theorem CTo.refl (C : Ch) (w : World) : CTo C C w w 0 := ⟨rfl, rfl, rfl, rfl, Nat.le_refl _, fun _ h => h, .refl _ _, fun _ h => .inl h⟩
theorem CTo.ext {w w' : World} (C : Ch) (h : Ext w w') : CTo C C w w' 0 := ⟨rfl, rfl, rfl, rfl, Nat.le_refl _, fun _ h => h, Chg.of_ext h, fun _ h => .inl h⟩
theorem CTo.trans {C C' C'' : Ch} {w w' w'' : World} {k l : Nat} (h1 : CTo C C' w w' k) (h2 : CTo C' C'' w' w'' l) : CTo C C'' w w'' (k + l) := by
 have hs := h1.chg.size
 refine ⟨h2.c.trans h1.c, h2.d.trans h1.d, h2.len.trans h1.len, h2.lasts.trans h1.lasts, by have := h1.ld; have := h2.ld; omega, fun m hm => h2.calm m (h1.calm (m + l) (by rw [show m + l + k = m + (k + l) by omega]; exact hm)), chgGrow h1.chg h2.chg fun q hq h => (h1.fp q h).resolve_right (by omega), fun q hq => ?_⟩
 rcases h2.fp q hq with h | h
 · exact h1.fp q h
 · exact .inr (by omega)
theorem CTo.mono {C C' : Ch} {w w' : World} {k l : Nat} (h : CTo C C' w w' k) (hl : k ≤ l) : CTo C C' w w' l :=
 ⟨h.c, h.d, h.len, h.lasts, by have := h.ld; omega, fun m hm => h.calm m (calm_mono hm (by omega)), h.chg, h.fp⟩
theorem CTo.n {C C' : Ch} {w w' : World} {k : Nat} (h : CTo C C' w w' k) : C'.D.n = C.D.n := by unfold Dv.n; rw [h.lasts]
section
variable {w w' : World} {C : Ch} {X : Nat → Prop}
theorem view_at {fs : List Fr} {D : Dv} {c fb hd : Nat} (un : ∀ (i j : Nat) (hi : i < fs.length) (hj : j < fs.length), (fs[i]).full = true → (fs[j]).full = true → (fs[i]).no = (fs[j]).no → i = j) {i : Nat} (hi : i < fs.length) {no : Nat} (hf : (fs[i]).full = true) (hn : (fs[i]).no = no) : (Ch.mk c fb fs hd D).view no = (fs[i]).l := by
 unfold Ch.view
 cases hfd : fs.find? fun f => f.full && f.no == (no : Int) with
 | none =>
   have := List.find?_eq_none.1 hfd _ (List.getElem_mem hi)
   simp [hf, hn] at this
 | some f =>
   have hm := List.mem_of_find?_eq_some hfd
   have hp := List.find?_some hfd
   simp only [Bool.and_eq_true, beq_iff_eq] at hp
   obtain ⟨j, hj, rfl⟩ := List.getElem_of_mem hm
   have := un i j hi hj hf hp.1 (by rw [hn, hp.2])
   subst this
   simp only
theorem view_none {fs : List Fr} {D : Dv} {c fb hd : Nat} {no : Nat} (h : ∀ f ∈ fs, f.full = true → f.no ≠ no) : (Ch.mk c fb fs hd D).view no = D.now no := by
 unfold Ch.view
 cases hfd : fs.find? fun f => f.full && f.no == (no : Int) with
 | none => rfl
 | some f =>
   have hm := List.mem_of_find?_eq_some hfd
   have hp := List.find?_some hfd
   simp only [Bool.and_eq_true, beq_iff_eq] at hp
   exact absurd hp.2 (h f hm hp.1)
theorem Tx.re {B B' : Nat → Prop} {w w' : World} {t : Sl} {l : Key} {V : Nat → Prop} (h : Tx B w t l) (hc : Chg V w w') (hv : ∀ q, q < w.heap.size → B q → ¬ V q) (hb : ∀ q, q < w.heap.size → B q → B' q) : Tx B' w' t l :=
 ⟨h.1.chg hc fun q hq => hv q (h.2.2 q hq).2 (h.2.2 q hq).1, h.2.1, fun q hq => ⟨hb q (h.2.2 q hq).2 (h.2.2 q hq).1, Nat.lt_of_lt_of_le (h.2.2 q hq).2 hc.size⟩⟩
theorem inv_sameU {gs : List Fr} {hd : Nat} {D' : Dv} {V : Nat → Prop} (h : CaInv X w C) (hs : SameU C.frames gs) (hc : Chg V w w') (hV : ∀ q, q < w.heap.size → V q → fpC C q) (hn : D'.n = C.D.n) (hnow : ∀ i, D'.now i = C.D.now i) (hfp : ∀ q, fpD D' q → fpD C.D q ∨ w.heap.size ≤ q) : CaInv X w' { C with frames := gs, hand := hd, D := D' } := by
 have hsz := hc.size
 have hF : ∀ q, q < w.heap.size → fpC { C with frames := gs, hand := hd, D := D' } q → fpC C q := fun q hq hf => by
   rcases hf with h1 | h1 | h1
   · exact .inl h1
   · exact .inr (.inl h1)
   · exact .inr (.inr ((hfp q h1).resolve_right (by omega)))
 have hel : ∀ (i : Nat) (hi : i < gs.length), ∃ hi' : i < C.frames.length, gs[i] = { C.frames[i] with used := (gs[i]).used } := fun i hi => ⟨by rw [← hs.1]; exact hi, hs.2 i (by rw [← hs.1]; exact hi) hi⟩
 refine ⟨fun f hf => ?_, fun f hf hfull => ?_, fun i j hi hj h1 h2 h3 => ?_, fun q hq => ⟨Nat.lt_of_lt_of_le (h.xl q hq).1 hsz, fun hf => (h.xl q hq).2 (hF q (h.xl q hq).1 hf)⟩⟩
 · obtain ⟨i, hi, rfl⟩ := List.getElem_of_mem hf
   obtain ⟨hi', e⟩ := hel i hi
   have : (gs[i]).pins = (C.frames[i]).pins := by rw [e]
   rw [this]
   exact h.pins _ (List.getElem_mem hi')
 · obtain ⟨i, hi, rfl⟩ := List.getElem_of_mem hf
   obtain ⟨hi', e⟩ := hel i hi
   have e1 : (gs[i]).full = (C.frames[i]).full := by rw [e]
   have e2 : (gs[i]).no = (C.frames[i]).no := by rw [e]
   have e3 : (gs[i]).b = (C.frames[i]).b := by rw [e]
   have e4 : (gs[i]).l = (C.frames[i]).l := by rw [e]
   have e5 : (gs[i]).dirty = (C.frames[i]).dirty := by rw [e]
   obtain ⟨no, g1, g2, g3, g4, g5⟩ := h.ok _ (List.getElem_mem hi') (by rw [← e1]; exact hfull)
   refine ⟨no, by rw [e2]; exact g1, by rw [hn]; exact g2, ?_, by rw [e4]; exact g4, fun hd => by rw [e4, hnow]; exact g5 (by rw [← e5]; exact hd)⟩
   rw [e3, e4]
   exact Tx.re g3 hc (fun q hq hb hv => hb.1 (hV q hq hv)) fun q hq hb => ⟨fun hf => hb.1 (hF q hq hf), hb.2⟩
 · obtain ⟨hi', e⟩ := hel i hi
   obtain ⟨hj', e'⟩ := hel j hj
   have e1 : (gs[i]).full = (C.frames[i]).full := by rw [e]
   have e2 : (gs[i]).no = (C.frames[i]).no := by rw [e]
   have e3 : (gs[j]).full = (C.frames[j]).full := by rw [e']
   have e4 : (gs[j]).no = (C.frames[j]).no := by rw [e']
   exact h.un i j hi' hj' (by rw [← e1]; exact h1) (by rw [← e3]; exact h2) (by rw [← e2, ← e4]; exact h3)
theorem view_sameU {gs : List Fr} {hd : Nat} {D' : Dv} (h : CaInv X w C) (hs : SameU C.frames gs) (hnow : ∀ i, D'.now i = C.D.now i) (no : Nat) : (Ch.mk C.c C.fb gs hd D').view no = C.view no := by
 have hel : ∀ (i : Nat) (hi : i < gs.length), ∃ hi' : i < C.frames.length, gs[i] = { C.frames[i] with used := (gs[i]).used } := fun i hi => ⟨by rw [← hs.1]; exact hi, hs.2 i (by rw [← hs.1]; exact hi) hi⟩
 by_cases hex : ∃ (i : Nat) (hi : i < C.frames.length), (C.frames[i]).full = true ∧ (C.frames[i]).no = no
 · obtain ⟨i, hi, h1, h2⟩ := hex
   have hi2 : i < gs.length := by rw [hs.1]; exact hi
   obtain ⟨hi', e⟩ := hel i hi2
   have e1 : (gs[i]).full = (C.frames[i]).full := by rw [e]
   have e2 : (gs[i]).no = (C.frames[i]).no := by rw [e]
   have e3 : (gs[i]).l = (C.frames[i]).l := by rw [e]
   have u2 : ∀ (i j : Nat) (hi : i < gs.length) (hj : j < gs.length), (gs[i]).full = true → (gs[j]).full = true → (gs[i]).no = (gs[j]).no → i = j := by
     intro a b ha hb k1 k2 k3
     obtain ⟨ha', ea⟩ := hel a ha
     obtain ⟨hb', eb⟩ := hel b hb
     have f1 : (gs[a]).full = (C.frames[a]).full := by rw [ea]
     have f2 : (gs[a]).no = (C.frames[a]).no := by rw [ea]
     have f3 : (gs[b]).full = (C.frames[b]).full := by rw [eb]
     have f4 : (gs[b]).no = (C.frames[b]).no := by rw [eb]
     exact h.un a b ha' hb' (by rw [← f1]; exact k1) (by rw [← f3]; exact k2) (by rw [← f2, ← f4]; exact k3)
   rw [view_at u2 hi2 (by rw [e1]; exact h1) (by rw [e2]; exact h2), e3]
   exact (view_at (fs := C.frames) (D := C.D) (c := C.c) (fb := C.fb) (hd := C.hand) h.un hi h1 h2).symm
 · have hno : ∀ f ∈ C.frames, f.full = true → f.no ≠ no := fun f hf h1 h2 => by
     obtain ⟨i, hi, rfl⟩ := List.getElem_of_mem hf
     exact hex ⟨i, hi, h1, h2⟩
   have e : C.view no = C.D.now no := view_none (fs := C.frames) (D := C.D) (c := C.c) (fb := C.fb) (hd := C.hand) hno
   rw [e, ← hnow]
   refine view_none fun f hf h1 h2 => ?_
   obtain ⟨i, hi, rfl⟩ := List.getElem_of_mem hf
   obtain ⟨hi', e⟩ := hel i hi
   have e1 : (gs[i]).full = (C.frames[i]).full := by rw [e]
   have e2 : (gs[i]).no = (C.frames[i]).no := by rw [e]
   exact hno _ (List.getElem_mem hi') (by rw [← e1]; exact h1) (by rw [← e2]; exact h2)
theorem inv_drop {i : Nat} (hi : i < C.frames.length) {D' : Dv} {V : Nat → Prop} (h : CaInv X w C) (hc : Chg V w w') (hV : ∀ q, q < w.heap.size → V q → fpC C q) (hn : D'.n = C.D.n)
   (hnow : ∀ j : Nat, ((C.frames[i]).full = true → (C.frames[i]).no ≠ j) → D'.now j = C.D.now j) (hfp : ∀ q, fpD D' q → fpD C.D q ∨ w.heap.size ≤ q) (f0 : Fr) (hf0 : f0.full = false) (hp0 : f0.pins = 0) : CaInv X w' { C with frames := C.frames.set i f0, D := D' } := by
 have hsz := hc.size
 have hF : ∀ q, q < w.heap.size → fpC { C with frames := C.frames.set i f0, D := D' } q → fpC C q := fun q hq hf => by
   rcases hf with h1 | h1 | h1
   · exact .inl h1
   · exact .inr (.inl h1)
   · exact .inr (.inr ((hfp q h1).resolve_right (by omega)))
 refine ⟨fun f hf => ?_, fun f hf hfull => ?_, fun a b ha hb h1 h2 h3 => ?_, fun q hq => ⟨Nat.lt_of_lt_of_le (h.xl q hq).1 hsz, fun hf => (h.xl q hq).2 (hF q (h.xl q hq).1 hf)⟩⟩
 · rcases List.mem_or_eq_of_mem_set hf with hf | rfl
   · exact h.pins f hf
   · exact hp0
 · obtain ⟨k, hk, rfl⟩ := List.getElem_of_mem hf
   have hk' : k < C.frames.length := by simpa using hk
   by_cases e : i = k
   · subst e
     simp only [List.getElem_set_self] at hfull
     rw [hf0] at hfull; cases hfull
   · simp only [List.getElem_set_ne e] at hfull ⊢
     obtain ⟨no, g1, g2, g3, g4, g5⟩ := h.ok _ (List.getElem_mem hk') hfull
     refine ⟨no, g1, by rw [hn]; exact g2, Tx.re g3 hc (fun q hq hb hv => hb.1 (hV q hq hv)) fun q hq hb => ⟨fun hf => hb.1 (hF q hq hf), hb.2⟩, g4, fun hd => ?_⟩
     show _ = D'.now no
     rw [hnow no fun hf2 he => e (h.un i k hi hk' hf2 hfull (by rw [he, g1]))]
     exact g5 hd
 · have ha' : a < C.frames.length := by simpa using ha
   have hb' : b < C.frames.length := by simpa using hb
   by_cases ea : i = a
   · subst ea
     simp only [List.getElem_set_self] at h1
     rw [hf0] at h1; cases h1
   by_cases eb : i = b
   · subst eb
     simp only [List.getElem_set_self] at h2
     rw [hf0] at h2; cases h2
   simp only [List.getElem_set_ne ea] at h1 h3
   simp only [List.getElem_set_ne eb] at h2 h3
   exact h.un a b ha' hb' h1 h2 h3
theorem view_drop {i : Nat} (hi : i < C.frames.length) {D' : Dv} {hd : Nat} (h : CaInv X w C) (hl : (C.frames[i]).full = true → ∀ j : Nat, (C.frames[i]).no = j → D'.now j = (C.frames[i]).l) (hnow : ∀ j : Nat, ((C.frames[i]).full = true → (C.frames[i]).no ≠ j) → D'.now j = C.D.now j) (f0 : Fr) (hf0 : f0.full = false) (no : Nat) :
   (Ch.mk C.c C.fb (C.frames.set i f0) hd D').view no = C.view no := by
 by_cases hex : ∃ (k : Nat) (hk : k < C.frames.length), (C.frames[k]).full = true ∧ (C.frames[k]).no = no
 · obtain ⟨k, hk, h1, h2⟩ := hex
   have e0 := view_at (fs := C.frames) (D := C.D) (c := C.c) (fb := C.fb) (hd := C.hand) h.un hk h1 h2
   have e0 : C.view no = (C.frames[k]).l := e0
   rw [e0]
   by_cases e : i = k
   · subst e
     rw [← hl h1 no h2]
     refine view_none fun f hf g1 g2 => ?_
     obtain ⟨a, ha, rfl⟩ := List.getElem_of_mem hf
     have ha' : a < C.frames.length := by simpa using ha
     by_cases ea : i = a
     · subst ea
       simp only [List.getElem_set_self] at g1
       rw [hf0] at g1; cases g1
     · simp only [List.getElem_set_ne ea] at g1 g2
       exact ea (h.un i a hi ha' h1 g1 (by rw [h2, g2]))
   · have hk2 : k < (C.frames.set i f0).length := by simpa using hk
     have ek : (C.frames.set i f0)[k] = C.frames[k] := List.getElem_set_ne e _
     have u2 : ∀ (a b : Nat) (ha : a < (C.frames.set i f0).length) (hb : b < (C.frames.set i f0).length), ((C.frames.set i f0)[a]).full = true → ((C.frames.set i f0)[b]).full = true → ((C.frames.set i f0)[a]).no = ((C.frames.set i f0)[b]).no → a = b := by
       intro a b ha hb h1 h2 h3
       have ha' : a < C.frames.length := by simpa using ha
       have hb' : b < C.frames.length := by simpa using hb
       by_cases ea : i = a
       · subst ea
         simp only [List.getElem_set_self] at h1
         rw [hf0] at h1; cases h1
       by_cases eb : i = b
       · subst eb
         simp only [List.getElem_set_self] at h2
         rw [hf0] at h2; cases h2
       simp only [List.getElem_set_ne ea] at h1 h3
       simp only [List.getElem_set_ne eb] at h2 h3
       exact h.un a b ha' hb' h1 h2 h3
     rw [view_at u2 hk2 (by rw [ek]; exact h1) (by rw [ek]; exact h2), ek]
 · have hno : ∀ f ∈ C.frames, f.full = true → f.no ≠ no := fun f hf h1 h2 => by
     obtain ⟨k, hk, rfl⟩ := List.getElem_of_mem hf
     exact hex ⟨k, hk, h1, h2⟩
   have e : C.view no = C.D.now no := view_none (fs := C.frames) (D := C.D) (c := C.c) (fb := C.fb) (hd := C.hand) hno
   rw [e, ← hnow no fun h1 h2 => hno _ (List.getElem_mem hi) h1 h2]
   refine view_none fun f hf h1 h2 => ?_
   rcases List.mem_or_eq_of_mem_set hf with hf | rfl
   · exact hno f hf h1 h2
   · rw [hf0] at h1; cases h1
def RoomR (X : Nat → Prop) (C : Ch) (w : World) (v : Value) (w' : World) : Prop :=
 ∃ C' : Ch, CaAt X w' C' ∧ CTo C C' w w' 1 ∧ C'.fb = C.fb ∧ (∀ j, C'.view j = C.view j) ∧ (∀ f ∈ C'.frames, f.full = true → ∃ g ∈ C.frames, g.full = true ∧ g.no = f.no) ∧
   ((∃ (i : Nat) (hi : i < C'.frames.length), v = .tuple #[.pointer (some ⟨C.fb, i * 6, none⟩), .int .i64 0] ∧ (C'.frames[i]).full = false ∧ ((C'.frames[i]).pins = 0)) ∨
    (v = .tuple #[.pointer none, .int .i64 3] ∧ ¬ C.D.calm 1))
theorem cache_room (h : CaAt X w C) (hld : C.D.ld ≤ 1000000000) : Ret Tryz.prog F.cache_Cache_room #[.pointer (some ⟨C.c, 0, none⟩)] w (RoomR X C w) := by
 have hraw := h.raw
 refine W.cache_Cache_room_ok (some ⟨C.c, 0, none⟩) w _ ?_
 (delta W.cache_Cache_room c19 Br r3 r2 r1 c2; dsimp only)
 refine (cache_empty hraw).use ?_
 rintro _ _ ⟨he, rfl⟩
 rcases he with ⟨i, hi, rfl, hf⟩ | ⟨rfl, hall⟩
 · exact ⟨_, rfl, fun _ => ⟨C, h, (CTo.refl C w).mono (Nat.zero_le _), rfl, fun _ => rfl, fun f hf hfl => ⟨f, hf, hfl, rfl⟩, .inl ⟨i, hi, rfl, hf, h.inv.pins _ (List.getElem_mem hi)⟩⟩, fun h => (by cases h)⟩
 refine ⟨_, rfl, fun h => (by cases h), fun _ => (cache_victim hraw h.inv.pins).use ?_⟩
 rintro _ w1 ⟨i, gs, hd, hi, rfl, hsu, hr1, hc1⟩
 have hi2 : i < gs.length := by rw [hsu.1]; exact hi
 have hcf : Chg (fpC C) w w1 := hc1.mono fun q _ hq => by
   rcases hq with hq | hq
   · exact .inl hq
   · exact .inr (.inl hq)
 have hinv1 := inv_sameU (hd := hd) (D' := C.D) h.inv hsu hcf (fun q _ h => h) rfl (fun _ => rfl) fun q hq => .inl hq
 have hview1 := view_sameU (hd := hd) (D' := C.D) h.inv hsu fun _ => rfl
 obtain ⟨C1, hC1⟩ : ∃ C1 : Ch, C1 = { C with frames := gs, hand := hd } := ⟨_, rfl⟩
 have hinv1 : CaInv X w1 C1 := by rw [hC1]; exact hinv1
 have hr1 : CaRaw w1 C1 := by rw [hC1]; exact hr1
 have hview1 : ∀ no, C1.view no = C.view no := by rw [hC1]; exact hview1
 have hfp1 : ∀ q, fpC C1 q ↔ fpC C q := by rw [hC1]; exact fun q => Iff.rfl
 have hD1 : C1.D = C.D := by rw [hC1]
 have hc1' : C1.c = C.c ∧ C1.fb = C.fb := by rw [hC1]; exact ⟨rfl, rfl⟩
 have hgs : C1.frames = gs := by rw [hC1]
 have hi3 : i < C1.frames.length := by rw [hgs]; exact hi2
 have hfull : (C1.frames[i]).full = true := by
   have e := hsu.2 i hi hi2
   have : (gs[i]).full = (C.frames[i]).full := by rw [e]
   simp only [hgs]
   rw [this]
   exact hall _ (List.getElem_mem hi)
 have hsub : ∀ f ∈ C1.frames, f.full = true → ∃ g ∈ C.frames, g.full = true ∧ g.no = f.no := by
   rw [hgs]
   intro f hf hfl
   obtain ⟨k, hk, rfl⟩ := List.getElem_of_mem hf
   have hk' : k < C.frames.length := by rw [← hsu.1]; exact hk
   have e := hsu.2 k hk' hk
   have e1 : (gs[k]).full = (C.frames[k]).full := by rw [e]
   have e2 : (gs[k]).no = (C.frames[k]).no := by rw [e]
   exact ⟨C.frames[k], List.getElem_mem hk', by rw [← e1]; exact hfl, e2.symm⟩
 obtain ⟨no, g1, g2, g3, g4, g5⟩ := hinv1.ok _ (List.getElem_mem hi3) hfull
 have f1 := frCell hr1.f hi3 (j := 1) (by decide)
 -- the frame, laid anew, over a device that has its bytes
 have fin : ∀ (w2 : World) (D' : Dv), Chg (fpC C) w1 w2 → CaRaw w2 { C1 with D := D' } → CTo C { C1 with D := D' } w w2 1 → D'.n = C.D.n → (∀ j : Nat, (C1.frames[i]).no ≠ j → D'.now j = C.D.now j) → (∀ j : Nat, (C1.frames[i]).no = j → D'.now j = (C1.frames[i]).l) → (∀ q, fpD D' q → fpD C.D q ∨ w1.heap.size ≤ q) →
     ∃ a21 : Addr, (some ⟨C.fb, i * 6, none⟩ : Option Addr) = some a21 ∧ StoreOk w2 a21 [.bool false, .bool false, .bool false, .int .i64 0, .int .i64 0, .slice none 0 0] ∧ (6 : Nat) = 6 ∧ Nx (setCells w2 a21 0 [.bool false, .bool false, .bool false, .int .i64 0, .int .i64 0, .slice none 0 0]) fun w22 => RoomR X C w (.tuple #[.pointer (some ⟨C.fb, i * 6, none⟩), .int .i64 0]) w22 := by
   intro w2 D' hcw hr2 hto hn' hnw1 hnw2 hfpd
   have hb2 : Blk w2 C1.fb (fl Fr.c C1.frames).toArray Ty.cache_frame := hr2.f
   obtain ⟨s1, s2, s3⟩ := frSetAll hb2 hi3 fr0
   rw [hc1'.2] at s1 s2 s3
   have hinv3 : CaInv X (setCells w2 ⟨C.fb, i * 6, none⟩ 0 fr0.c) { C1 with frames := C1.frames.set i fr0, D := D' } := by
     refine inv_drop (V := fpC C) (w := w1) hi3 hinv1 (hcw.trans (s3.mono fun q _ e => .inr (.inl e))) (fun q _ hq => (hfp1 q).2 hq) (by rw [hD1]; exact hn') (fun j hj => by rw [hD1]; exact hnw1 j fun e => hj hfull e) (fun q hq => by rw [hD1]; exact hfpd q hq) fr0 rfl rfl
   have hv2 := hr2.v
   refine ⟨_, rfl, s1, rfl, nx ⟨{ C1 with frames := C1.frames.set i fr0, D := D' }, ⟨?_, hinv3⟩, ?_, hc1'.2, fun j => ?_, fun f hf hfl => ?_, .inl ⟨i, by show i < (C1.frames.set i fr0).length; rw [List.length_set]; exact hi3, rfl, by simp [fr0], by simp [fr0]⟩⟩⟩
   · have hne : C1.c ≠ C.fb := by have := hr2.a1.1; rw [← hc1'.2]; exact this
     refine ⟨?_, by show Blk _ C1.fb _ _; rw [hc1'.2]; exact s2, hr2.dev.chg s3 (fun q hq e => hr2.a1.2.2 (by rw [show ({ C1 with D := D' } : Ch).fb = C1.fb from rfl, hc1'.2, ← e]; exact hq)), ?_, ?_, ?_, hr2.a1⟩
     · have := hv2.chg s3 hne
       show Var _ _ [_, .slice _ (C1.frames.set i fr0).length (C1.frames.set i fr0).length, _] _
       rw [List.length_set]; exact this
     · show 8 ≤ (C1.frames.set i fr0).length; rw [List.length_set]; exact hr2.k1
     · show (C1.frames.set i fr0).length ≤ 64; rw [List.length_set]; exact hr2.k2
     · show C1.hand < (C1.frames.set i fr0).length; rw [List.length_set]; exact hr2.hd
   · refine ⟨hto.c, hto.d, by show (C1.frames.set i fr0).length = _; rw [List.length_set]; exact hto.len, hto.lasts, hto.ld, hto.calm, hto.chg.trans (s3.mono fun q _ e => .inr (.inl e)), hto.fp⟩
   · rw [← hview1]
     exact view_drop hi3 hinv1 (fun _ j hj => hnw2 j hj) (fun j hj => by rw [hD1]; exact hnw1 j fun e => hj hfull e) fr0 rfl j
   · rcases List.mem_or_eq_of_mem_set hf with hf | rfl
     · exact hsub f hf hfl
     · cases hfl
 refine ⟨_, rfl, fun h => (by cases h), fun _ => Jn0 (fun w2 => ∃ D' : Dv, Chg (fpC C) w1 w2 ∧ CaRaw w2 { C1 with D := D' } ∧ CTo C { C1 with D := D' } w w2 1 ∧ D'.n = C.D.n ∧ (∀ j : Nat, (C1.frames[i]).no ≠ j → D'.now j = C.D.now j) ∧ (∀ j : Nat, (C1.frames[i]).no = j → D'.now j = (C1.frames[i]).l) ∧ (∀ q, fpD D' q → fpD C.D q ∨ w1.heap.size ≤ q)) (fun q hq => ⟨_, rfl, (C1.frames[i]).dirty, ?_, fun hdirty => ?_, fun hclean => hq _ ⟨C.D, .refl _ _, ?_, ?_, rfl, fun _ _ => rfl, fun j hj => ?_, fun q h => .inl h⟩⟩) ?_⟩
 · rw [add_mk, ← hc1'.2]; exact f1
 · -- it is dirty: the device is written
   have hxd := ext_drew w1
   have hrd := hr1.ext hxd
   obtain ⟨e0, _, _⟩ := hrd.cells
   rw [hc1'.1, hD1] at e0
   have f3 := frCell hrd.f hi3 (j := 3) (by decide)
   have f5 := frCell hrd.f hi3 (j := 5) (by decide)
   rw [hc1'.2] at f3 f5
   refine nx ⟨_, rfl, id, _, e0, _, rfl, id, ((no : Nat) : Int), ?_, _, rfl, id, (C1.frames[i]).b, by rw [add_mk]; exact f5, ?_⟩
   · rw [add_mk, f3]
     show some (Value.int .i64 (C1.frames[i]).no) = _
     rw [g1]
   have hdev : DevAt w1.drew C.D := by rw [← hD1]; exact hrd.dev
   refine (dev_Write hdev (i := no) (by rw [← hD1]; exact g2) hld (g3.1.ext hxd) g4 fun q hq hf => (g3.2.2 q hq).1.1 (.inr (.inr (by rw [hD1]; exact hf)))).use ?_
   rintro v2 w2 hw
   rcases hw with ⟨hb, rfl, hd2, hc2⟩ | ⟨hb, rfl, s, hd2, hc2, hfr⟩
   · have hcc : Chg (fpC C) w1 w2 := (Chg.of_ext hxd).trans (hc2.mono fun q _ e => .inr (.inr (.inl e)))
     refine ⟨3, rfl, fun _ => ⟨{ C1 with D := C.D.burn 2 }, ⟨?_, ?_⟩, ?_, hc1'.2, fun j => ?_, hsub, .inr ⟨rfl, fun hcm => ?_⟩⟩, fun h => (by cases h)⟩
     · have hr2 := hrd.v.chg hc2 (fun e => hrd.a1.2.1 (.inl (by rw [hD1]; exact e)))
       rw [hD1] at hr2
       have ha := hr1.a1
       rw [hD1] at ha
       exact ⟨hr2, Blk.chg hrd.f hc2 (fun e => hrd.a1.2.2 (.inl (by rw [hD1]; exact e))), hd2, hr1.k1, hr1.k2, hr1.hd, ha⟩
     · have := inv_sameU (C := C1) (hd := C1.hand) (D' := C.D.burn 2) hinv1 (SameU.refl _) hcc (fun q _ hq => (hfp1 q).2 hq) (by rw [hD1]; rfl) (fun j => by rw [hD1]; rfl) fun q hq => .inl (by rw [hD1]; exact hq)
       exact this
     · refine ⟨hc1'.1, rfl, by show C1.frames.length = _; rw [hgs]; exact hsu.1, rfl, Nat.le_succ _, fun m hm => (calm_burn (.inr rfl) h.raw.dev.f4 hm).1, hcf.trans hcc, fun q hq => .inl ?_⟩
       rcases hq with e | e | e
       · exact .inl (by rw [← hc1'.1]; exact e)
       · exact .inr (.inl (by rw [← hc1'.2]; exact e))
       · exact .inr (.inr e)
     · rw [← hview1]
       exact view_sameU (C := C1) hinv1 (SameU.refl _) (fun j => by rw [hD1]; rfl) j
     · have := (calm_burn (k := 2) (m := 0) (.inr rfl) h.raw.dev.f4 hcm).2
       rw [hb] at this; cases this
   · have hcc : Chg (fpC C) w1 w2 := (Chg.of_ext hxd).trans (hc2.mono fun q _ e => .inr (.inr e))
     have hfpd : ∀ q, fpD (C.D.put no s (C1.frames[i]).l) q → fpD C.D q ∨ w1.heap.size ≤ q := by
       rintro q (e | e | e | ⟨x, hx, e⟩)
       · exact .inl (.inl e)
       · exact .inl (.inr (.inl e))
       · exact .inl (.inr (.inr (.inl e)))
       · rcases List.mem_cons.1 hx with rfl | hx
         · exact hfr q e
         · exact .inl (.inr (.inr (.inr ⟨x, (List.mem_filter.1 hx).1, e⟩)))
     have hnd : ∀ q, fpD C.D q → q ≠ C1.c ∧ q ≠ C1.fb := fun q hq => ⟨fun e => hr1.a1.2.1 (by rw [hD1, ← e]; exact hq), fun e => hr1.a1.2.2 (by rw [hD1, ← e]; exact hq)⟩
     refine ⟨0, rfl, fun h => (by cases h), fun _ => hq _ ⟨C.D.put no s (C1.frames[i]).l, hcc, ?_, ?_, rfl, fun j hj => ?_, fun j hj => ?_, hfpd⟩⟩
     · have hr2 := hrd.v.chg hc2 (fun e => (hnd _ e).1 rfl)
       rw [hD1] at hr2
       have hl1 : C1.c < w1.heap.size := hr1.v.lt
       have hl2 : C1.fb < w1.heap.size := Blk.lt hr1.f
       refine ⟨hr2, Blk.chg hrd.f hc2 (fun e => (hnd _ e).2 rfl), hd2, hr1.k1, hr1.k2, hr1.hd, hr1.a1.1, fun e => ?_, fun e => ?_⟩
       · rcases hfpd _ e with h1 | h1
         · exact (hnd _ h1).1 rfl
         · have : C1.c < w1.heap.size := hl1
           have h1 : w1.heap.size ≤ C1.c := h1
           omega
       · rcases hfpd _ e with h1 | h1
         · exact (hnd _ h1).2 rfl
         · have h1 : w1.heap.size ≤ C1.fb := h1
           omega
     · refine ⟨hc1'.1, rfl, by show C1.frames.length = _; rw [hgs]; exact hsu.1, rfl, Nat.le_refl _, fun m hm => (calm_burn (.inr rfl) h.raw.dev.f4 hm).1, hcf.trans hcc, fun q hq => ?_⟩
       rcases hq with e | e | e
       · exact .inl (.inl (by rw [← hc1'.1]; exact e))
       · exact .inl (.inr (.inl (by rw [← hc1'.2]; exact e)))
       · rcases hfpd q e with h1 | h1
         · exact .inl (.inr (.inr h1))
         · exact .inr (Nat.le_trans hcf.size h1)
     · rw [put_now, if_neg (fun e => hj (by rw [g1, e]))]
     · rw [put_now, if_pos (by rw [g1] at hj; omega)]
 · rw [← hD1]; exact hr1
 · refine ⟨hc1'.1, rfl, by show C1.frames.length = _; rw [hgs]; exact hsu.1, rfl, Nat.le_succ _, fun m hm => calm_mono hm (Nat.le_succ _), hcf, fun q hq => .inl ?_⟩
   rcases hq with e | e | e
   · exact .inl (by rw [← hc1'.1]; exact e)
   · exact .inr (.inl (by rw [← hc1'.2]; exact e))
   · exact .inr (.inr e)
 · have : no = j := by rw [g1] at hj; omega
   subst this
   rw [← hD1]
   exact (g5 hclean).symm
 · rintro w2 ⟨D', a1, a2, a3, a4, a5, a6, a7⟩
   exact fin w2 D' a1 a2 a3 a4 a5 a6 a7
end
end Go.Proofs.YtplieiecebljmaaGreat
namespace Go.Proofs.YtplieiecebljmaaGreat
open Go Gx
def Un (fs : List Fr) : Prop := ∀ (i j : Nat) (hi : i < fs.length) (hj : j < fs.length), (fs[i]).full = true → (fs[j]).full = true → (fs[i]).no = (fs[j]).no → i = j
theorem view_congr {fs gs : List Fr} {D D' : Dv} {c fb hd c' fb' hd' j : Nat} (uf : Un fs) (ug : Un gs) (h1 : ∀ (i : Nat) (hi : i < fs.length), (fs[i]).full = true → (fs[i]).no = j → ∃ (k : Nat) (hk : k < gs.length), (gs[k]).full = true ∧ (gs[k]).no = j ∧ (gs[k]).l = (fs[i]).l)
   (h2 : (∀ f ∈ fs, f.full = true → f.no ≠ j) → (∀ f ∈ gs, f.full = true → f.no ≠ j) ∧ D'.now j = D.now j) : (Ch.mk c' fb' gs hd' D').view j = (Ch.mk c fb fs hd D).view j := by
 by_cases hex : ∃ (k : Nat) (hk : k < fs.length), (fs[k]).full = true ∧ (fs[k]).no = j
 · obtain ⟨k, hk, g1, g2⟩ := hex
   obtain ⟨m, hm, e1, e2, e3⟩ := h1 k hk g1 g2
   rw [view_at uf hk g1 g2, view_at ug hm e1 e2, e3]
 · have hno : ∀ f ∈ fs, f.full = true → f.no ≠ j := fun f hf h1 h2 => by
     obtain ⟨k, hk, rfl⟩ := List.getElem_of_mem hf
     exact hex ⟨k, hk, h1, h2⟩
   obtain ⟨e1, e2⟩ := h2 hno
   rw [view_none hno, view_none e1, e2]
section
variable {w w' : World} {C : Ch} {X : Nat → Prop}
theorem inv_lay {i : Nat} (hi : i < C.frames.length) {no : Nat} {V : Nat → Prop} (h : CaInv X w C) (hc : Chg V w w') (hV : ∀ q, q < w.heap.size → V q → fpC C q) {D' : Dv} (hn : D'.n = C.D.n) (hnow : ∀ j, D'.now j = C.D.now j) (hfp : ∀ q, fpD D' q ↔ fpD C.D q)
   (f' : Fr) (hfull : f'.full = true) (hpin : f'.pins = 0) (hok : FrOk X w' { C with frames := C.frames.set i f', D := D' } f' no) (hno : ∀ (k : Nat) (hk : k < C.frames.length), k ≠ i → (C.frames[k]).full = true → (C.frames[k]).no ≠ no) : CaInv X w' { C with frames := C.frames.set i f', D := D' } := by
 have hsz := hc.size
 have hF : ∀ q, fpC { C with frames := C.frames.set i f', D := D' } q → fpC C q := fun q hf => by
   rcases hf with h1 | h1 | h1
   · exact .inl h1
   · exact .inr (.inl h1)
   · exact .inr (.inr ((hfp q).1 h1))
 refine ⟨fun f hf => ?_, fun f hf hfl => ?_, fun a b ha hb h1 h2 h3 => ?_, fun q hq => ⟨Nat.lt_of_lt_of_le (h.xl q hq).1 hsz, fun hf => (h.xl q hq).2 (hF q hf)⟩⟩
 · rcases List.mem_or_eq_of_mem_set hf with hf | rfl
   · exact h.pins f hf
   · exact hpin
 · obtain ⟨k, hk, rfl⟩ := List.getElem_of_mem hf
   have hk' : k < C.frames.length := by simpa using hk
   by_cases e : i = k
   · subst e
     simp only [List.getElem_set_self]
     exact ⟨no, hok⟩
   · simp only [List.getElem_set_ne e] at hfl ⊢
     obtain ⟨m, g1, g2, g3, g4, g5⟩ := h.ok _ (List.getElem_mem hk') hfl
     exact ⟨m, g1, by show m < D'.n; rw [hn]; exact g2, Tx.re g3 hc (fun q hq hb hv => hb.1 (hV q hq hv)) fun q _ hb => ⟨fun hf => hb.1 (hF q hf), hb.2⟩, g4, fun hd => by show _ = D'.now m; rw [hnow]; exact g5 hd⟩
 · have ha' : a < C.frames.length := by simpa using ha
   have hb' : b < C.frames.length := by simpa using hb
   by_cases ea : i = a
   · by_cases eb : i = b
     · omega
     · subst ea
       simp only [List.getElem_set_self] at h3
       simp only [List.getElem_set_ne eb] at h2 h3
       exact absurd (by rw [← h3]; exact hok.num) (hno b hb' (fun e => eb e.symm) h2)
   · by_cases eb : i = b
     · subst eb
       simp only [List.getElem_set_self] at h3
       simp only [List.getElem_set_ne ea] at h1 h3
       exact absurd (by rw [h3]; exact hok.num) (hno a ha' (fun e => ea e.symm) h1)
     · simp only [List.getElem_set_ne ea] at h1 h3
       simp only [List.getElem_set_ne eb] at h2 h3
       exact h.un a b ha' hb' h1 h2 h3
theorem un_lay {i : Nat} (hi : i < C.frames.length) {no : Nat} (h : Un C.frames) (f' : Fr) (hnum : f'.no = no) (hno : ∀ (k : Nat) (hk : k < C.frames.length), k ≠ i → (C.frames[k]).full = true → (C.frames[k]).no ≠ no) : Un (C.frames.set i f') := by
 intro a b ha hb h1 h2 h3
 have ha' : a < C.frames.length := by simpa using ha
 have hb' : b < C.frames.length := by simpa using hb
 by_cases ea : i = a
 · by_cases eb : i = b
   · omega
   · subst ea
     simp only [List.getElem_set_self] at h3
     simp only [List.getElem_set_ne eb] at h2 h3
     exact absurd (by rw [← h3]; exact hnum) (hno b hb' (fun e => eb e.symm) h2)
 · by_cases eb : i = b
   · subst eb
     simp only [List.getElem_set_self] at h3
     simp only [List.getElem_set_ne ea] at h1 h3
     exact absurd (by rw [h3]; exact hnum) (hno a ha' (fun e => ea e.symm) h1)
   · simp only [List.getElem_set_ne ea] at h1 h3
     simp only [List.getElem_set_ne eb] at h2 h3
     exact h a b ha' hb' h1 h2 h3
theorem view_lay {i : Nat} (hi : i < C.frames.length) {no : Nat} (h : Un C.frames) {D' : Dv} (hnow : ∀ j, D'.now j = C.D.now j) (f' : Fr) (hfull : f'.full = true) (hnum : f'.no = no) (hold : (C.frames[i]).full = true → (C.frames[i]).no = no) (hno : ∀ (k : Nat) (hk : k < C.frames.length), k ≠ i → (C.frames[k]).full = true → (C.frames[k]).no ≠ no) {hd : Nat} (j : Nat) :
   (Ch.mk C.c C.fb (C.frames.set i f') hd D').view j = if j = no then f'.l else C.view j := by
 have hu := un_lay hi h f' hnum hno
 have hi2 : i < (C.frames.set i f').length := by simpa using hi
 by_cases e : j = no
 · subst e
   rw [if_pos rfl, view_at hu hi2 (by simp [hfull]) (by simpa using hnum)]
   simp
 · rw [if_neg e]
   refine view_congr (fs := C.frames) (D := C.D) (c := C.c) (fb := C.fb) (hd := C.hand) h hu (fun k hk g1 g2 => ?_) fun hall => ⟨fun f hf g1 g2 => ?_, hnow j⟩
   · have hki : i ≠ k := fun e2 => by
       subst e2
       have := hold g1
       rw [g2] at this
       exact e (by omega)
     have hk2 : k < (C.frames.set i f').length := by simpa using hk
     exact ⟨k, hk2, by simp only [List.getElem_set_ne hki]; exact g1, by simp only [List.getElem_set_ne hki]; exact g2, by simp only [List.getElem_set_ne hki]⟩
   · rcases List.mem_or_eq_of_mem_set hf with hf | rfl
     · exact hall f hf g1 g2
     · rw [hnum] at g2
       exact e (by omega)
def GetR (X : Nat → Prop) (C : Ch) (no : Nat) (w : World) (v : Value) (w' : World) : Prop :=
 ∃ C' : Ch, CaAt X w' C' ∧ CTo C C' w w' 2 ∧ (∀ j, C'.view j = C.view j) ∧
   ((∃ s : Sl, v = .tuple #[.slice s.a s.len s.cap, .int .i64 0] ∧ Tx (fun q => w.heap.size ≤ q ∧ ¬ fpC C' q ∧ ¬ X q) w' s (C.view no)) ∨ (v = .tuple #[.slice none 0 0, .int .i64 3] ∧ ¬ C.D.calm 2))
theorem cache_Get (h : CaAt X w C) (hld : C.D.ld ≤ 999999999) {no : Nat} (hno : no < C.D.n) : Ret Tryz.prog F.cache_Cache_Get #[.pointer (some ⟨C.c, 0, none⟩), .int .i64 ((no : Nat) : Int)] w (GetR X C no w) := by
 have hraw := h.raw
 refine W.cache_Cache_Get_ok (some ⟨C.c, 0, none⟩) ((no : Nat) : Int) w _ ?_
 (delta W.cache_Cache_Get c3 Br c19 st r1 c12 c20 c4; dsimp only)
 refine (cache_has hraw _).use ?_
 rintro _ _ ⟨rfl, rfl⟩
 refine ⟨_, rfl, fun hb => ?_, fun _ => (cache_at hraw _).use ?_⟩
 · have : decide (0 ≤ ((no : Nat) : Int) ∧ ((no : Nat) : Int) < C.D.n) = true := decide_eq_true ⟨by omega, by omega⟩
   rw [this] at hb; cases hb
 rintro _ _ ⟨hat, rfl⟩
 rcases hat with ⟨i, hi, rfl, hf, hn⟩ | ⟨rfl, hnone⟩
 · -- a frame holds it
   obtain ⟨g1, g2, g3, g4⟩ := frSet1 hraw.f hi (j := 2) (by decide) (v := .bool true) { C.frames[i] with used := true } rfl
   have hsu : SameU C.frames (C.frames.set i { C.frames[i] with used := true }) := (SameU.refl C.frames).set hi true
   have hcc : Chg (fpC C) w (w.setCell ⟨C.fb, i * 6 + 2, none⟩ (.bool true)) := g4.mono fun q _ e => .inr (.inl e)
   have hinv := inv_sameU (hd := C.hand) (D' := C.D) h.inv hsu hcc (fun q _ h => h) rfl (fun _ => rfl) fun q hq => .inl hq
   have hv := view_sameU (hd := C.hand) (D' := C.D) h.inv hsu fun _ => rfl
   obtain ⟨w1, hw1⟩ : ∃ w1, w1 = w.setCell ⟨C.fb, i * 6 + 2, none⟩ (.bool true) := ⟨_, rfl⟩
   rw [← hw1] at g3 g4 hcc hinv
   have hr : CaRaw w1 { C with frames := C.frames.set i { C.frames[i] with used := true } } := by
     refine ⟨?_, g3, hraw.dev.chg g4 (fun q hq e => hraw.a1.2.2 (e ▸ hq)), ?_, ?_, ?_, hraw.a1⟩
     · have := hraw.v.chg g4 hraw.a1.1
       show Var _ _ [_, .slice _ (C.frames.set i _).length (C.frames.set i _).length, _] _
       rw [List.length_set]; exact this
     · show 8 ≤ (C.frames.set i _).length; rw [List.length_set]; exact hraw.k1
     · show (C.frames.set i _).length ≤ 64; rw [List.length_set]; exact hraw.k2
     · show C.hand < (C.frames.set i _).length; rw [List.length_set]; exact hraw.hd
   obtain ⟨C1, hC1⟩ : ∃ C1 : Ch, C1 = { C with frames := C.frames.set i { C.frames[i] with used := true } } := ⟨_, rfl⟩
   have hca : CaAt X w1 C1 := by rw [hC1]; exact ⟨hr, hinv⟩
   have hi1 : i < (C.frames.set i { C.frames[i] with used := true }).length := by simpa using hi
   have f5 := frCell g3 hi1 (j := 5) (by decide)
   obtain ⟨m, k1, k2, k3, k4, k5⟩ := hinv.ok ((C.frames.set i { C.frames[i] with used := true })[i]) (List.getElem_mem hi1) (by simp [hf])
   have hb5 : ((C.frames.set i { C.frames[i] with used := true })[i]).b = (C.frames[i]).b := by simp
   have hl5 : ((C.frames.set i { C.frames[i] with used := true })[i]).l = (C.frames[i]).l := by simp
   rw [hb5, hl5] at k3
   rw [hl5] at k4
   refine ⟨_, rfl, fun _ => ⟨_, rfl, by rw [add_mk]; exact g1, by rw [add_mk]; exact g2, ?_⟩, fun h => (by cases h)⟩
   rw [add_mk, ← hw1]
   refine nx ⟨_, rfl, (C.frames[i]).b, by rw [add_mk, f5]; simp [Fr.c], (cloneTx (B := fun q => w1.heap.size ≤ q) k3.1 (by rw [k4]; omega) (fun q hq => hq)).use ?_⟩
   rintro _ w2 ⟨s, rfl, hs, hx2, _⟩
   have hview : C.view no = (C.frames[i]).l := view_at (fs := C.frames) (D := C.D) (c := C.c) (fb := C.fb) (hd := C.hand) h.inv.un hi hf hn
   have hz1 := hcc.size
   refine ⟨s, rfl, C1, hca.ext hx2, ?_, ?_, .inl ⟨s, rfl, ?_⟩⟩
   · rw [hC1]
     exact ⟨rfl, rfl, by show (C.frames.set i _).length = _; rw [List.length_set], rfl, Nat.le_add_right _ _, fun m hm => calm_mono hm (by omega), hcc.trans (Chg.of_ext hx2), fun q hq => .inl hq⟩
   · intro j; rw [hC1]; exact hv j
   · rw [hview]
     refine Tx.weak hs fun q _ hq => ⟨by omega, fun hf => ?_, fun hX => ?_⟩
     · have := hca.raw.lt hf; omega
     · have := (hca.inv.xl q hX).1; omega
 · -- none does
   refine ⟨_, rfl, fun h => (by cases h), fun _ => (cache_room h (by omega)).use ?_⟩
   rintro _ w1 ⟨C1, hca1, hto1, hfb1, hv1, hsub, hr⟩
   rcases hr with ⟨i, hi, rfl, hemp, hpin⟩ | ⟨rfl, hncalm⟩
   · refine ⟨_, _, rfl, fun h => (by simp at h), fun _ => ⟨_, rfl, some ⟨C.D.d, 0, none⟩, ?_, ?_⟩⟩
     · have := hca1.raw.cells.1
       rw [hto1.c, hto1.d] at this
       exact this
     have hno1 : no < C1.D.n := by rw [hto1.n]; exact hno
     have hld1 := hto1.ld
     rw [← hto1.d]
     refine (dev_Read hca1.raw.dev hno1 (by omega)).use ?_
     rintro v2 w2 ⟨hd2, hc2, hres⟩
     have hlt1 := fun q => hca1.raw.lt (q := q)
     have hcf2 : Chg (fpC C1) w1 w2 := hc2.mono fun q _ e => .inr (.inr (.inl e))
     -- no frame holds it
     have hn1 : ∀ f ∈ C1.frames, f.full = true → f.no ≠ no := fun f hf hfull hfn => by
       obtain ⟨g, hg, h1, h2⟩ := hsub f hf hfull
       exact hnone g hg h1 (by rw [h2, hfn])
     have hcd1 : C1.D.calm 1 ∨ ¬ C.D.calm 2 := by
       rcases Classical.em (C.D.calm 2) with h1 | h1
       · exact .inl (hto1.calm 1 h1)
       · exact .inr h1
     have hvno : C1.view no = C1.D.now no := view_none (fs := C1.frames) (D := C1.D) (c := C1.c) (fb := C1.fb) (hd := C1.hand) hn1
     have hne : ∀ q, fpD C1.D q → q ≠ C1.c ∧ q ≠ C1.fb := fun q hq => ⟨fun e => hca1.raw.a1.2.1 (e ▸ hq), fun e => hca1.raw.a1.2.2 (e ▸ hq)⟩
     have hinv2 : CaInv X w2 { C1 with D := C1.D.burn 1 } := inv_sameU (C := C1) (hd := C1.hand) (D' := C1.D.burn 1) hca1.inv (SameU.refl _) hcf2 (fun q _ h => h) rfl (fun _ => rfl) fun q hq => .inl hq
     have hto2 : CTo C { C1 with D := C1.D.burn 1 } w w2 2 := by
       have : CTo C1 { C1 with D := C1.D.burn 1 } w1 w2 1 := ⟨rfl, rfl, rfl, rfl, Nat.le_succ _, fun m hm => (calm_burn (.inl rfl) hca1.raw.dev.f4 hm).1, hcf2, fun q hq => .inl hq⟩
       exact hto1.trans this
     have hv2 : ∀ j, ({ C1 with D := C1.D.burn 1 } : Ch).view j = C.view j := fun j => by rw [← hv1]; exact view_sameU (C := C1) hca1.inv (SameU.refl _) (fun _ => rfl) j
     have hraw2 : CaRaw w2 { C1 with D := C1.D.burn 1 } := ⟨hca1.raw.v.chg hc2 (fun e => (hne _ (.inl rfl)).1 e.symm), Blk.chg hca1.raw.f hc2 (fun e => (hne _ (.inl rfl)).2 e.symm), hd2, hca1.raw.k1, hca1.raw.k2, hca1.raw.hd, hca1.raw.a1⟩
     rcases hres with ⟨hb, rfl⟩ | ⟨hb, s, rfl, hs⟩
     · refine ⟨⟨none, 0, 0⟩, 3, rfl, fun _ => ⟨{ C1 with D := C1.D.burn 1 }, ⟨hraw2, hinv2⟩, hto2, hv2, .inr ⟨rfl, ?_⟩⟩, fun h => (by simp at h)⟩
       rcases hcd1 with h1 | h1
       · have := (calm_burn (k := 1) (m := 0) (.inl rfl) hca1.raw.dev.f4 h1).2
         rw [hb] at this; cases this
       · exact h1
     · have hnl : (C1.D.now no).length = 256 := hca1.raw.dev.nowLen hno1
       obtain ⟨s1, s2, s3⟩ := frSetAll hraw2.f hi ⟨true, false, true, ((no : Nat) : Int), 0, s, C1.D.now no⟩
       rw [hfb1] at s1 s2 s3
       have hz2 := hc2.size
       have hz1 := hto1.chg.size
       refine ⟨s, _, rfl, fun h => (by simp at h), fun _ => ⟨_, rfl, s1, rfl, ?_⟩⟩
       obtain ⟨w3, hw3⟩ : ∃ w3, w3 = setCells w2 ⟨C.fb, i * 6, none⟩ 0 (Fr.c ⟨true, false, true, ((no : Nat) : Int), 0, s, C1.D.now no⟩) := ⟨_, rfl⟩
       rw [← hw3] at s2 s3
       have hg : setCells w2 ⟨C.fb, i * 6, none⟩ 0 [.bool true, .bool false, .bool true, .int .i64 ((no : Nat) : Int), .int .i64 0, .slice s.a s.len s.cap] = w3 := hw3.symm
       rw [hg]
       have hcc3 : Chg (fpC C1) w2 w3 := s3.mono fun q _ e => .inr (.inl (by rw [hfb1]; exact e))
       have hs3 : Tx (fun q => w1.heap.size ≤ q) w3 s (C1.D.now no) := Tx.chg hs s3 fun q hq e => by
         have := hlt1 C.fb (.inr (.inl hfb1.symm)); omega
       have hinv3 : CaInv X w3 { C1 with frames := C1.frames.set i ⟨true, false, true, ((no : Nat) : Int), 0, s, C1.D.now no⟩, D := C1.D.burn 1 } := by
         refine inv_lay (w := w1) (V := fpC C1) (D' := C1.D.burn 1) hi (no := no) hca1.inv (hcf2.trans hcc3) (fun q _ h => h) rfl (fun _ => rfl) (fun q => Iff.rfl) ⟨true, false, true, ((no : Nat) : Int), 0, s, C1.D.now no⟩ rfl rfl ⟨rfl, hno1, ?_, hnl, fun _ => rfl⟩ fun k hk _ h1 => hn1 _ (List.getElem_mem hk) h1
         refine Tx.weak hs3 fun q _ hq => ⟨fun hf => ?_, fun hX => ?_⟩
         · have : fpC C1 q := hf
           have := hlt1 q this; omega
         · have := (hca1.inv.xl q hX).1; omega
       have hv3 : ∀ j, ({ C1 with frames := C1.frames.set i ⟨true, false, true, ((no : Nat) : Int), 0, s, C1.D.now no⟩, D := C1.D.burn 1 } : Ch).view j = C.view j := fun j => by
         have := view_lay (hd := C1.hand) (D' := C1.D.burn 1) hi (no := no) hca1.inv.un (fun _ => rfl) ⟨true, false, true, ((no : Nat) : Int), 0, s, C1.D.now no⟩ rfl rfl (fun h1 => by rw [hemp] at h1; cases h1) (fun k hk _ h1 => hn1 _ (List.getElem_mem hk) h1) j
         rw [show ({ C1 with frames := C1.frames.set i ⟨true, false, true, ((no : Nat) : Int), 0, s, C1.D.now no⟩, D := C1.D.burn 1 } : Ch) = Ch.mk C1.c C1.fb (C1.frames.set i ⟨true, false, true, ((no : Nat) : Int), 0, s, C1.D.now no⟩) C1.hand (C1.D.burn 1) from rfl, this]
         by_cases e : j = no
         · rw [if_pos e, e, ← hv1, hvno]
         · rw [if_neg e, hv1]
       have hraw3 : CaRaw w3 { C1 with frames := C1.frames.set i ⟨true, false, true, ((no : Nat) : Int), 0, s, C1.D.now no⟩, D := C1.D.burn 1 } := by
         refine ⟨?_, by show Blk _ C1.fb _ _; rw [hfb1]; exact s2, hd2.chg s3 (fun q hq e => (hne q hq).2 (by rw [hfb1]; exact e)), ?_, ?_, ?_, hca1.raw.a1⟩
         · have := hraw2.v.chg s3 (fun e => hca1.raw.a1.1 (by rw [hfb1]; exact e))
           show Var _ _ [_, .slice _ (C1.frames.set i _).length (C1.frames.set i _).length, _] _
           rw [List.length_set]; exact this
         · show 8 ≤ (C1.frames.set i _).length; rw [List.length_set]; exact hca1.raw.k1
         · show (C1.frames.set i _).length ≤ 64; rw [List.length_set]; exact hca1.raw.k2
         · show C1.hand < (C1.frames.set i _).length; rw [List.length_set]; exact hca1.raw.hd
       obtain ⟨C3, hC3⟩ : ∃ C3 : Ch, C3 = { C1 with frames := C1.frames.set i ⟨true, false, true, ((no : Nat) : Int), 0, s, C1.D.now no⟩, D := C1.D.burn 1 } := ⟨_, rfl⟩
       have hca3 : CaAt X w3 C3 := by rw [hC3]; exact ⟨hraw3, hinv3⟩
       have hto3 : CTo C C3 w w3 2 := by
         rw [hC3]
         exact ⟨hto2.c, hto2.d, by show (C1.frames.set i _).length = _; rw [List.length_set]; exact hto2.len, hto2.lasts, hto2.ld, hto2.calm, chgGrow hto2.chg hcc3 fun q hq h => (hto2.fp q h).resolve_right (by omega), hto2.fp⟩
       refine nx ((cloneTx (B := fun q => w3.heap.size ≤ q) hs3.1 (by rw [hnl]; omega) (fun q hq => hq)).use ?_)
       rintro _ w4 ⟨t, rfl, ht, hx4, _⟩
       have hz3 := s3.size
       refine ⟨t, rfl, C3, hca3.ext hx4, ?_, ?_, .inl ⟨t, rfl, ?_⟩⟩
       · exact (hto3.trans (CTo.ext C3 hx4)).mono (by omega)
       · intro j; rw [hC3]; exact hv3 j
       · rw [← hv1, hvno]
         refine Tx.weak ht fun q _ hq => ⟨by omega, fun hf => ?_, fun hX => ?_⟩
         · have := hca3.raw.lt hf; omega
         · have := (hca3.inv.xl q hX).1; omega
   · refine ⟨_, _, rfl, fun _ => ⟨C1, hca1, hto1.mono (by omega), hv1, .inr ⟨rfl, fun hc => hncalm (calm_mono hc (by omega))⟩⟩, fun h => (by simp at h)⟩
end
end Go.Proofs.YtplieiecebljmaaGreat
namespace Go.Proofs.YtplieiecebljmaaGreat
open Go Gx
section
variable {w w' : World} {C : Ch} {X : Nat → Prop}
def PutCR (X : Nat → Prop) (C : Ch) (no : Nat) (l : Sec) (w : World) (v : Value) (w' : World) : Prop :=
 ∃ C' : Ch, CaAt X w' C' ∧ CTo C C' w w' 1 ∧
   ((v = .int .i64 0 ∧ ∀ j, C'.view j = if j = no then l else C.view j) ∨ (v = .int .i64 3 ∧ ¬ C.D.calm 1 ∧ ∀ j, C'.view j = C.view j))
theorem raw_set {i : Nat} {f' : Fr} (h : CaRaw w C) (hc : Chg (fun q => q = C.fb) w w') (hb : Blk w' C.fb (fl Fr.c (C.frames.set i f')).toArray Ty.cache_frame) : CaRaw w' { C with frames := C.frames.set i f' } := by
 refine ⟨?_, hb, h.dev.chg hc (fun q hq e => h.a1.2.2 (e ▸ hq)), ?_, ?_, ?_, h.a1⟩
 · have := h.v.chg hc h.a1.1
   show Var _ _ [_, .slice _ (C.frames.set i _).length (C.frames.set i _).length, _] _
   rw [List.length_set]; exact this
 · show 8 ≤ (C.frames.set i _).length; rw [List.length_set]; exact h.k1
 · show (C.frames.set i _).length ≤ 64; rw [List.length_set]; exact h.k2
 · show C.hand < (C.frames.set i _).length; rw [List.length_set]; exact h.hd
theorem set_set {fs : List Fr} {i : Nat} (f g : Fr) : (fs.set i f).set i g = fs.set i g := List.set_set ..
theorem cache_Put (h : CaAt X w C) (hld : C.D.ld ≤ 999999999) {no : Nat} (hno : no < C.D.n) {b : Sl} {l : Sec} (hb : Src 1 w b (u8s l)) (hl : l.length = 256) (hbd : ∀ q, ownB b q → q < w.heap.size ∧ ¬ fpC C q) :
   Ret Tryz.prog F.cache_Cache_Put #[.pointer (some ⟨C.c, 0, none⟩), .int .i64 ((no : Nat) : Int), .slice b.a b.len b.cap] w (PutCR X C no l w) := by
 have hraw := h.raw
 have hbl := len8 hb
 refine W.cache_Cache_Put_ok (some ⟨C.c, 0, none⟩) ((no : Nat) : Int) b w _ ?_
 (delta W.cache_Cache_Put c3 Br c19 c20 st c12; dsimp only)
 refine (cache_has hraw _).use ?_
 rintro _ _ ⟨rfl, rfl⟩
 have hin : decide (0 ≤ ((no : Nat) : Int) ∧ ((no : Nat) : Int) < C.D.n) = true := decide_eq_true ⟨by omega, by omega⟩
 refine ⟨_, rfl, fun h1 => ?_, fun _ => (cache_at hraw _).use ?_⟩
 · rw [hin, hbl, hl] at h1
   simp at h1
 rintro _ _ ⟨hat, rfl⟩
 -- the frame, laid
 have fin : ∀ (w1 : World) (C1 : Ch) (i : Nat) (hi : i < C1.frames.length) (f1 : Fr), CaAt X w1 C1 → CTo C C1 w w1 1 → C1.fb = C.fb → (∀ j, C1.view j = C.view j) → f1.pins = 0 → ∀ w2 : World, Blk w2 C1.fb (fl Fr.c (C1.frames.set i f1)).toArray Ty.cache_frame → Chg (fun q => q = C1.fb) w1 w2 → f1.full = true → f1.no = ((no : Nat) : Int) →
     ((C1.frames[i]).full = true → (C1.frames[i]).no = ((no : Nat) : Int)) → (∀ (k : Nat) (hk : k < C1.frames.length), k ≠ i → (C1.frames[k]).full = true → (C1.frames[k]).no ≠ ((no : Nat) : Int)) →
     Calls Tryz.prog F.slices_Clone_Sl_byte_byte #[.slice b.a b.len b.cap] w2 fun e19 w18 => ∃ s20 : Sl, e19 = .returned (.slice s20.a s20.len s20.cap) ∧ ∃ a21 : Addr, (some ⟨C.fb, i * 6, none⟩ : Option Addr) = some a21 ∧ (∃ u : Value, w18.cell? (a21.add 5) = some u) ∧ w18.frozen? (a21.add 5) = false ∧
       Nx (w18.setCell (a21.add 5) (.slice s20.a s20.len s20.cap)) fun w22 => ∃ a23 : Addr, (some ⟨C.fb, i * 6, none⟩ : Option Addr) = some a23 ∧ (∃ u : Value, w22.cell? (a23.add 1) = some u) ∧ w22.frozen? (a23.add 1) = false ∧
       Nx (w22.setCell (a23.add 1) (.bool true)) fun w24 => ∃ a25 : Addr, (some ⟨C.fb, i * 6, none⟩ : Option Addr) = some a25 ∧ (∃ u : Value, w24.cell? (a25.add 2) = some u) ∧ w24.frozen? (a25.add 2) = false ∧
       Nx (w24.setCell (a25.add 2) (.bool true)) fun w26 => PutCR X C no l w (.int .i64 0) w26 := by
   intro w1 C1 i hi f1 hca hto hfb hv hpin w2 hb2 hc2 hfull hnum hold hoth
   have hz1 := hto.chg.size
   have hz2 := hc2.size
   have hlf : C1.fb < w1.heap.size := hca.raw.lt (.inr (.inl rfl))
   have hbs : Src 1 w2 b (u8s l) := by
     refine (hb.chg hto.chg fun q hq hf => (hbd q hq).2 hf).chg hc2 fun q hq e => (hbd q hq).2 (.inr (.inl (by rw [← hfb]; exact e)))
   refine (cloneTx (B := fun q => w2.heap.size ≤ q) hbs (by omega) (fun q hq => hq)).use ?_
   rintro _ w3 ⟨s, rfl, hs, hx3, _⟩
   have hb3 := Blk.ext hb2 hx3
   have hi3 : i < (C1.frames.set i f1).length := by rw [List.length_set]; exact hi
   have e0 : (C1.frames.set i f1)[i] = f1 := by simp
   obtain ⟨a1, a2, a3, a4⟩ := frSet1 hb3 hi3 (j := 5) (by decide) (v := .slice s.a s.len s.cap) { f1 with b := s } (by rw [e0]; rfl)
   rw [set_set] at a3
   have hi4 : i < (C1.frames.set i { f1 with b := s }).length := by rw [List.length_set]; exact hi
   have e1 : (C1.frames.set i { f1 with b := s })[i] = { f1 with b := s } := by simp
   obtain ⟨b1, b2, b3, b4⟩ := frSet1 a3 hi4 (j := 1) (by decide) (v := .bool true) { f1 with b := s, dirty := true } (by rw [e1]; rfl)
   rw [set_set] at b3
   have hi5 : i < (C1.frames.set i { f1 with b := s, dirty := true }).length := by rw [List.length_set]; exact hi
   have e2 : (C1.frames.set i { f1 with b := s, dirty := true })[i] = { f1 with b := s, dirty := true } := by simp
   obtain ⟨d1, d2, d3, d4⟩ := frSet1 b3 hi5 (j := 2) (by decide) (v := .bool true) { f1 with b := s, dirty := true, used := true, l := l } (by rw [e2]; rfl)
   rw [set_set] at d3
   rw [hfb] at a1 a2 a3 a4 b1 b2 b3 b4 d1 d2 d3 d4 hc2
   refine ⟨s, rfl, _, rfl, by rw [add_mk]; exact a1, by rw [add_mk]; exact a2, ?_⟩
   rw [add_mk]
   refine nx ⟨_, rfl, by rw [add_mk]; exact b1, by rw [add_mk]; exact b2, ?_⟩
   rw [add_mk]
   refine nx ⟨_, rfl, by rw [add_mk]; exact d1, by rw [add_mk]; exact d2, ?_⟩
   rw [add_mk]
   have hc6 := (hc2.trans (Chg.of_ext hx3)).trans (a4.trans (b4.trans d4))
   obtain ⟨f', hf'⟩ : ∃ f' : Fr, f' = { f1 with b := s, dirty := true, used := true, l := l } := ⟨_, rfl⟩
   obtain ⟨w6, hw6⟩ : ∃ w6, w6 = (((w3.setCell ⟨C.fb, i * 6 + 5, none⟩ (.slice s.a s.len s.cap)).setCell ⟨C.fb, i * 6 + 1, none⟩ (.bool true)).setCell ⟨C.fb, i * 6 + 2, none⟩ (.bool true)) := ⟨_, rfl⟩
   rw [← hw6, ← hf'] at d3
   rw [← hw6] at hc6 ⊢
   have hsx : Tx (fun q => w2.heap.size ≤ q) w6 s l := by
     have h1 := Tx.chg hs a4 fun q hq e => by rw [← hfb] at e; omega
     have h2 := Tx.chg h1 b4 fun q hq e => by rw [← hfb] at e; omega
     have h3 := Tx.chg h2 d4 fun q hq e => by rw [← hfb] at e; omega
     rw [hw6]; exact h3
   have hraw6 : CaRaw w6 { C1 with frames := C1.frames.set i f' } := raw_set hca.raw (by rw [hfb]; exact hc6) (by rw [hfb]; exact d3)
   have hinv6 : CaInv X w6 { C1 with frames := C1.frames.set i f' } := by
     refine inv_lay (w := w1) (V := fun q => q = C.fb) (D' := C1.D) hi (no := no) hca.inv hc6 (fun q _ e => .inr (.inl (by rw [hfb]; exact e))) rfl (fun _ => rfl) (fun q => Iff.rfl) f' (by rw [hf']; exact hfull) (by rw [hf']; exact hpin) ⟨by rw [hf']; exact hnum, by show no < C1.D.n; rw [hto.n]; exact hno, ?_, by rw [hf']; exact hl, fun hd => by rw [hf'] at hd; cases hd⟩ hoth
     rw [hf']
     refine Tx.weak hsx fun q _ hq => ⟨fun hf => ?_, fun hX => ?_⟩
     · have : fpC C1 q := hf
       have := hca.raw.lt this; omega
     · have := (hca.inv.xl q hX).1; omega
   refine nx ⟨{ C1 with frames := C1.frames.set i f' }, ⟨hraw6, hinv6⟩, ⟨hto.c, hto.d, by show (C1.frames.set i _).length = _; rw [List.length_set]; exact hto.len, hto.lasts, hto.ld, hto.calm, chgGrow hto.chg hc6 fun q hq e => .inr (.inl e), hto.fp⟩, .inl ⟨rfl, fun j => ?_⟩⟩
   have := view_lay (C := C1) (hd := C1.hand) (D' := C1.D) hi (no := no) hca.inv.un (fun _ => rfl) f' (by rw [hf']; exact hfull) (by rw [hf']; exact hnum) hold hoth j
   rw [show ({ C1 with frames := C1.frames.set i f' } : Ch) = Ch.mk C1.c C1.fb (C1.frames.set i f') C1.hand C1.D from rfl, this, hv]
   rw [hf']
 rcases hat with ⟨i, hi, rfl, hf, hn⟩ | ⟨rfl, hnone⟩
 · refine ⟨_, rfl, Jn1 (fun p w' => p = some ⟨C.fb, i * 6, none⟩ ∧ w = w') (fun q hq => ⟨fun h => (by cases h), fun _ => hq _ _ ⟨rfl, rfl⟩⟩) ?_⟩
   rintro _ _ ⟨rfl, rfl⟩
   have e : C.frames.set i C.frames[i] = C.frames := List.set_getElem_self _
   exact fin w C i hi C.frames[i] h ((CTo.refl C w).mono (Nat.zero_le _)) rfl (fun _ => rfl) (h.inv.pins _ (List.getElem_mem hi)) w (by rw [e]; exact hraw.f) (.refl _ _) hf hn (fun _ => hn) fun k hk hki h1 h2 => hki (h.inv.un k i hk hi h1 hf (by rw [h2, hn]))
 · refine ⟨_, rfl, Jn1 (fun p w2 => ∃ (w1 : World) (C1 : Ch) (i : Nat) (hi : i < C1.frames.length) (f1 : Fr), p = some ⟨C.fb, i * 6, none⟩ ∧ CaAt X w1 C1 ∧ CTo C C1 w w1 1 ∧ C1.fb = C.fb ∧ (∀ j, C1.view j = C.view j) ∧ f1.pins = 0 ∧ Blk w2 C1.fb (fl Fr.c (C1.frames.set i f1)).toArray Ty.cache_frame ∧ Chg (fun q => q = C1.fb) w1 w2 ∧ f1.full = true ∧ f1.no = ((no : Nat) : Int) ∧
     ((C1.frames[i]).full = true → (C1.frames[i]).no = ((no : Nat) : Int)) ∧ (∀ (k : Nat) (hk : k < C1.frames.length), k ≠ i → (C1.frames[k]).full = true → (C1.frames[k]).no ≠ ((no : Nat) : Int))) (fun q hq => ⟨fun _ => (cache_room h (by omega)).use ?_, fun h => (by cases h)⟩) ?_⟩
   · rintro _ w1 ⟨C1, hca1, hto1, hfb1, hv1, hsub, hr⟩
     have hn1 : ∀ f ∈ C1.frames, f.full = true → f.no ≠ ((no : Nat) : Int) := fun f hf hfull hfn => by
       obtain ⟨g, hg, h1, h2⟩ := hsub f hf hfull
       exact hnone g hg h1 (by rw [h2, hfn])
     rcases hr with ⟨i, hi, rfl, hemp, hpin⟩ | ⟨rfl, hncalm⟩
     · obtain ⟨a1, a2, a3, a4⟩ := frSet1 hca1.raw.f hi (j := 0) (by decide) (v := .bool true) { C1.frames[i] with full := true } rfl
       have hi3 : i < (C1.frames.set i { C1.frames[i] with full := true }).length := by rw [List.length_set]; exact hi
       have e0 : (C1.frames.set i { C1.frames[i] with full := true })[i] = { C1.frames[i] with full := true } := by simp
       obtain ⟨b1, b2, b3, b4⟩ := frSet1 a3 hi3 (j := 3) (by decide) (v := .int .i64 ((no : Nat) : Int)) { C1.frames[i] with full := true, no := ((no : Nat) : Int) } (by rw [e0]; rfl)
       rw [set_set] at b3
       rw [hfb1] at a1 a2 b1 b2 b3 a4 b4
       refine ⟨_, _, rfl, fun h => (by simp at h), fun _ => ⟨_, rfl, a1, a2, nx ⟨_, rfl, by rw [add_mk]; exact b1, by rw [add_mk]; exact b2, nx ?_⟩⟩⟩
       rw [add_mk]
       exact hq _ _ ⟨w1, C1, i, hi, { C1.frames[i] with full := true, no := ((no : Nat) : Int) }, rfl, hca1, hto1, hfb1, hv1, hpin, by rw [hfb1]; exact b3, by rw [hfb1]; exact a4.trans b4, rfl, rfl, fun h1 => (by rw [hemp] at h1; cases h1), fun k hk _ h1 => hn1 _ (List.getElem_mem hk) h1⟩
     · exact ⟨_, _, rfl, fun _ => ⟨C1, hca1, hto1, .inr ⟨rfl, hncalm, hv1⟩⟩, fun h => (by simp at h)⟩
   · rintro p w2 ⟨w1, C1, i, hi, f1, rfl, g1, g2, g3, g4, g5, g6, g7, g8, g9, g10, g11⟩
     exact fin w1 C1 i hi f1 g1 g2 g3 g4 g5 w2 g6 g7 g8 g9 g10 g11
theorem cache_Drop (h : CaAt X w C) (no : Nat) : Ret Tryz.prog F.cache_Cache_Drop #[.pointer (some ⟨C.c, 0, none⟩), .int .i64 ((no : Nat) : Int)] w (fun v w' => (∃ b : Bool, v = .bool b) ∧ ∃ C' : Ch, CaAt X w' C' ∧ CTo C C' w w' 0 ∧ ∀ j, j ≠ no → C'.view j = C.view j) := by
 have hraw := h.raw
 refine W.cache_Cache_Drop_ok (some ⟨C.c, 0, none⟩) ((no : Nat) : Int) w _ ?_
 (delta W.cache_Cache_Drop c19 Br r2; dsimp only)
 refine (cache_at hraw _).use ?_
 rintro _ _ ⟨hat, rfl⟩
 rcases hat with ⟨i, hi, rfl, hf, hn⟩ | ⟨rfl, hnone⟩
 · have f4 := frCell hraw.f hi (j := 4) (by decide)
   have hp := h.inv.pins _ (List.getElem_mem hi)
   refine ⟨_, rfl, Jn1 (fun b w' => b = false ∧ w = w') (fun q hq => ⟨fun h => (by cases h), fun _ => ⟨_, rfl, (C.frames[i]).pins, by rw [add_mk]; exact f4, hq _ _ ⟨by rw [hp]; rfl, rfl⟩⟩⟩) ?_⟩
   rintro _ _ ⟨rfl, rfl⟩
   obtain ⟨s1, s2, s3⟩ := frSetAll hraw.f hi fr0
   refine ⟨fun h => (by cases h), fun _ => ⟨_, rfl, s1, rfl, nx ⟨⟨true, rfl⟩, { C with frames := C.frames.set i fr0 }, ⟨raw_set hraw s3 s2, ?_⟩, ?_, fun j hj => ?_⟩⟩⟩
   · exact inv_drop (V := fun q => q = C.fb) (D' := C.D) hi h.inv s3 (fun q _ e => .inr (.inl e)) rfl (fun _ _ => rfl) (fun q h => .inl h) fr0 rfl rfl
   · exact ⟨rfl, rfl, by show (C.frames.set i _).length = _; rw [List.length_set], rfl, Nat.le_refl _, fun _ h => h, s3.mono fun q _ e => .inr (.inl e), fun q h => .inl h⟩
   · refine view_congr (fs := C.frames) (D := C.D) (c := C.c) (fb := C.fb) (hd := C.hand) h.inv.un (fun a b ha hb h1 h2 h3 => ?_) (fun k hk g1 g2 => ?_) fun hall => ⟨fun f hf g1 g2 => ?_, rfl⟩
     · have ha' : a < C.frames.length := by simpa using ha
       have hb' : b < C.frames.length := by simpa using hb
       by_cases ea : i = a
       · subst ea
         simp [fr0] at h1
       by_cases eb : i = b
       · subst eb
         simp [fr0] at h2
       simp only [List.getElem_set_ne ea] at h1 h3
       simp only [List.getElem_set_ne eb] at h2 h3
       exact h.inv.un a b ha' hb' h1 h2 h3
     · have hki : i ≠ k := fun e => by
         subst e
         rw [hn] at g2
         exact hj (by omega)
       exact ⟨k, by rw [List.length_set]; exact hk, by simp only [List.getElem_set_ne hki]; exact g1, by simp only [List.getElem_set_ne hki]; exact g2, by simp only [List.getElem_set_ne hki]⟩
     · rcases List.mem_or_eq_of_mem_set hf with hf | rfl
       · exact hall f hf g1 g2
       · cases g1
 · refine ⟨_, rfl, Jn1 (fun b w' => b = true ∧ w = w') (fun q hq => ⟨fun _ => hq _ _ ⟨rfl, rfl⟩, fun h => (by cases h)⟩) ?_⟩
   rintro _ _ ⟨rfl, rfl⟩
   exact ⟨fun _ => ⟨⟨false, rfl⟩, C, h, CTo.refl C w, fun _ _ => rfl⟩, fun h => (by cases h)⟩
end
theorem zrowFr (n : Nat) : zrow Tryz.prog Ty.cache_frame n = (fl Fr.c (List.replicate n fr0)).toArray := by
 have hz : ((Tryz.prog.info? Ty.cache_frame).bind (·.zero)).map (·.cells) = some fr0.c.toArray := by kernel_rfl
 have hc : Tryz.prog.cellsOf Ty.cache_frame = 6 := by kernel_rfl
 unfold zrow
 rw [hc]
 cases hi : (Tryz.prog.info? Ty.cache_frame).bind (·.zero) with
 | none => rw [hi] at hz; cases hz
 | some z =>
   rw [hi] at hz
   simp only [Option.map_some, Option.some.injEq] at hz
   simp only [Option.getD_some, hz]
   apply Array.ext
   · simp [fl_length (c := Fr.c) (sz := 6) (List.replicate n fr0) (fun x _ => rfl)]
   · intro i h1 h2
     have hn : n * 6 ≠ 0 := by
       intro h
       simp [h] at h1
     have hin : i < n * 6 := by simpa using h1
     simp only [hn, if_false, Array.getElem_map, Array.getElem_range, List.getElem_toArray]
     have hsz : fr0.c.toArray.size = 6 := rfl
     have hlt : i % 6 < 6 := Nat.mod_lt _ (by omega)
     have hq : i / 6 < (List.replicate n fr0).length := by rw [List.length_replicate]; omega
     have hg := fl_get (c := Fr.c) (sz := 6) (l := List.replicate n fr0) (fun x _ => rfl) (i := i / 6) (j := i % 6) hq hlt
     rw [show i / 6 * 6 + i % 6 = i by omega] at hg
     have h2' : i < (fl Fr.c (List.replicate n fr0)).length := by simpa using h2
     rw [List.getElem?_eq_getElem h2'] at hg
     have he : ((List.replicate n fr0)[i / 6]).c = fr0.c := by simp
     rw [he, List.getElem?_eq_getElem (show i % 6 < fr0.c.length from hlt)] at hg
     have hg := Option.some.inj hg
     rw [hg, hsz, getElem!_pos fr0.c.toArray (i % 6) (by rw [hsz]; exact hlt)]
     simp
def newCh (c fb k : Nat) (D : Dv) : Ch := ⟨c, fb, List.replicate k fr0, 0, D⟩
theorem cache_New {w : World} {D : Dv} (h : DevAt w D) {k : Nat} (h1 : 8 ≤ k) (h2 : k ≤ 64) : Ret Tryz.prog F.cache_New #[.pointer (some ⟨D.d, 0, none⟩), .int .i64 ((k : Nat) : Int)] w (fun v w' => ∃ c fb : Nat, v = .tuple #[.pointer (some ⟨c, 0, none⟩), .int .i64 0] ∧ CaAt (fun _ => False) w' (newCh c fb k D) ∧ Ext w w' ∧ w.heap.size ≤ c ∧ w.heap.size ≤ fb) := by
 refine W.cache_New_ok (some ⟨D.d, 0, none⟩) ((k : Nat) : Int) w _ ?_
 delta W.cache_New Br mI nA
 refine ⟨fun h => ?_, fun _ => ⟨⟨by omega, by omega, by omega, by omega⟩, ?_⟩⟩
 · simp only [Option.isNone_some, Bool.false_or, Bool.or_eq_true, decide_eq_true_eq] at h; omega
 rw [zrowFr, Int.toNat_natCast]
 have hb1 := Blk.new w (fl Fr.c (List.replicate k fr0)).toArray Ty.cache_frame
 have hx1 := ext_alloc w (.cells (fl Fr.c (List.replicate k fr0)).toArray Ty.cache_frame)
 have hz1 := alloc_size w (.cells (fl Fr.c (List.replicate k fr0)).toArray Ty.cache_frame)
 obtain ⟨w1, hw1⟩ : ∃ w1, w1 = w.alloc (.cells (fl Fr.c (List.replicate k fr0)).toArray Ty.cache_frame) := ⟨_, rfl⟩
 rw [← hw1] at hb1 hx1 hz1 ⊢
 refine nx (nxVar (vs := [.pointer (some ⟨D.d, 0, none⟩), .slice (some ⟨w.heap.size, 0, none⟩) k k, .int .i64 0]) rfl fun w2 hv2 hx2 hz2 => ⟨w1.heap.size, w.heap.size, rfl, ⟨⟨?_, Blk.ext hb1 hx2, h.ext (hx1.trans hx2), ?_, ?_, ?_, ?_, ?_, ?_⟩, ⟨fun f hf => ?_, fun f hf hfl => ?_, fun i j hi hj h1 => ?_, fun q hq => hq.elim⟩⟩, hx1.trans hx2, by omega, Nat.le_refl _⟩)
 · show Var _ _ [_, .slice _ (List.replicate k fr0).length (List.replicate k fr0).length, _] _
   rw [List.length_replicate]; exact hv2
 · show 8 ≤ (List.replicate k fr0).length; simpa using h1
 · show (List.replicate k fr0).length ≤ 64; simpa using h2
 · show 0 < (List.replicate k fr0).length; simp; omega
 · show w1.heap.size ≠ w.heap.size; omega
 · intro e
   have := h.lt e
   have : w1.heap.size < w.heap.size := this
   omega
 · intro e
   have := h.lt e
   have : w.heap.size < w.heap.size := this
   omega
 · rw [List.eq_of_mem_replicate hf]; rfl
 · rw [List.eq_of_mem_replicate hf] at hfl; cases hfl
 · simp [newCh, fr0] at h1
end Go.Proofs.YtplieiecebljmaaGreat
namespace Go.Proofs.YtplieiecebljmaaGreat
open Go Gx
def byte8 (b0 b1 b2 b3 b4 b5 b6 b7 : Bool) : Nat :=
 b0.toNat + 2 * b1.toNat + 4 * b2.toNat + 8 * b3.toNat + 16 * b4.toNat + 32 * b5.toNat + 64 * b6.toNat + 128 * b7.toNat
def byteOf (f : Nat → Bool) (i : Nat) : Nat := byte8 (f (8 * i)) (f (8 * i + 1)) (f (8 * i + 2)) (f (8 * i + 3)) (f (8 * i + 4)) (f (8 * i + 5)) (f (8 * i + 6)) (f (8 * i + 7))
theorem byte8_lt : ∀ b0 b1 b2 b3 b4 b5 b6 b7 : Bool, byte8 b0 b1 b2 b3 b4 b5 b6 b7 < 256 := by decide +kernel
theorem byte8_bits : ∀ b0 b1 b2 b3 b4 b5 b6 b7 : Bool,
   (byte8 b0 b1 b2 b3 b4 b5 b6 b7).testBit 0 = b0 ∧ (byte8 b0 b1 b2 b3 b4 b5 b6 b7).testBit 1 = b1 ∧ (byte8 b0 b1 b2 b3 b4 b5 b6 b7).testBit 2 = b2 ∧ (byte8 b0 b1 b2 b3 b4 b5 b6 b7).testBit 3 = b3 ∧
   (byte8 b0 b1 b2 b3 b4 b5 b6 b7).testBit 4 = b4 ∧ (byte8 b0 b1 b2 b3 b4 b5 b6 b7).testBit 5 = b5 ∧ (byte8 b0 b1 b2 b3 b4 b5 b6 b7).testBit 6 = b6 ∧ (byte8 b0 b1 b2 b3 b4 b5 b6 b7).testBit 7 = b7 := by decide +kernel
theorem byteOf_lt (f : Nat → Bool) (i : Nat) : byteOf f i < 256 := byte8_lt _ _ _ _ _ _ _ _
theorem byteOf_bit (f : Nat → Bool) (i j : Nat) (hj : j < 8) : (byteOf f i).testBit j = f (8 * i + j) := by
 obtain ⟨h0, h1, h2, h3, h4, h5, h6, h7⟩ := byte8_bits (f (8 * i)) (f (8 * i + 1)) (f (8 * i + 2)) (f (8 * i + 3)) (f (8 * i + 4)) (f (8 * i + 5)) (f (8 * i + 6)) (f (8 * i + 7))
 have : j = 0 ∨ j = 1 ∨ j = 2 ∨ j = 3 ∨ j = 4 ∨ j = 5 ∨ j = 6 ∨ j = 7 := by omega
 unfold byteOf
 rcases this with rfl | rfl | rfl | rfl | rfl | rfl | rfl | rfl <;> assumption
theorem byte_ext {x y : Nat} (hx : x < 256) (hy : y < 256) (h : ∀ j, j < 8 → x.testBit j = y.testBit j) : x = y := by
 apply Nat.eq_of_testBit_eq
 intro j
 by_cases hj : j < 8
 · exact h j hj
 · have p : 256 ≤ 2 ^ j := by
     have := Nat.pow_le_pow_right (n := 2) (by omega) (by omega : 8 ≤ j)
     simpa using this
   rw [Nat.testBit_lt_two_pow (by omega), Nat.testBit_lt_two_pow (by omega)]
theorem byteOf_unique (f : Nat → Bool) (i x : Nat) (hx : x < 256) (h : ∀ j, j < 8 → x.testBit j = f (8 * i + j)) : x = byteOf f i :=
 byte_ext hx (byteOf_lt f i) fun j hj => by rw [h j hj, byteOf_bit f i j hj]
def upd (f : Nat → Bool) (k : Nat) (b : Bool) : Nat → Bool := fun i => if i = k then b else f i
theorem has_all : ∀ x : Nat, x < 256 → ∀ j : Nat, j < 8 → (bAnd .u8 (Int.fdiv (x : Int) (2 ^ (min (Int.toNat (j : Int)) 8))) 1 == 1) = x.testBit j := by decide +kernel
theorem put_all : ∀ x : Nat, x < 256 → ∀ j : Nat, j < 8 → bOr .u8 (x : Int) (IntKind.wrap .u8 (1 * 2 ^ (min (Int.toNat (j : Int)) 8))) = ((x ||| 2 ^ j : Nat) : Int) := by decide +kernel
theorem take_all : ∀ x : Nat, x < 256 → ∀ j : Nat, j < 8 → bAndNot .u8 (x : Int) (IntKind.wrap .u8 (1 * 2 ^ (min (Int.toNat (j : Int)) 8))) = ((x &&& (255 - 2 ^ j) : Nat) : Int) := by decide +kernel
theorem or_lt : ∀ x : Nat, x < 256 → ∀ y : Nat, y < 256 → x ||| y < 256 := fun _ hx _ hy => Nat.or_lt_two_pow (n := 8) hx hy
theorem and_bits : ∀ j : Nat, j < 8 → ∀ k : Nat, k < 8 → (255 - 2 ^ j).testBit k = (k != j) := by decide +kernel
theorem bOr_all (x y : Nat) (hx : x < 256) (hy : y < 256) : bOr .u8 (x : Int) (y : Int) = ((x ||| y : Nat) : Int) := by
 have h := or_lt x hx y hy
 have e : (BitVec.ofInt 8 (x : Int) ||| BitVec.ofInt 8 (y : Int)).toNat = x ||| y := by
   simp only [BitVec.ofInt_natCast, BitVec.toNat_or, BitVec.toNat_ofNat]
   rw [Nat.mod_eq_of_lt (by simpa using hx), Nat.mod_eq_of_lt (by simpa using hy)]
 show IntKind.wrap .u8 (((BitVec.ofInt 8 (x : Int) ||| BitVec.ofInt 8 (y : Int)).toNat : Nat) : Int) = _
 rw [e]
 have : ((x ||| y : Nat) : Int) % 256 = ((x ||| y : Nat) : Int) := Int.emod_eq_of_lt (by omega) (by omega)
 simp [IntKind.wrap, IntKind.signed, IntKind.bits, this]
theorem split8 (k : Nat) : 8 * (k / 8) + k % 8 = k := Nat.div_add_mod k 8
theorem byteOf_put (f : Nat → Bool) (k : Nat) : byteOf f (k / 8) ||| 2 ^ (k % 8) = byteOf (upd f k true) (k / 8) := by
 refine byteOf_unique _ _ _ (or_lt _ (byteOf_lt _ _) _ ?_) fun j hj => ?_
 · have : k % 8 < 8 := Nat.mod_lt _ (by omega)
   have := Nat.pow_lt_pow_right (a := 2) (by omega) this
   simpa using this
 · rw [Nat.testBit_or, byteOf_bit _ _ _ hj, Nat.testBit_two_pow, upd]
   by_cases h : 8 * (k / 8) + j = k
   · rw [if_pos h]
     have : k % 8 = j := by omega
     simp [this]
   · rw [if_neg h]
     have : ¬ k % 8 = j := by omega
     simp [this]
theorem byteOf_take (f : Nat → Bool) (k : Nat) : byteOf f (k / 8) &&& (255 - 2 ^ (k % 8)) = byteOf (upd f k false) (k / 8) := by
 refine byteOf_unique _ _ _ (Nat.lt_of_le_of_lt Nat.and_le_left (byteOf_lt _ _)) fun j hj => ?_
 rw [Nat.testBit_and, byteOf_bit _ _ _ hj, and_bits _ (Nat.mod_lt _ (by omega)) _ hj, upd]
 by_cases h : 8 * (k / 8) + j = k
 · rw [if_pos h]
   have : j = k % 8 := by omega
   simp [this]
 · rw [if_neg h]
   have : ¬ j = k % 8 := by omega
   simp [this]
theorem byteOf_other (f : Nat → Bool) (k i : Nat) (b : Bool) (h : i ≠ k / 8) : byteOf (upd f k b) i = byteOf f i := by
 have e : ∀ j, j < 8 → upd f k b (8 * i + j) = f (8 * i + j) := fun j hj => by
   unfold upd
   rw [if_neg]
   omega
 unfold byteOf
 rw [e 1 (by omega), e 2 (by omega), e 3 (by omega), e 4 (by omega), e 5 (by omega), e 6 (by omega), e 7 (by omega)]
 have := e 0 (by omega)
 simp only [Nat.add_zero] at this
 rw [this]
def bytesV (f : Nat → Bool) (m : Nat) : List Value := (List.range m).map fun i => .int .u8 (byteOf f i)
theorem bytesV_length (f : Nat → Bool) (m : Nat) : (bytesV f m).length = m := by simp [bytesV]
theorem bytesV_get (f : Nat → Bool) {m i : Nat} (h : i < m) : (bytesV f m)[i]? = some (.int .u8 (byteOf f i)) := by simp [bytesV, h]
theorem bytesV_set (f : Nat → Bool) (k m : Nat) (b : Bool) : (bytesV f m).set (k / 8) (.int .u8 (byteOf (upd f k b) (k / 8))) = bytesV (upd f k b) m := by
 apply List.ext_getElem?
 intro i
 rw [List.getElem?_set]
 by_cases hi : i < m
 · rw [bytesV_get (upd f k b) hi]
   by_cases h : k / 8 = i
   · subst h
     simp [bytesV_length, hi]
   · rw [if_neg h, bytesV_get _ hi, byteOf_other f k i b (by omega)]
 · have h1 : (bytesV (upd f k b) m)[i]? = none := by simp [bytesV]; omega
   have h2 : (bytesV f m)[i]? = none := by simp [bytesV]; omega
   rw [h1, h2]
   split
   · simp [bytesV_length]; omega
   · rfl
end Go.Proofs.YtplieiecebljmaaGreat
namespace Go.Proofs.YtplieiecebljmaaGreat
open Go Gx
theorem tdiv8 (k : Nat) : Int.tdiv (k : Int) 8 = ((k / 8 : Nat) : Int) := by
 rw [Int.tdiv_eq_ediv_of_nonneg (by omega)]; omega
theorem tmod8 (k : Nat) : Int.tmod (k : Int) 8 = ((k % 8 : Nat) : Int) := by
 rw [Int.tmod_eq_emod_of_nonneg (by omega)]; omega
theorem wdiv8 {k : Nat} (h : k ≤ 9223372036854775807) : IntKind.wrap .i64 (Int.tdiv (k : Int) 8) = ((k / 8 : Nat) : Int) := by
 rw [tdiv8, wrapi (by omega) (by omega)]
theorem ownB_of {s : Sl} {b : Nat} (h : s.a = some ⟨b, 0, none⟩) : ownB s b := ⟨_, h, rfl⟩
theorem set_has {w : World} {s : Sl} {f : Nat → Bool} {m k : Nat} (h : OwnS 1 Ty.uint8 w s (bytesV f m)) (hk : k / 8 < m) (hk2 : k ≤ 9223372036854775807) :
   Ret Tryz.prog F.space_set_has #[.slice s.a s.len s.cap, .int .i64 k] w (fun v w' => v = .bool (f k) ∧ w = w') := by
 refine W.space_set_has_ok s k w _ ?_
 (delta W.space_set_has bd wI r4; dsimp only)
 obtain ⟨b, c, hb, hblk, hcs, hi, hic, hc, _⟩ := h.cell (bytesV_get f hk)
 refine ⟨by decide, _, hb, ?_⟩
 rw [wdiv8 hk2, tmod8]
 refine ⟨⟨by omega, by omega⟩, (byteOf f (k / 8) : Int), ?_, by decide, by omega, ?_, rfl⟩
 · rw [Nat.mul_one, Int.toNat_natCast, add_mk, Nat.zero_add]; exact hc
 · rw [has_all _ (byteOf_lt _ _) _ (Nat.mod_lt _ (by omega)), byteOf_bit _ _ _ (Nat.mod_lt _ (by omega)), split8]
theorem set_put {w : World} {s : Sl} {f : Nat → Bool} {m k : Nat} (h : OwnS 1 Ty.uint8 w s (bytesV f m)) (hk : k / 8 < m) (hk2 : k ≤ 9223372036854775807) :
   Ret Tryz.prog F.space_set_put #[.slice s.a s.len s.cap, .int .i64 k] w (fun v w' => v = .tuple #[] ∧ OwnS 1 Ty.uint8 w' s (bytesV (upd f k true) m) ∧ Chg (ownB s) w w') := by
 refine W.space_set_put_ok s k w _ ?_
 (delta W.space_set_put Nx bd wI r4 st; dsimp only)
 obtain ⟨b, c, hb, hblk, hcs, hi, hic, hc, _⟩ := h.cell (bytesV_get f hk)
 have ha : (Addr.mk b 0 none).add (Int.toNat ((k / 8 : Nat) : Int) * 1) = ⟨b, k / 8, none⟩ := by rw [Nat.mul_one, Int.toNat_natCast, add_mk, Nat.zero_add]
 rw [wdiv8 hk2, tmod8]
 refine ⟨by decide, _, hb, ⟨by omega, by omega⟩, by simp, (byteOf f (k / 8) : Int), by rw [ha]; exact hc, by decide, by omega, _, hb, ⟨by omega, by omega⟩, ⟨_, by rw [ha]; exact hc⟩, by rw [ha]; exact hblk.drew.frozen _ rfl, rfl, ?_, ?_⟩
 · rw [ha, put_all _ (byteOf_lt _ _) _ (Nat.mod_lt _ (by omega)), byteOf_put, ← bytesV_set]
   have h' : OwnS 1 Ty.uint8 w.drew s (bytesV f m) := h.chg (W := fun _ => False) (Chg.drew (.refl _ _)) (fun _ _ h => h)
   exact h'.set hb _
 · rw [ha]
   exact Chg.set (Chg.drew (.refl _ _)) (fun _ => ownB_of hb) _
theorem set_take {w : World} {s : Sl} {f : Nat → Bool} {m k : Nat} (h : OwnS 1 Ty.uint8 w s (bytesV f m)) (hk : k / 8 < m) (hk2 : k ≤ 9223372036854775807) :
   Ret Tryz.prog F.space_set_take #[.slice s.a s.len s.cap, .int .i64 k] w (fun v w' => v = .tuple #[] ∧ OwnS 1 Ty.uint8 w' s (bytesV (upd f k false) m) ∧ Chg (ownB s) w w') := by
 refine W.space_set_take_ok s k w _ ?_
 (delta W.space_set_take Nx bd wI r4 st; dsimp only)
 obtain ⟨b, c, hb, hblk, hcs, hi, hic, hc, _⟩ := h.cell (bytesV_get f hk)
 have ha : (Addr.mk b 0 none).add (Int.toNat ((k / 8 : Nat) : Int) * 1) = ⟨b, k / 8, none⟩ := by rw [Nat.mul_one, Int.toNat_natCast, add_mk, Nat.zero_add]
 rw [wdiv8 hk2, tmod8]
 refine ⟨by decide, _, hb, ⟨by omega, by omega⟩, by simp, (byteOf f (k / 8) : Int), by rw [ha]; exact hc, by decide, by omega, _, hb, ⟨by omega, by omega⟩, ⟨_, by rw [ha]; exact hc⟩, by rw [ha]; exact hblk.drew.frozen _ rfl, rfl, ?_, ?_⟩
 · rw [ha, take_all _ (byteOf_lt _ _) _ (Nat.mod_lt _ (by omega)), byteOf_take, ← bytesV_set]
   have h' : OwnS 1 Ty.uint8 w.drew s (bytesV f m) := h.chg (W := fun _ => False) (Chg.drew (.refl _ _)) (fun _ _ h => h)
   exact h'.set hb _
 · rw [ha]
   exact Chg.set (Chg.drew (.refl _ _)) (fun _ => ownB_of hb) _
structure SpaceAt (w : World) (b n : Nat) (f g : Nat → Bool) (s1 s2 : Sl) : Prop where
 blk : Blk w b #[.int .i64 n, .slice s1.a s1.len s1.cap, .slice s2.a s2.len s2.cap] Ty.space_Space
 now : OwnS 1 Ty.uint8 w s1 (bytesV f ((n + 7) / 8))
 sure : OwnS 1 Ty.uint8 w s2 (bytesV g ((n + 7) / 8))
 d1 : ∀ k, ownB s1 k → k ≠ b ∧ ¬ ownB s2 k
 d2 : ∀ k, ownB s2 k → k ≠ b
 n1 : 1 ≤ n
 n2 : n ≤ 1600
 pf : ∀ i, n ≤ i → f i = false
 pg : ∀ i, n ≤ i → g i = false
def fpS (b : Nat) (s1 s2 : Sl) (k : Nat) : Prop := k = b ∨ ownB s1 k ∨ ownB s2 k
section
variable {w w' : World} {b n : Nat} {f g : Nat → Bool} {s1 s2 : Sl}
theorem SpaceAt.chg {W : Nat → Prop} (h : SpaceAt w b n f g s1 s2) (hc : Chg W w w') (hn : ∀ k, fpS b s1 s2 k → ¬ W k) : SpaceAt w' b n f g s1 s2 :=
 ⟨h.blk.chg hc (hn b (.inl rfl)), h.now.chg hc fun k hk => hn k (.inr (.inl hk)), h.sure.chg hc fun k hk => hn k (.inr (.inr hk)), h.d1, h.d2, h.n1, h.n2, h.pf, h.pg⟩
theorem SpaceAt.ext (h : SpaceAt w b n f g s1 s2) (hc : Ext w w') : SpaceAt w' b n f g s1 s2 := h.chg hc fun _ _ h => h
theorem SpaceAt.lt (h : SpaceAt w b n f g s1 s2) : ∀ k, fpS b s1 s2 k → k < w.heap.size := by
 rintro k (rfl | hk | hk)
 · exact h.blk.lt
 · exact h.now.lt k hk
 · exact h.sure.lt k hk
theorem SpaceAt.c0 (h : SpaceAt w b n f g s1 s2) : w.cell? ⟨b, 0, none⟩ = some (.int .i64 n) := by rw [h.blk.cell]; rfl
theorem SpaceAt.c1 (h : SpaceAt w b n f g s1 s2) : w.cell? ((Addr.mk b 0 none).add 1) = some (.slice s1.a s1.len s1.cap) := by rw [add_mk, h.blk.cell]; rfl
theorem SpaceAt.c2 (h : SpaceAt w b n f g s1 s2) : w.cell? ((Addr.mk b 0 none).add 2) = some (.slice s2.a s2.len s2.cap) := by rw [add_mk, h.blk.cell]; rfl
theorem space_taken (h : SpaceAt w b n f g s1 s2) {k : Nat} (hk : k < n) :
   Ret Tryz.prog F.space_Space_taken #[.pointer (some ⟨b, 0, none⟩), .int .i64 k] w (fun v w' => v = .bool (f k || g k) ∧ w = w') := by
 have hn := h.n2
 refine W.space_Space_taken_ok _ k w _ ?_
 (delta W.space_Space_taken r1 c3 Br; dsimp only)
 refine ⟨_, rfl, s1, h.c1, (set_has h.now (k := k) (by omega) (by omega)).use ?_⟩
 rintro _ _ ⟨rfl, rfl⟩
 refine ⟨_, rfl, ⟨fun hf => ⟨by rw [hf]; rfl, rfl⟩, fun hf => ⟨_, rfl, s2, h.c2, (set_has h.sure (k := k) (by omega) (by omega)).use ?_⟩⟩⟩
 rintro _ _ ⟨rfl, rfl⟩
 exact ⟨_, rfl, by rw [hf]; rfl, rfl⟩
theorem space_has (h : SpaceAt w b n f g s1 s2) (k : Int) :
   Ret Tryz.prog F.space_Space_has #[.pointer (some ⟨b, 0, none⟩), .int .i64 k] w (fun v w' => v = .bool (decide (0 ≤ k) && decide (k < n)) ∧ w = w') := by
 refine W.space_Space_has_ok _ k w _ ?_
 (delta W.space_Space_has Br r2; dsimp only)
 refine ⟨?_⟩
 refine ⟨fun h1 => ⟨_, rfl, n, h.c0, ?_, rfl⟩, fun h1 => ⟨?_, rfl⟩⟩
 · have : 0 ≤ k := by simpa using h1
   simp [this]
 · have : ¬ 0 ≤ k := by simpa using h1
   simp [this]
def firstFree (t : Nat → Bool) (n : Nat) : Option Nat := (List.range n).find? fun i => !t i
theorem firstFree_some {t : Nat → Bool} {n k : Nat} (hk : k < n) (ht : t k = false) (hl : ∀ i, i < k → t i = true) : firstFree t n = some k := by
 unfold firstFree
 rw [List.find?_eq_some_iff_append]
 refine ⟨by simp [ht], List.range k, (List.range' (k + 1) (n - (k + 1))), ?_, fun a ha => ?_⟩
 · have e1 := List.range'_append (s := 0) (m := k) (n := n - (k + 1) + 1) (step := 1)
   rw [List.range_eq_range', List.range_eq_range', ← List.range'_succ]
   rw [Nat.one_mul, Nat.zero_add] at e1
   rw [e1]
   congr 1
   omega
 · simp [hl a (List.mem_range.1 ha)]
theorem firstFree_none {t : Nat → Bool} {n : Nat} (hl : ∀ i, i < n → t i = true) : firstFree t n = none := by
 unfold firstFree
 rw [List.find?_eq_none]
 intro a ha
 simp [hl a (List.mem_range.1 ha)]
theorem firstFree_spec {t : Nat → Bool} {n k : Nat} (h : firstFree t n = some k) : k < n ∧ t k = false ∧ ∀ i, i < k → t i = true := by
 unfold firstFree at h
 obtain ⟨h1, la, lb, h2, h3⟩ := List.find?_eq_some_iff_append.1 h
 have hk : k < n := List.mem_range.1 (by rw [h2]; simp)
 refine ⟨hk, by simpa using h1, fun i hi => ?_⟩
 have hlen : la.length = k := by
   have h4 : (List.range n)[la.length]? = some k := by rw [h2]; simp
   rw [List.getElem?_range (by
     have := congrArg List.length h2
     simp at this
     omega)] at h4
   simpa using h4
 have h5 : (List.range n)[i]? = some i := List.getElem?_range (by omega)
 rw [h2, List.getElem?_append_left (by omega)] at h5
 have := h3 i (List.mem_of_getElem? h5)
 simpa using this
theorem firstFree_none_spec {t : Nat → Bool} {n : Nat} (h : firstFree t n = none) : ∀ i, i < n → t i = true := by
 unfold firstFree at h
 rw [List.find?_eq_none] at h
 intro i hi
 have := h i (List.mem_range.2 hi)
 simpa using this
def allocV (o : Option Nat) : Value :=
 match o with
 | some k => .tuple #[.int .i64 (k : Int), .int .i64 0]
 | none => .tuple #[.int .i64 (-1), .int .i64 2]
def allocF (o : Option Nat) (f : Nat → Bool) : Nat → Bool :=
 match o with
 | some k => upd f k true
 | none => f
theorem upd_pf {f : Nat → Bool} {n k : Nat} {x : Bool} (h : ∀ i, n ≤ i → f i = false) (hk : k < n) : ∀ i, n ≤ i → upd f k x i = false := fun i hi => by
 unfold upd
 rw [if_neg (by omega)]
 exact h i hi
theorem space_Alloc (h : SpaceAt w b n f g s1 s2) :
   Ret Tryz.prog F.space_Space_Alloc #[.pointer (some ⟨b, 0, none⟩)] w (fun v w' => v = allocV (firstFree (fun i => f i || g i) n) ∧ SpaceAt w' b n (allocF (firstFree (fun i => f i || g i) n) f) g s1 s2 ∧ Chg (fpS b s1 s2) w w') := by
 have hn2 := h.n2
 refine W.space_Space_Alloc_ok _ w _ ?_
 (delta W.space_Space_Alloc Br r2 c3 r1 c1 wI; dsimp only)
 refine ⟨fun h1 => by simp at h1, fun _ => ⟨_, rfl, n, h.c0, fun i w' => ∃ k : Nat, i = k ∧ k ≤ n ∧ w = w' ∧ ∀ j, j < k → (f j || g j) = true, fun i _ => (n - i).toNat, ⟨0, rfl, by omega, rfl, fun j hj => by omega⟩, ?_⟩⟩
 rintro _ _ ⟨k, rfl, hk, rfl, hall⟩
 refine ⟨fun hlt => (space_taken h (k := k) (by simpa using hlt)).use ?_, fun hge => ?_⟩
 · have hkn : k < n := by simpa using hlt
   rintro _ _ ⟨rfl, rfl⟩
   refine ⟨_, rfl, fun ht => ⟨_, rfl, s1, h.c1, (set_put h.now (k := k) (by omega) (by omega)).use ?_⟩, fun ht => ?_⟩
   · rintro _ w' ⟨rfl, hown, hc⟩
     have ht' : (f k || g k) = false := by simpa using ht
     have hff := firstFree_some (t := fun i => f i || g i) hkn ht' hall
     rw [hff]
     refine ⟨rfl, rfl, ⟨h.blk.chg hc fun hb => (h.d1 b hb).1 rfl, hown, h.sure.chg hc fun k hk h1 => (h.d1 k h1).2 hk, h.d1, h.d2, h.n1, h.n2, upd_pf h.pf hkn, h.pg⟩, hc.mono fun k _ hk => .inr (.inl hk)⟩
   · have ht' : (f k || g k) = true := by cases hx : (f k || g k) <;> simp [hx] at ht ⊢
     rw [wrapi (by omega) (by omega)]
     refine ⟨⟨k + 1, by omega, by omega, rfl, fun j hj => ?_⟩, (show ((n : Int) - ((k : Int) + 1)).toNat < ((n : Int) - (k : Int)).toNat by omega)⟩
     rcases Nat.lt_or_ge j k with h1 | h1
     · exact hall j h1
     · have : j = k := by omega
       subst this; exact ht'
 · have hkn : k = n := by
     have : ¬ (k : Int) < n := by simpa using hge
     omega
   subst hkn
   rw [firstFree_none hall]
   exact ⟨rfl, h, .refl _ _⟩
def freeV (f : Nat → Bool) (n : Nat) (k : Int) : Int := if 0 ≤ k ∧ k < n then (if f k.toNat then 0 else 6) else 1
def freeF (f : Nat → Bool) (n : Nat) (k : Int) : Nat → Bool := if 0 ≤ k ∧ k < n then upd f k.toNat false else f
theorem upd_same {f : Nat → Bool} {k : Nat} {x : Bool} (h : f k = x) : upd f k x = f := by
 funext i
 unfold upd
 split
 · rename_i hi; rw [hi, h]
 · rfl
theorem space_Free (h : SpaceAt w b n f g s1 s2) (k : Int) :
   Ret Tryz.prog F.space_Space_Free #[.pointer (some ⟨b, 0, none⟩), .int .i64 k] w (fun v w' => v = .int .i64 (freeV f n k) ∧ SpaceAt w' b n (freeF f n k) g s1 s2 ∧ Chg (fpS b s1 s2) w w') := by
 have hn2 := h.n2
 refine W.space_Space_Free_ok _ k w _ ?_
 (delta W.space_Space_Free c3 Br r1 c1; dsimp only)
 refine (space_has h k).use ?_
 rintro _ _ ⟨rfl, rfl⟩
 refine ⟨_, rfl, fun h1 => ?_, fun h1 => ?_⟩
 · have : ¬ (0 ≤ k ∧ k < n) := by
     rintro ⟨h2, h3⟩
     simp [h2, h3] at h1
   exact ⟨by rw [freeV, if_neg this], by rw [freeF, if_neg this]; exact h, .refl _ _⟩
 · have hr : 0 ≤ k ∧ k < n := by simpa using h1
   obtain ⟨m, rfl⟩ := Int.eq_ofNat_of_zero_le hr.1
   have hm : m < n := by omega
   refine ⟨_, rfl, s1, h.c1, (set_has h.now (k := m) (by omega) (by omega)).use ?_⟩
   rintro _ _ ⟨rfl, rfl⟩
   refine ⟨_, rfl, fun h2 => ?_, fun h2 => ⟨_, rfl, s1, h.c1, (set_take h.now (k := m) (by omega) (by omega)).use ?_⟩⟩
   · have hf : f m = false := by simpa using h2
     refine ⟨by rw [freeV, if_pos hr, Int.toNat_natCast, hf]; rfl, ?_, .refl _ _⟩
     rw [freeF, if_pos hr, Int.toNat_natCast, upd_same hf]
     exact h
   · rintro _ w' ⟨rfl, hown, hc⟩
     have hf : f m = true := by simpa using h2
     refine ⟨rfl, by rw [freeV, if_pos hr, Int.toNat_natCast, hf]; rfl, ?_, hc.mono fun k _ hk => .inr (.inl hk)⟩
     rw [freeF, if_pos hr, Int.toNat_natCast]
     exact ⟨h.blk.chg hc fun hb => (h.d1 b hb).1 rfl, hown, h.sure.chg hc fun k hk h1 => (h.d1 k h1).2 hk, h.d1, h.d2, h.n1, h.n2, upd_pf h.pf hm, h.pg⟩
theorem space_Fresh (h : SpaceAt w b n f g s1 s2) (k : Int) :
   Ret Tryz.prog F.space_Space_Fresh #[.pointer (some ⟨b, 0, none⟩), .int .i64 k] w (fun v w' => v = .bool (decide (0 ≤ k) && decide (k < n) && f k.toNat && !(g k.toNat)) ∧ w = w') := by
 have hn2 := h.n2
 refine W.space_Space_Fresh_ok _ k w _ ?_
 (delta W.space_Space_Fresh c3 Br r1; dsimp only)
 refine (space_has h k).use ?_
 rintro _ _ ⟨rfl, rfl⟩
 refine ⟨_, rfl, ⟨fun h1 => ?_, fun h1 => ⟨(fun h => by cases h), fun _ => ⟨by rw [h1]; rfl, rfl⟩⟩⟩⟩
 have hr : 0 ≤ k ∧ k < n := by simpa using h1
 obtain ⟨m, rfl⟩ := Int.eq_ofNat_of_zero_le hr.1
 refine ⟨_, rfl, s1, h.c1, (set_has h.now (k := m) (by omega) (by omega)).use ?_⟩
 rintro _ _ ⟨rfl, rfl⟩
 refine ⟨_, rfl, fun h2 => ⟨_, rfl, s2, h.c2, (set_has h.sure (k := m) (by omega) (by omega)).use ?_⟩, fun h2 => ⟨by rw [h1, Int.toNat_natCast, h2]; rfl, rfl⟩⟩
 rintro _ _ ⟨rfl, rfl⟩
 exact ⟨_, rfl, by rw [h1, Int.toNat_natCast, h2]; rfl, rfl⟩
end
end Go.Proofs.YtplieiecebljmaaGreat
namespace Go.Proofs.YtplieiecebljmaaGreat
open Go Gx
theorem appSet : AppT Tryz.prog Ty.space_set Ty.uint8 1 1 := ⟨by kernel_rfl⟩
theorem zrow_byte (n : Nat) : zrow Tryz.prog Ty.uint8 n = (List.replicate n (.int .u8 0)).toArray := zrow_of (by kernel_rfl) (by kernel_rfl) n
theorem bytesV_plain (f : Nat → Bool) (m : Nat) : ∀ v ∈ bytesV f m, Plain v := by
 intro v hv
 obtain ⟨i, _, rfl⟩ := List.mem_map.1 hv
 trivial
theorem clone_Set {w : World} {s : Sl} {xs : List Value} (h : Src 1 w s xs) (hp : ∀ v ∈ xs, Plain v) (hn : s.len ≤ 1000000) :
   Ret Tryz.prog F.slices_Clone_space_set_byte #[.slice s.a s.len s.cap] w (fun v w' => ∃ s' : Sl, v = .slice s'.a s'.len s'.cap ∧ OwnS 1 Ty.uint8 w' s' xs ∧ Ext w w' ∧ ∀ k, ownB s' k → w.heap.size ≤ k) := by
 refine W.slices_Clone_space_set_byte_ok s w _ ?_
 delta W.slices_Clone_space_set_byte Nx Br nA
 refine ⟨fun ha => ?_, fun _ => ?_⟩
 · have ha : s.a = none := by simpa using ha
   rw [h.nil ha]
   exact ⟨⟨none, 0, 0⟩, rfl, OwnS.none _ _ _, .refl _ _, fun k hk => (ownB_none k hk).elim⟩
 · obtain ⟨s', w', h1, h2, h3, h4, h5, _⟩ := appSet.clone (oT := Ty.space_set) h hp (by omega)
   exact ⟨s', w', h1, s', rfl, h2, h4, h5⟩
section
variable {w w' : World} {b n : Nat} {f g : Nat → Bool} {s1 s2 : Sl}
theorem len_of_own {T : TypeId} {m : Nat} (h : OwnS 1 T w s1 (bytesV f m)) : s1.len = m := by
 have := h.1
 rw [bytesV_length] at this
 omega
theorem commit_raw {m : Nat} {u : Value} (hb : Blk w b #[.int .i64 n, .slice s1.a s1.len s1.cap, u] Ty.space_Space) (h1 : OwnS 1 Ty.uint8 w s1 (bytesV f m)) (hd : ∀ k, ownB s1 k → k ≠ b) (hm : m ≤ 1000000) :
   Ret Tryz.prog F.space_Space_Commit #[.pointer (some ⟨b, 0, none⟩)] w (fun v w' => v = .tuple #[] ∧ ∃ s2' : Sl, Blk w' b #[.int .i64 n, .slice s1.a s1.len s1.cap, .slice s2'.a s2'.len s2'.cap] Ty.space_Space ∧
     OwnS 1 Ty.uint8 w' s1 (bytesV f m) ∧ OwnS 1 Ty.uint8 w' s2' (bytesV f m) ∧ Chg (fun k => k = b) w w' ∧ ∀ k, ownB s2' k → w.heap.size ≤ k) := by
 refine W.space_Space_Commit_ok _ w _ ?_
 (delta W.space_Space_Commit Nx Br r1 c12 st; dsimp only)
 refine ⟨fun _ => ⟨_, rfl, s1, by rw [add_mk, hb.cell]; rfl, (clone_Set h1.src (bytesV_plain f m) (by rw [len_of_own h1]; exact hm)).use ?_⟩, fun h => by simp at h⟩
 rintro _ w2 ⟨s2', rfl, h2, hx, hf⟩
 have hb2 := hb.ext hx
 have hne : ∀ k, ownB s2' k → k ≠ b := fun k hk e => by have := hf k hk; have := hb.lt; omega
 refine ⟨s2', rfl, _, rfl, ⟨_, by rw [add_mk, hb2.cell]; rfl⟩, hb2.frozen _ rfl, rfl, s2', ?_, ?_, ?_, ?_, hf⟩
 · rw [add_mk]; exact hb2.set 2 _
 · exact (h1.ext hx).chg (W := fun k => k = b) (Chg.set (.refl _ _) (fun _ => by rw [add_mk]) _) hd
 · exact h2.chg (W := fun k => k = b) (Chg.set (.refl _ _) (fun _ => by rw [add_mk]) _) hne
 · exact (Chg.of_ext hx).set (fun _ => by rw [add_mk]) _
def popc (x : Nat) : Nat := (x.testBit 0).toNat + (x.testBit 1).toNat + (x.testBit 2).toNat + (x.testBit 3).toNat + (x.testBit 4).toNat + (x.testBit 5).toNat + (x.testBit 6).toNat + (x.testBit 7).toNat
def ones (t : Nat → Bool) : Nat → Nat
 | 0 => 0
 | k + 1 => ones t k + (t k).toNat
theorem ones_le (t : Nat → Bool) : ∀ k, ones t k ≤ k
 | 0 => Nat.le_refl _
 | k + 1 => by have := ones_le t k; have := Bool.toNat_le (t k); simp only [ones]; omega
theorem ones_byte (t : Nat → Bool) (i : Nat) : ones t (8 * (i + 1)) = ones t (8 * i) + popc (byteOf t i) := by
 have h : ∀ j, j < 8 → (byteOf t i).testBit j = t (8 * i + j) := fun j hj => byteOf_bit t i j hj
 unfold popc
 rw [h 0 (by omega), h 1 (by omega), h 2 (by omega), h 3 (by omega), h 4 (by omega), h 5 (by omega), h 6 (by omega), h 7 (by omega)]
 show ones t (8 * i + 7 + 1) = _
 simp only [ones, Nat.add_zero]
 omega
theorem ones_beyond (t : Nat → Bool) (n : Nat) (h : ∀ i, n ≤ i → t i = false) : ∀ k, ones t (n + k) = ones t n
 | 0 => rfl
 | k + 1 => by
   have := ones_beyond t n h k
   show ones t (n + k) + (t (n + k)).toNat = _
   rw [this, h (n + k) (by omega)]
   rfl
theorem popTable : ∀ x : Nat, x < 256 → (byteAt (ByteArray.mk #[0, 1, 1, 2, 1, 2, 2, 3, 1, 2, 2, 3, 2, 3, 3, 4, 1, 2, 2, 3, 2, 3, 3, 4, 2, 3, 3, 4, 3, 4, 4, 5, 1, 2, 2, 3, 2, 3, 3, 4, 2, 3, 3, 4, 3, 4, 4, 5, 2, 3, 3, 4, 3, 4, 4, 5, 3, 4, 4, 5, 4, 5, 5, 6, 1, 2, 2, 3, 2, 3, 3, 4, 2, 3, 3, 4, 3, 4, 4, 5, 2, 3, 3, 4, 3, 4, 4, 5, 3, 4, 4, 5, 4, 5, 5, 6, 2, 3, 3, 4, 3, 4, 4, 5, 3, 4, 4, 5, 4, 5, 5, 6, 3, 4, 4, 5, 4, 5, 5, 6, 4, 5, 5, 6, 5, 6, 6, 7, 1, 2, 2, 3, 2, 3, 3, 4, 2, 3, 3, 4, 3, 4, 4, 5, 2, 3, 3, 4, 3, 4, 4, 5, 3, 4, 4, 5, 4, 5, 5, 6, 2, 3, 3, 4, 3, 4, 4, 5, 3, 4, 4, 5, 4, 5, 5, 6, 3, 4, 4, 5, 4, 5, 5, 6, 4, 5, 5, 6, 5, 6, 6, 7, 2, 3, 3, 4, 3, 4, 4, 5, 3, 4, 4, 5, 4, 5, 5, 6, 3, 4, 4, 5, 4, 5, 5, 6, 4, 5, 5, 6, 5, 6, 6, 7, 3, 4, 4, 5, 4, 5, 5, 6, 4, 5, 5, 6, 5, 6, 6, 7, 4, 5, 5, 6, 5, 6, 6, 7, 5, 6, 6, 7, 6, 7, 7, 8]) x).map (·.toNat) = some (popc x) := by decide +kernel
theorem popc_le (x : Nat) : popc x ≤ 8 := by
 unfold popc
 have h : ∀ b : Bool, b.toNat ≤ 1 := Bool.toNat_le
 have := h (x.testBit 0); have := h (x.testBit 1); have := h (x.testBit 2); have := h (x.testBit 3)
 have := h (x.testBit 4); have := h (x.testBit 5); have := h (x.testBit 6); have := h (x.testBit 7)
 omega
theorem OnesCount8 (w : World) (x : Nat) (hx : x < 256) : Ret Tryz.prog F.math_bits_OnesCount8 #[.int .u8 x] w (fun v w' => v = .int .i64 (popc x) ∧ w = w') := by
 refine W.math_bits_OnesCount8_ok x w _ ?_
 delta W.math_bits_OnesCount8 wI
 have h := popTable x hx
 refine ⟨by omega, ?_⟩
 cases hb : byteAt _ x with
 | none => rw [hb] at h; cases h
 | some y =>
   rw [hb] at h
   simp only [Option.map_some, Option.some.injEq] at h
   refine ⟨y, hb, ?_, rfl⟩
   rw [h, wrapi (by omega) (by have := popc_le x; omega)]
theorem byteOf_or (f g : Nat → Bool) (i : Nat) : byteOf f i ||| byteOf g i = byteOf (fun k => f k || g k) i :=
 byteOf_unique _ _ _ (or_lt _ (byteOf_lt _ _) _ (byteOf_lt _ _)) fun j hj => by rw [Nat.testBit_or, byteOf_bit _ _ _ hj, byteOf_bit _ _ _ hj]
theorem space_Room (h : SpaceAt w b n f g s1 s2) :
   Ret Tryz.prog F.space_Space_Room #[.pointer (some ⟨b, 0, none⟩)] w (fun v w' => v = .int .i64 ((n : Int) - ones (fun i => f i || g i) n) ∧ Ext w w') := by
 have hn2 := h.n2
 have hl1 := len_of_own h.now
 have hl2 := len_of_own h.sure
 refine W.space_Space_Room_ok _ w _ ?_
 (delta W.space_Space_Room Nx Br r2 r1 bd r4 c2 wI; dsimp only)
 refine ⟨fun h1 => by simp at h1, fun _ => ⟨_, rfl, n, h.c0, _, rfl, s1, h.c1, fun r i w' => ∃ k : Nat, i = k ∧ k ≤ s1.len ∧ Ext w w' ∧ r = (n : Int) - ones (fun i => f i || g i) (8 * k), fun _ i _ => ((s1.len : Int) - i).toNat, ⟨0, rfl, by omega, .refl _ _, by simp [ones]⟩, ?_⟩⟩
 rintro _ _ w1 ⟨k, rfl, hk, hx, rfl⟩
 refine ⟨fun hlt => ?_, fun hge => ?_⟩
 · have hkn : k < s1.len := by simpa using hlt
   have h1 := h.ext hx.drew
   obtain ⟨b1, c1, hb1, hblk1, _, _, _, hc1, _⟩ := h1.now.cell (bytesV_get f (i := k) (by omega))
   obtain ⟨b2, c2, hb2, hblk2, _, _, _, hc2, _⟩ := h1.sure.cell (bytesV_get g (i := k) (by omega))
   have ha : ∀ b : Nat, (Addr.mk b 0 none).add (Int.toNat (k : Int) * 1) = ⟨b, k, none⟩ := fun b => by rw [Nat.mul_one, Int.toNat_natCast, add_mk, Nat.zero_add]
   refine ⟨fun _ => False, _, rfl, by simp, s1, h1.c1, _, hb1, by omega, by simp, _, by rw [ha]; exact hc1, _, rfl, by simp, s2, h1.c2, _, hb2, by omega, by simp, _, by rw [ha]; exact hc2, ?_⟩
   rw [bOr_all _ _ (byteOf_lt _ _) (byteOf_lt _ _), byteOf_or]
   refine (OnesCount8 _ _ (byteOf_lt _ _)).use ?_
   rintro _ _ ⟨rfl, rfl⟩
   have := popc_le (byteOf (fun i => f i || g i) k)
   have := ones_le (fun i => f i || g i) (8 * k)
   refine ⟨_, rfl, .refl _ _, ?_⟩
   rw [wrapi (n := (n : Int) - _ - _) (by omega) (by omega), wrapi (n := (k : Int) + 1) (by omega) (by omega)]
   exact ⟨⟨k + 1, by omega, by omega, hx.drew, by rw [ones_byte]; omega⟩, (show ((s1.len : Int) - ((k : Int) + 1)).toNat < ((s1.len : Int) - (k : Int)).toNat by omega)⟩
 · have hkn : k = s1.len := by
     have : ¬ (k : Int) < s1.len := by simpa using hge
     omega
   refine ⟨?_, hx⟩
   have e : 8 * k = n + (8 * k - n) := by omega
   rw [e, ones_beyond _ _ (fun i hi => by simp [h.pf i hi, h.pg i hi])]
end
theorem space_good' (w : World) (n : Int) : Ret Tryz.prog F.space_good #[.int .i64 n] w (fun v w' => v = .bool (decide (1 ≤ n ∧ n ≤ 1600)) ∧ w = w') := by
 refine W.space_good_ok n w _ ?_
 unfold W.space_good
 refine ⟨?_, rfl⟩
 simp [Bool.decide_and]
theorem space_size' (w : World) (n : Nat) (hn : n ≤ 1600) : Ret Tryz.prog F.space_size #[.int .i64 n] w (fun v w' => v = .int .i64 (((n + 7) / 8 : Nat) : Int) ∧ w = w') := by
 refine W.space_size_ok n w _ ?_
 delta W.space_size wI
 refine ⟨by decide, ?_, rfl⟩
 rw [wrapi (n := (n : Int) + 8) (by omega) (by omega), wrapi (n := (n : Int) + 8 - 1) (by omega) (by omega), show (n : Int) + 8 - 1 = ((n + 7 : Nat) : Int) by omega, tdiv8, wrapi (by omega) (by omega)]
theorem bytesV_zero (m : Nat) : bytesV (fun i => decide (i < 0)) m = List.replicate m (.int .u8 0) := by
 apply List.ext_getElem
 · simp [bytesV]
 · intro i h1 h2
   simp [bytesV, byteOf, byte8]
theorem upd_below (j : Nat) : upd (fun i => decide (i < j)) j true = fun i => decide (i < j + 1) := by
 funext i
 unfold upd
 split
 · rename_i h; simp [h]
 · rename_i h; simp; omega
theorem space_New (w : World) (n first : Int) :
   Ret Tryz.prog F.space_New #[.int .i64 n, .int .i64 first] w (fun v w' => (¬ (1 ≤ n ∧ n ≤ 1600 ∧ 0 ≤ first ∧ first ≤ n) ∧ v = .tuple #[.pointer none, .int .i64 1] ∧ w = w') ∨
     (1 ≤ n ∧ n ≤ 1600 ∧ 0 ≤ first ∧ first ≤ n ∧ ∃ b s1 s2, v = .tuple #[.pointer (some ⟨b, 0, none⟩), .int .i64 0] ∧ SpaceAt w' b n.toNat (fun i => decide (i < first.toNat)) (fun i => decide (i < first.toNat)) s1 s2 ∧ Ext w w' ∧ ∀ k, fpS b s1 s2 k → w.heap.size ≤ k)) := by
 refine W.space_New_ok n first w _ ?_
 (delta W.space_New Nx c3 Br c2 mI nA r1 c1 wI; dsimp only)
 refine (space_good' w n).use ?_
 rintro _ _ ⟨rfl, rfl⟩
 refine ⟨_, rfl, fun h => .inl ⟨fun hc => ?_, rfl, rfl⟩, fun h => ?_⟩
 · simp at h; omega
 simp at h
 obtain ⟨⟨⟨hn1, hn2⟩, hf1⟩, hf2⟩ := h
 obtain ⟨n, rfl⟩ := Int.eq_ofNat_of_zero_le (by omega : 0 ≤ n)
 obtain ⟨first, rfl⟩ := Int.eq_ofNat_of_zero_le (by omega : 0 ≤ first)
 refine (space_size' w n (by omega)).use ?_
 rintro _ _ ⟨rfl, rfl⟩
 refine ⟨_, rfl, by omega, ?_⟩
 simp only [Int.toNat_natCast]
 rw [zrow_byte]
 obtain ⟨m, hm⟩ : ∃ m, m = (n + 7) / 8 := ⟨_, rfl⟩
 rw [← hm]
 have hown := OwnS.new (sz := 1) (T := Ty.uint8) w (List.replicate m (.int .u8 0)) m (by simp) (by show m ≤ 2 ^ 63 - 1; omega)
 rw [← bytesV_zero] at hown ⊢
 have hA : Ext w (w.alloc (.cells (bytesV (fun i => decide (i < 0)) m).toArray Ty.uint8)) := Chg.alloc (.refl _ _) _
 generalize hw1 : w.alloc (.cells (bytesV (fun i => decide (i < 0)) m).toArray Ty.uint8) = w1 at *
 have hsz : w1.heap.size = w.heap.size + 1 := by rw [← hw1]; simp
 have hblk := Blk.new w1 #[.int .i64 (n : Int), .slice (some ⟨w.heap.size, 0, none⟩) m m, .slice none 0 0] Ty.space_Space
 have hB := Chg.alloc hA (.cells #[.int .i64 (n : Int), .slice (some ⟨w.heap.size, 0, none⟩) m m, .slice none 0 0] Ty.space_Space)
 have hown2 := hown.ext (Chg.alloc (.refl _ w1) (.cells #[.int .i64 (n : Int), .slice (some ⟨w.heap.size, 0, none⟩) m m, .slice none 0 0] Ty.space_Space))
 refine ⟨fun i w' => ∃ j : Nat, i = j ∧ j ≤ first ∧ Ext w w' ∧ Blk w' w1.heap.size #[.int .i64 (n : Int), .slice (some ⟨w.heap.size, 0, none⟩) m m, .slice none 0 0] Ty.space_Space ∧
   OwnS 1 Ty.uint8 w' ⟨some ⟨w.heap.size, 0, none⟩, m, m⟩ (bytesV (fun i => decide (i < j)) m), fun i _ => ((first : Int) - i).toNat, ⟨0, rfl, by omega, hB, hblk, hown2⟩, ?_⟩
 rintro _ w2 ⟨j, rfl, hj, hx, hb2, ho2⟩
 refine ⟨fun hlt => ?_, fun hge => ?_⟩
 · have hj2 : j < first := by simpa using hlt
   refine ⟨_, rfl, ⟨some ⟨w.heap.size, 0, none⟩, m, m⟩, by rw [add_mk, hb2.cell]; rfl, (set_put ho2 (k := j) (by omega) (by omega)).use ?_⟩
   rintro _ w3 ⟨rfl, ho3, hc⟩
   rw [upd_below] at ho3
   rw [wrapi (by omega) (by omega)]
   refine ⟨rfl, ⟨j + 1, by omega, by omega, ?_, hb2.chg hc ?_, ho3⟩, (show ((first : Int) - ((j : Int) + 1)).toNat < ((first : Int) - (j : Int)).toNat by omega)⟩
   · exact ((Chg.of_ext hx).trans hc).mono fun k hk ho => by rw [ownB_some] at ho; simp at ho; omega
   · intro ho
     rw [ownB_some] at ho
     simp at ho
     omega
 · have hj2 : j = first := by
     have : ¬ (j : Int) < first := by simpa using hge
     omega
   subst hj2
   have hpf : ∀ i, n ≤ i → decide (i < j) = false := fun i hi => by simp; omega
   refine (commit_raw hb2 ho2 (fun k hk e => ?_) (by omega)).use ?_
   · rw [ownB_some] at hk
     simp at hk
     omega
   rintro _ w3 ⟨rfl, s2', h1, h2, h3, h4, h5⟩
   have hlt2 := hb2.lt
   refine ⟨rfl, .inr ⟨by omega, by omega, by omega, by omega, w1.heap.size, ⟨some ⟨w.heap.size, 0, none⟩, m, m⟩, s2', rfl, ⟨h1, ?_, ?_, fun k hk => ⟨fun e => ?_, fun hk2 => ?_⟩, fun k hk e => ?_, by omega, by omega, hpf, hpf⟩, ?_, ?_⟩⟩
   · simp only [← hm]; exact h2
   · simp only [← hm]; exact h3
   · rw [ownB_some] at hk
     simp at hk
     omega
   · rw [ownB_some] at hk
     simp at hk
     have := h5 k hk2
     omega
   · have := h5 k hk
     omega
   · exact ((Chg.of_ext hx).trans h4).mono fun k hk e => by omega
   · rintro k (rfl | hk | hk)
     · omega
     · rw [ownB_some] at hk
       simp at hk
       omega
     · have := h5 k hk
       have := hx.size
       omega
end Go.Proofs.YtplieiecebljmaaGreat
namespace Go.Proofs.YtplieiecebljmaaGreat
open Go Gx
structure Tr where
 tb : Nat
 gen : Nat
 root : Nat
 height : Nat
 C : Ch
 sb : Nat
 n : Nat
 f : Nat → Bool
 g : Nat → Bool
 s1 : Sl
 s2 : Sl
 E : Nat → Prop
 G : Nat → Prop
 P : Nat → Option Nd
def Tr.wO (T : Tr) (E G : Nat → Prop) : Tr := { T with E := E, G := G }
def Tr.wC (T : Tr) (C : Ch) (P : Nat → Option Nd) : Tr := { T with C := C, P := P }
def Tr.X (T : Tr) (q : Nat) : Prop := q = T.tb ∨ fpS T.sb T.s1 T.s2 q ∨ T.E q ∨ T.G q
def Tr.M (T : Tr) (q : Nat) : Prop := fpC T.C q ∨ T.X q
def Tr.N (T : Tr) (q : Nat) : Prop := fpC T.C q ∨ q = T.tb ∨ fpS T.sb T.s1 T.s2 q ∨ T.G q
theorem Tr.NM {T : Tr} {q : Nat} (h : T.N q) : T.M q := h.imp id (Or.imp id (Or.imp id .inr))
def pgNd (gen : Nat) (leaf : Bool) (no : Nat) (l : Sec) (n : Nd) : Prop :=
 ∃ p : Pg, pgDec (no : Int) l = .ok p ∧ p.gen ≤ gen ∧ p.kind = (if leaf then 1 else 2) ∧ DecOk leaf p.body n
def trL (T : Tr) : List Value := [.pointer (some ⟨T.C.c, 0, none⟩), .pointer (some ⟨T.sb, 0, none⟩), .int .u64 (T.gen : Nat), .int .i64 (T.root : Nat), .int .i64 (T.height : Nat)]
structure TrAt (w : World) (T : Tr) : Prop where
 t : Var w T.tb (trL T) Ty.tree_Tree
 s : SpaceAt w T.sb T.n T.f T.g T.s1 T.s2
 ca : CaAt T.X w T.C
 dt : ¬ fpS T.sb T.s1 T.s2 T.tb
 de : ∀ q, T.E q → q ≠ T.tb ∧ ¬ fpS T.sb T.s1 T.s2 q ∧ ¬ T.G q
 dg : ∀ q, T.G q → q ≠ T.tb ∧ ¬ fpS T.sb T.s1 T.s2 q
 n : T.C.D.n = T.n
 num : T.root < T.n ∧ T.height ≤ 12 ∧ T.gen < 18446744073709551616
 pn : ∀ no nd, T.P no = some nd → no < T.n ∧ pgNd T.gen nd.leaf no (T.C.view no) nd
structure TTo (T T' : Tr) (w w' : World) (k : Nat) : Prop where
 tb : T'.tb = T.tb
 sb : T'.sb = T.sb
 n : T'.n = T.n
 g : T'.g = T.g
 s1 : T'.s1 = T.s1
 s2 : T'.s2 = T.s2
 c : T'.C.c = T.C.c
 d : T'.C.D.d = T.C.D.d
 lasts : T'.C.D.lasts = T.C.D.lasts
 gen : T'.gen = T.gen
 ld : T'.C.D.ld ≤ T.C.D.ld + k
 calm : ∀ m, T.C.D.calm (m + k) → T'.C.D.calm m
 chg : Chg T.N w w'
 fp : ∀ q, T'.M q → T.M q ∨ w.heap.size ≤ q
 fn : ∀ q, T'.N q → T.N q ∨ w.heap.size ≤ q
theorem TTo.refl (T : Tr) (w : World) : TTo T T w w 0 := ⟨rfl, rfl, rfl, rfl, rfl, rfl, rfl, rfl, rfl, rfl, Nat.le_refl _, fun _ h => h, .refl _ _, fun _ h => .inl h, fun _ h => .inl h⟩
theorem TTo.ext {w w' : World} (T : Tr) (h : Ext w w') : TTo T T w w' 0 := ⟨rfl, rfl, rfl, rfl, rfl, rfl, rfl, rfl, rfl, rfl, Nat.le_refl _, fun _ h => h, Chg.of_ext h, fun _ h => .inl h, fun _ h => .inl h⟩
theorem TTo.trans {T T' T'' : Tr} {w w' w'' : World} {k l : Nat} (h1 : TTo T T' w w' k) (h2 : TTo T' T'' w' w'' l) : TTo T T'' w w'' (k + l) := by
 have hs := h1.chg.size
 refine ⟨h2.tb.trans h1.tb, h2.sb.trans h1.sb, h2.n.trans h1.n, h2.g.trans h1.g, h2.s1.trans h1.s1, h2.s2.trans h1.s2, h2.c.trans h1.c, h2.d.trans h1.d, h2.lasts.trans h1.lasts, h2.gen.trans h1.gen, by have := h1.ld; have := h2.ld; omega,
   fun m hm => h2.calm m (h1.calm (m + l) (by rw [show m + l + k = m + (k + l) by omega]; exact hm)), chgGrow h1.chg h2.chg fun q hq h => (h1.fn q h).resolve_right (by omega), fun q hq => ?_, fun q hq => ?_⟩
 · rcases h2.fp q hq with h | h
   · exact h1.fp q h
   · exact .inr (by omega)
 · rcases h2.fn q hq with h | h
   · exact h1.fn q h
   · exact .inr (by omega)
theorem TTo.mono {T T' : Tr} {w w' : World} {k l : Nat} (h : TTo T T' w w' k) (hl : k ≤ l) : TTo T T' w w' l :=
 ⟨h.tb, h.sb, h.n, h.g, h.s1, h.s2, h.c, h.d, h.lasts, h.gen, by have := h.ld; omega, fun m hm => h.calm m (calm_mono hm (by omega)), h.chg, h.fp, h.fn⟩
theorem TTo.nd {T T' : Tr} {w w' : World} {k lo : Nat} (h : TTo T T' w w' k) {n : Nd} {K V D : Sl} (hn : NdAt (fun q => lo ≤ q ∧ ¬ T.M q) w n K V D) : NdAt (fun q => lo ≤ q ∧ ¬ T'.M q) w' n K V D := by
 have h1 : NdAt (fun q => q < w.heap.size ∧ lo ≤ q ∧ ¬ T.M q) w n K V D := hn.weak fun q hq hb => ⟨hq, hb⟩
 refine (NdAt.chg h1 h.chg fun q hq hm => hq.2.2 (Tr.NM hm)).weak fun q _ hb => ⟨hb.2.1, fun hm => ?_⟩
 rcases h.fp q hm with h2 | h2
 · exact hb.2.2 h2
 · have := hb.1; omega
section
variable {w w' : World} {T T' : Tr}
theorem TTo.step {W E G : Nat → Prop} {w1 : World} {k : Nat} (h : TTo T T' w w1 k) (hc : Chg W w1 w') (hW : ∀ q, W q → q < w.heap.size → T.N q) (hE : ∀ q, E q → T'.E q ∨ T'.G q ∨ w.heap.size ≤ q) (hG : ∀ q, G q → T'.G q ∨ w.heap.size ≤ q) : TTo T (T'.wO E G) w w' k := by
 refine ⟨h.tb, h.sb, h.n, h.g, h.s1, h.s2, h.c, h.d, h.lasts, h.gen, h.ld, h.calm, chgGrow h.chg hc fun q hq hw => hW q hw hq, fun q hq => ?_, fun q hq => ?_⟩
 · rcases hq with hq | hq | hq | hq | hq
   · exact h.fp q (.inl hq)
   · exact h.fp q (.inr (.inl hq))
   · exact h.fp q (.inr (.inr (.inl hq)))
   · rcases hE q hq with h1 | h1 | h1
     · exact h.fp q (.inr (.inr (.inr (.inl h1))))
     · exact h.fp q (.inr (.inr (.inr (.inr h1))))
     · exact .inr h1
   · rcases hG q hq with h1 | h1
     · exact h.fp q (.inr (.inr (.inr (.inr h1))))
     · exact .inr h1
 · rcases hq with hq | hq | hq | hq
   · exact h.fn q (.inl hq)
   · exact h.fn q (.inr (.inl hq))
   · exact h.fn q (.inr (.inr (.inl hq)))
   · rcases hG q hq with h1 | h1
     · exact h.fn q (.inr (.inr (.inr h1)))
     · exact .inr h1
theorem TTo.local {E1 E2 G1 G2 : Nat → Prop} {w1 : World} {k : Nat} (h : TTo (T.wO E1 G1) T' w1 w' k) (hx : Ext w w1) (hE1 : ∀ q, E1 q → T.E q ∨ w.heap.size ≤ q) (hG1 : ∀ q, G1 q → T.G q ∨ w.heap.size ≤ q)
   (hE2 : ∀ q, E2 q → T'.E q ∨ T'.G q) (hG2 : ∀ q, G2 q → T'.G q) : TTo T (T'.wO E2 G2) w w' k := by
 have h0 : TTo T (T.wO E1 G1) w w1 0 := (TTo.ext T (w := w) (w' := w) (Chg.refl _ _)).step (W := fun _ => False) hx (fun _ h => h.elim) (fun q h => (hE1 q h).imp id .inr) hG1
 have h1 := h0.trans h
 rw [Nat.zero_add] at h1
 exact h1.step (W := fun _ => False) (Chg.refl _ _) (fun _ h => h.elim) (fun q h => (hE2 q h).imp id .inl) fun q h => .inl (hG2 q h)
theorem TrAt.lt (h : TrAt w T) {q : Nat} (hq : T.M q) : q < w.heap.size := by
 rcases hq with hq | hq
 · exact h.ca.raw.lt hq
 · exact (h.ca.inv.xl q hq).1
theorem TrAt.eN (h : TrAt w T) {q : Nat} (hq : T.E q) : ¬ T.N q := by
 rintro (hn | hn | hn | hn)
 · exact (h.ca.inv.xl q (.inr (.inr (.inl hq)))).2 hn
 · exact (h.de q hq).1 hn
 · exact (h.de q hq).2.1 hn
 · exact (h.de q hq).2.2 hn
theorem TrAt.ext (h : TrAt w T) (hx : Ext w w') : TrAt w' T := ⟨h.t.ext hx, h.s.ext hx, h.ca.ext hx, h.dt, h.de, h.dg, h.n, h.num, h.pn⟩
theorem CaAt.grow {X Y W : Nat → Prop} {C : Ch} (h : CaAt X w C) (hc : Chg W w w') (hW : ∀ q, W q → q < w.heap.size → X q) (hY : ∀ q, Y q → X q ∨ (w.heap.size ≤ q ∧ q < w'.heap.size)) : CaAt Y w' C := by
 have hc' : Chg X w w' := chgGrow (W := X) (Chg.refl _ _) hc fun q hq hw => hW q hw hq
 refine ⟨h.raw.chg hc' fun q hq hx => (h.inv.xl q hx).2 hq, h.inv.pins, fun f hf hfull => ?_, h.inv.un, fun q hq => ?_⟩
 · obtain ⟨no, g1, g2, g3, g4, g5⟩ := h.inv.ok f hf hfull
   have g6 : Tx (fun q => q < w.heap.size ∧ ¬ fpC C q ∧ ¬ X q) w f.b f.l := Tx.weak g3 fun q hq hb => ⟨hq, hb⟩
   refine ⟨no, g1, g2, Tx.weak (Tx.chg g6 hc' fun q hq hx => hq.2.2 hx) fun q _ hb => ⟨hb.2.1, fun hy => ?_⟩, g4, g5⟩
   rcases hY q hy with h1 | h1
   · exact hb.2.2 h1
   · have := hb.1; omega
 · rcases hY q hq with h1 | h1
   · exact ⟨Nat.lt_of_lt_of_le (h.inv.xl q h1).1 hc.size, (h.inv.xl q h1).2⟩
   · exact ⟨h1.2, fun hf => by have := h.raw.lt hf; omega⟩
theorem TrAt.grow {E G W : Nat → Prop} (h : TrAt w T) (hc : Chg W w w') (hW : ∀ q, W q → q < w.heap.size → T.E q ∨ T.G q) (hE : ∀ q, E q → T.E q ∨ T.G q ∨ (w.heap.size ≤ q ∧ q < w'.heap.size)) (hG : ∀ q, G q → T.E q ∨ T.G q ∨ (w.heap.size ≤ q ∧ q < w'.heap.size)) (hEG : ∀ q, E q → ¬ G q) : TrAt w' (T.wO E G) := by
 have hO : ∀ q, T.E q ∨ T.G q → q ≠ T.tb ∧ ¬ fpS T.sb T.s1 T.s2 q := fun q hq => by
   rcases hq with hq | hq
   · exact ⟨(h.de q hq).1, (h.de q hq).2.1⟩
   · exact h.dg q hq
 have hc' : Chg (fun q => T.E q ∨ T.G q) w w' := chgGrow (W := fun q => T.E q ∨ T.G q) (Chg.refl _ _) hc fun q hq hw => hW q hw hq
 have hn : ∀ q, T.E q ∨ T.G q ∨ (w.heap.size ≤ q ∧ q < w'.heap.size) → q ≠ T.tb ∧ ¬ fpS T.sb T.s1 T.s2 q := fun q hq => by
   rcases hq with hq | hq | hq
   · exact hO q (.inl hq)
   · exact hO q (.inr hq)
   · exact ⟨fun e => by have h2 := h.lt (q := q) (.inr (.inl e)); omega, fun e => by have h2 := h.lt (q := q) (.inr (.inr (.inl e))); omega⟩
 have hX : ∀ q, T.E q ∨ T.G q ∨ (w.heap.size ≤ q ∧ q < w'.heap.size) → T.X q ∨ (w.heap.size ≤ q ∧ q < w'.heap.size) := fun q hq => by
   rcases hq with hq | hq | hq
   · exact .inl (.inr (.inr (.inl hq)))
   · exact .inl (.inr (.inr (.inr hq)))
   · exact .inr hq
 refine ⟨h.t.chg hc' fun e => (hO _ e).1 rfl, h.s.chg hc' fun q hq e => (hO q e).2 hq, h.ca.grow hc (fun q hq hl => .inr (.inr (hW q hq hl))) fun q hq => ?_, h.dt, fun q hq => ⟨(hn q (hE q hq)).1, (hn q (hE q hq)).2, hEG q hq⟩, fun q hq => hn q (hG q hq), h.n, h.num, h.pn⟩
 rcases hq with hq | hq | hq | hq
 · exact .inl (.inl hq)
 · exact .inl (.inr (.inl hq))
 · exact hX q (hE q hq)
 · exact hX q (hG q hq)
theorem TrAt.cells (h : TrAt w T) : w.cell? ⟨T.tb, 0, none⟩ = some (.pointer (some ⟨T.C.c, 0, none⟩)) ∧ w.cell? (Addr.add ⟨T.tb, 0, none⟩ 1) = some (.pointer (some ⟨T.sb, 0, none⟩)) ∧ w.cell? (Addr.add ⟨T.tb, 0, none⟩ 2) = some (.int .u64 (T.gen : Nat)) ∧
   w.cell? (Addr.add ⟨T.tb, 0, none⟩ 3) = some (.int .i64 (T.root : Nat)) ∧ w.cell? (Addr.add ⟨T.tb, 0, none⟩ 4) = some (.int .i64 (T.height : Nat)) := by
 rw [add_mk, add_mk, add_mk, add_mk]
 exact ⟨h.t.cell, h.t.cell, h.t.cell, h.t.cell, h.t.cell⟩
theorem TrAt.viewLen (h : TrAt w T) {no : Nat} (hno : no < T.n) : (T.C.view no).length = 256 := by
 unfold Ch.view
 cases hf : T.C.frames.find? fun f => f.full && f.no == (no : Int) with
 | some f =>
   have h1 := List.mem_of_find?_eq_some hf
   have h2 := List.find?_some hf
   obtain ⟨m, h3⟩ := h.ca.inv.ok f h1 (by
     have : (f.full && f.no == (no : Int)) = true := h2
     exact (Bool.and_eq_true_iff.1 this).1)
   exact h3.len
 | none => exact h.ca.raw.dev.nowLen (by rw [h.n]; exact hno)
theorem TrAt.cto {C' : Ch} {k : Nat} {P : Nat → Option Nd} (h : TrAt w T) (hca : CaAt T.X w' C') (hto : CTo T.C C' w w' k) (hP : ∀ no nd, P no = some nd → no < T.n ∧ pgNd T.gen nd.leaf no (C'.view no) nd) :
   TrAt w' (T.wC C' P) ∧ TTo T (T.wC C' P) w w' k := by
 have hx := h.ca.inv.xl
 have hc := hto.chg
 refine ⟨⟨?_, h.s.chg hc fun q hq hf => (hx q (.inr (.inl hq))).2 hf, hca, h.dt, h.de, h.dg, ?_, h.num, hP⟩, ⟨rfl, rfl, rfl, rfl, rfl, rfl, hto.c, hto.d, hto.lasts, rfl, hto.ld, hto.calm, hc.mono fun q _ hq => .inl hq, ?_, ?_⟩⟩
 · have := h.t.chg hc fun hf => (hx T.tb (.inl rfl)).2 hf
   unfold trL at this ⊢
   rw [← hto.c] at this
   exact this
 · show C'.D.n = T.n
   rw [hto.n, h.n]
 · rintro q (hq | hq)
   · rcases hto.fp q hq with h1 | h1
     · exact .inl (.inl h1)
     · exact .inr h1
   · exact .inl (.inr hq)
 · rintro q (hq | hq)
   · rcases hto.fp q hq with h1 | h1
     · exact .inl (.inl h1)
     · exact .inr h1
   · exact .inl (.inr hq)
end
end Go.Proofs.YtplieiecebljmaaGreat
namespace Go.Proofs.YtplieiecebljmaaGreat
open Go Gx
def ReadE (T : Tr) (leaf : Bool) (no : Nat) (e : Int) : Prop :=
 (e = 3 ∧ ¬ T.C.D.calm 2) ∨ pgDec (no : Int) (T.C.view no) = .error e ∨ (e = 4 ∧ (∃ p, pgDec (no : Int) (T.C.view no) = .ok p) ∧ ∀ n, ¬ pgNd T.gen leaf no (T.C.view no) n)
def ReadR' (T : Tr) (leaf : Bool) (no : Nat) (w : World) (v : Value) (w' : World) : Prop :=
 ∃ C' : Ch, TrAt w' (T.wC C' T.P) ∧ TTo T (T.wC C' T.P) w w' 2 ∧ (∀ j, C'.view j = T.C.view j) ∧
   ((∃ (n : Nd) (K V D : Sl), v = .tuple #[ndV n K V D, .int .i64 0] ∧ pgNd T.gen leaf no (T.C.view no) n ∧ NdAt (fun q => w.heap.size ≤ q ∧ ¬ (T.wC C' T.P).M q) w' n K V D) ∨
     (∃ e : Int, v = .tuple #[ndV nd0 nil3 nil3 nil3, .int .i64 e] ∧ ReadE T leaf no e ∧ e ≠ 0))
theorem pgDec_err {no : Int} {l : Sec} {e : Int} (h : pgDec no l = .error e) : e ≠ 0 := by
 intro he
 subst he
 unfold pgDec at h
 repeat' split at h
 all_goals first | (injection h with h; exact absurd h (by decide)) | cases h
theorem pgDec_body {no : Int} {l : Sec} {p : Pg} (h : pgDec no l = .ok p) : p.body.length ≤ 256 := by
 unfold pgDec at h
 repeat' split at h
 all_goals first | (cases h; done) | skip
 rename_i h1 _ _ _ _ _
 injection h with h
 rw [← h]
 show (List.take _ (List.drop 24 l)).length ≤ 256
 rw [List.length_take, List.length_drop]
 omega
theorem retP' {w' : World} {h : Nat} {vs : List Value} (n g : Int) (s : Sl) (hv : Var w' h vs Ty.api_Page) (hl : vs.length = 3) {K : World → Prop} (hK : ∀ w2, Var w2 h [.int .i64 n, .int .u64 g, .slice s.a s.len s.cap] Ty.api_Page → Chg (fun q => q = h) w' w2 → w2.heap.size = w'.heap.size → K w2) :
   StoreOk w' ⟨h, 0, none⟩ [.int .i64 n, .int .u64 g, .slice s.a s.len s.cap] ∧ (3 : Nat) = 3 ∧ Nx (setCells w' ⟨h, 0, none⟩ 0 [.int .i64 n, .int .u64 g, .slice s.a s.len s.cap]) K := by
 refine ⟨hv.storeOk (by rw [hl]; rfl) ?_, rfl, nxPut hv (us := [.int .i64 n, .int .u64 g, .slice s.a s.len s.cap]) (by rw [hl]; rfl) rfl hK⟩
 intro v hv
 simp only [List.mem_cons, List.not_mem_nil, or_false] at hv
 rcases hv with rfl | rfl | rfl <;> trivial
theorem tree_read {w : World} {T : Tr} (h : TrAt w T) (hld : T.C.D.ld ≤ 999999999) {no : Nat} (hno : no < T.n) (leaf : Bool) :
   Ret Tryz.prog F.tree_Tree_read #[.pointer (some ⟨T.tb, 0, none⟩), .int .i64 ((no : Nat) : Int), .bool leaf] w (ReadR' T leaf no w) := by
 have hn2 := h.s.n2
 have hvl := h.viewLen hno
 refine W.tree_Tree_read_ok (some ⟨T.tb, 0, none⟩) ((no : Nat) : Int) leaf w _ ?_
 (delta W.tree_Tree_read z1 c4 Br T28 nA T8 r3 r1 c16 z3 r5 r2 T12 c9; dsimp only)
 refine nxVar (vs := [.bool false, .slice none 0 0, .slice none 0 0, .slice none 0 0]) rfl fun w1 hz1 hx1 hs1 => ?_
 obtain ⟨G1, hG1⟩ : ∃ G1, G1 = fun q => T.G q ∨ q = w.heap.size := ⟨_, rfl⟩
 have hGh : G1 w.heap.size := by rw [hG1]; exact .inr rfl
 have hGg : ∀ q, T.G q → G1 q := fun q hq => by rw [hG1]; exact .inl hq
 have hGl : ∀ q, G1 q → T.G q ∨ q = w.heap.size := fun q hq => by rw [hG1] at hq; exact hq
 have h1 : TrAt w1 (T.wO T.E G1) := h.grow (W := fun _ => False) hx1 (fun _ h => h.elim) (fun q hq => .inl hq) (fun q hq => .inr ((hGl q hq).imp id fun e => ⟨by omega, by omega⟩)) fun q hq hg => by
   rcases hGl q hg with h2 | h2
   · exact (h.de q hq).2.2 h2
   · have := h.lt (q := q) (.inr (.inr (.inr (.inl hq)))); omega
 refine ⟨_, rfl, _, h1.cells.1, (cache_Get h1.ca hld (no := no) (by rw [h1.n]; exact hno)).use ?_⟩
 rintro _ w4 ⟨C', hca, hto, hv, hres⟩
 obtain ⟨h4, ht4⟩ := h1.cto (P := T.P) hca hto (fun no nd hp => by rw [hv]; exact h1.pn no nd hp)
 have hs4 := hto.chg.size
 have hz4 : Var w4 w.heap.size [.bool false, .slice none 0 0, .slice none 0 0, .slice none 0 0] Ty.api_Node := hz1.chg hto.chg fun hf => (h1.ca.inv.xl _ (.inr (.inr (.inr hGh)))).2 hf
 -- what is done behind
 have fin : ∀ w' : World, Chg (fun q => q = w.heap.size) w4 w' → TrAt w' (T.wC C' T.P) ∧ TTo T (T.wC C' T.P) w w' 2 := fun w' hc => by
   refine ⟨h4.grow (E := T.E) (G := T.G) hc (fun q e _ => .inr (by rw [e]; exact hGh)) (fun q hq => .inl hq) (fun q hq => .inr (.inl (hGg q hq))) fun q hq => (h.de q hq).2.2, ?_⟩
   have h5 := ht4.local hx1 (fun q hq => .inl hq) (fun q hq => (hGl q hq).imp id fun e => by omega) (E2 := T.E) (G2 := T.G) (fun q hq => .inl hq) hGg
   exact h5.step hc (fun q e hl => by omega) (fun q hq => .inl hq) fun q hq => .inl hq
 have fin2 : ∀ {w' : World} {n : Nd} {K V D : Sl} {B : Nat → Prop}, NdAt (fun q => w4.heap.size ≤ q) w' n K V D → NdAt (fun q => w.heap.size ≤ q ∧ ¬ (T.wC C' T.P).M q) w' n K V D := fun hn => by
   refine hn.weak fun q _ hq => ⟨by omega, fun hm => ?_⟩
   have : q < w4.heap.size := h4.lt (q := q) (by
     rcases hm with hm | hm | hm | hm | hm
     · exact .inl hm
     · exact .inr (.inl hm)
     · exact .inr (.inr (.inl hm))
     · exact .inr (.inr (.inr (.inl hm)))
     · exact .inr (.inr (.inr (.inr (hGg q hm)))))
   omega
 rcases hres with ⟨s, rfl, hs⟩ | ⟨rfl, hnc⟩
 · refine ⟨s, 0, rfl, fun hb => (by cases hb), fun _ => (page_Decode hs.1 hs.2.1 (by show (T.C.view no).length ≤ 1000; rw [hvl]; omega) _).use ?_⟩
   rintro _ w13 ⟨hdec, hx13⟩
   have hz13 := hz4.ext hx13
   have hs13 := hx13.size
   have e1 : (T.wO T.E G1).C.view no = T.C.view no := rfl
   rw [e1] at hdec
   cases hpg : pgDec ((no : Nat) : Int) (T.C.view no) with
   | error e =>
     rw [hpg] at hdec
     obtain rfl := hdec
     refine ⟨0, 0, ⟨none, 0, 0⟩, e, rfl, nxVar (vs := [.int .i64 0, .int .u64 0, .slice none 0 0]) rfl fun w19 hp19 hx19 hs19 => ?_⟩
     refine retP' 0 0 ⟨none, 0, 0⟩ hp19 rfl fun w20 hp20 hc20 hs20 => ⟨fun _ => ?_, fun hb => ?_⟩
     · have hz20 : Var w20 w.heap.size [.bool false, .slice none 0 0, .slice none 0 0, .slice none 0 0] Ty.api_Node := (hz13.ext hx19).chg hc20 (by omega)
       refine retN false nil3 nil3 nil3 hz20 rfl (Q := fun b K V D w2 => ReadR' T leaf no w (.tuple #[.agg #[.bool b, .slice K.a K.len K.cap, .slice V.a V.len V.cap, .slice D.a D.len D.cap], .int .i64 e]) w2) fun w5 hc5 => ?_
       obtain ⟨f1, f2⟩ := fin w5 (chgGrow (W := fun q => q = w.heap.size) (Chg.of_ext (Ext.of_chg (hx13.trans hx19) hc20 (by omega))) hc5 fun q _ e => e)
       exact ⟨C', f1, f2, hv, .inr ⟨e, rfl, .inr (.inl hpg), pgDec_err hpg⟩⟩
     · have := pgDec_err hpg
       simp at hb; omega
   | ok p =>
     rw [hpg] at hdec
     obtain ⟨s', rfl, hs', hfr⟩ := hdec
     refine ⟨p.kind, p.gen, s', 0, rfl, nxVar (vs := [.int .i64 0, .int .u64 0, .slice none 0 0]) rfl fun w19 hp19 hx19 hs19 => ?_⟩
     refine retP' p.kind p.gen s' hp19 rfl fun w20 hp20 hc20 hs20 => ⟨fun hb => (by cases hb), fun _ => nx ?_⟩
     have hz20 : Var w20 w.heap.size [.bool false, .slice none 0 0, .slice none 0 0, .slice none 0 0] Ty.api_Node := (hz13.ext hx19).chg hc20 (by omega)
     have hx20 : Ext w4 w20 := Ext.of_chg (hx13.trans hx19) hc20 (by omega)
     have hxd : Ext w4 w20.drew := hx20.trans (ext_drew _)
     have hzd : Var w20.drew w.heap.size [.bool false, .slice none 0 0, .slice none 0 0, .slice none 0 0] Ty.api_Node := hz20.drew
     have hpd := hp20.drew
     have hcd := (h4.ext hxd).cells
     obtain ⟨b, hb⟩ : ∃ b, b = w13.heap.size := ⟨_, rfl⟩
     rw [← hb] at hpd ⊢
     have hc0 : w20.drew.cell? ⟨b, 0, none⟩ = some (.int .i64 (p.kind : Nat)) := hpd.cell
     have hc1 : w20.drew.cell? (Addr.add ⟨b, 0, none⟩ 1) = some (.int .u64 (p.gen : Nat)) := by rw [add_mk]; exact hpd.cell
     have hc2 : w20.drew.cell? (Addr.add ⟨b, 0, none⟩ 2) = some (.slice s'.a s'.len s'.cap) := by rw [add_mk]; exact hpd.cell
     have hsz : w4.heap.size ≤ w20.drew.heap.size := hxd.size
     refine ⟨id, _, hc1, _, rfl, id, _, hcd.2.2.1, fun hg => ?_, fun hg => ⟨id, _, hc0, ?_⟩⟩
     · have hg : T.gen < p.gen := by
         have : ((p.gen : Nat) : Int) > ((T.gen : Nat) : Int) := of_decide_eq_true hg
         omega
       refine Jn1 (fun b w' => b = true ∧ w' = w20.drew) (fun q hq => ⟨fun _ => hq _ _ ⟨rfl, rfl⟩, fun h => by cases h⟩) ?_
       rintro _ _ ⟨rfl, rfl⟩
       refine ⟨fun _ => ?_, fun h => (by cases h)⟩
       refine retN false nil3 nil3 nil3 hzd rfl (Q := fun b K V D w2 => ReadR' T leaf no w (.tuple #[.agg #[.bool b, .slice K.a K.len K.cap, .slice V.a V.len V.cap, .slice D.a D.len D.cap], .int .i64 4]) w2) fun w5 hc5 => ?_
       obtain ⟨f1, f2⟩ := fin w5 (chgGrow (W := fun q => q = w.heap.size) (Chg.of_ext hxd) hc5 fun q _ e => e)
       refine ⟨C', f1, f2, hv, .inr ⟨4, rfl, .inr (.inr ⟨rfl, ⟨p, hpg⟩, ?_⟩), by decide⟩⟩
       rintro n ⟨p', g1, g2, _⟩
       rw [hpg] at g1; cases g1
       omega
     · have hg : p.gen ≤ T.gen := by
         have : ¬ ((p.gen : Nat) : Int) > ((T.gen : Nat) : Int) := of_decide_eq_false hg
         omega
       refine Jn1 (fun b w' => w' = w20.drew ∧ (b = false ↔ p.kind = (if leaf then 1 else 2))) (fun q hq => ⟨fun h => hq _ _ ⟨rfl, ?_⟩, fun h => ⟨_, hc0, Jn1 (fun b w' => w' = w20.drew ∧ (b = false ↔ p.kind = (if leaf then 1 else 2))) (fun r hr => ⟨fun h2 => ⟨_, hc0, hr _ _ ⟨rfl, ?_⟩⟩, fun h2 => hr _ _ ⟨rfl, ?_⟩⟩) fun b w' hbw => hq b w' hbw⟩⟩) ?_
       · refine ⟨fun h => (by cases h), fun hk => ?_⟩
         rw [hk] at h
         cases leaf <;> simp at h
       · cases leaf
         · simp
           exact Int.ofNat_inj
         · simp at h2 h; omega
       · cases leaf
         · simp at h2 h; omega
         · simp at h2
           simp
           omega
       rintro b' _ ⟨rfl, hk⟩
       refine ⟨fun hb => ?_, fun hb => ⟨_, hc2, (node_Decode ((hs'.ext (Ext.of_chg hx19 hc20 (by omega) |>.trans (ext_drew _))).src) ?_ ?_ ?_ leaf).use ?_⟩⟩
       · refine retN false nil3 nil3 nil3 hzd rfl (Q := fun b K V D w2 => ReadR' T leaf no w (.tuple #[.agg #[.bool b, .slice K.a K.len K.cap, .slice V.a V.len V.cap, .slice D.a D.len D.cap], .int .i64 4]) w2) fun w5 hc5 => ?_
         obtain ⟨f1, f2⟩ := fin w5 (chgGrow (W := fun q => q = w.heap.size) (Chg.of_ext hxd) hc5 fun q _ e => e)
         refine ⟨C', f1, f2, hv, .inr ⟨4, rfl, .inr (.inr ⟨rfl, ⟨p, hpg⟩, ?_⟩), by decide⟩⟩
         rintro n ⟨p', g1, g2, g3, _⟩
         rw [hpg] at g1; cases g1
         rw [hk.2 g3] at hb; cases hb
       · exact hs'.2.1
       · intro k hk
         have := OwnS.lt hs' k hk
         have := hx19.size
         show k < w20.heap.size
         omega
       · have := pgDec_body hpg
         omega
       rintro _ w44 ⟨hdn, hx44⟩
       have hx444 : Ext w4 w44 := hxd.trans hx44
       have hz44 := hzd.ext hx44
       rcases hdn with ⟨n, K, V, D, rfl, hok, hnd⟩ | ⟨rfl, hno2⟩
       · refine ⟨n.leaf, K, V, D, 0, rfl, ?_⟩
         refine retN n.leaf K V D hz44 rfl (Q := fun b K V D w2 => ReadR' T leaf no w (.tuple #[.agg #[.bool b, .slice K.a K.len K.cap, .slice V.a V.len V.cap, .slice D.a D.len D.cap], .int .i64 0]) w2) fun w5 hc5 => ?_
         obtain ⟨f1, f2⟩ := fin w5 (chgGrow (W := fun q => q = w.heap.size) (Chg.of_ext hx444) hc5 fun q _ e => e)
         refine ⟨C', f1, f2, hv, .inl ⟨n, K, V, D, rfl, ⟨p, hpg, hg, hk.1 hb, hok⟩, ?_⟩⟩
         refine fin2 (B := fun _ => True) (NdAt.chg (hnd.weak fun q _ hq => ?_) hc5 fun q hq e => ?_)
         · omega
         · have : w4.heap.size ≤ q := hq
           omega
       · refine ⟨false, nil3, nil3, nil3, 4, rfl, ?_⟩
         refine retN false nil3 nil3 nil3 hz44 rfl (Q := fun b K V D w2 => ReadR' T leaf no w (.tuple #[.agg #[.bool b, .slice K.a K.len K.cap, .slice V.a V.len V.cap, .slice D.a D.len D.cap], .int .i64 4]) w2) fun w5 hc5 => ?_
         obtain ⟨f1, f2⟩ := fin w5 (chgGrow (W := fun q => q = w.heap.size) (Chg.of_ext hx444) hc5 fun q _ e => e)
         refine ⟨C', f1, f2, hv, .inr ⟨4, rfl, .inr (.inr ⟨rfl, ⟨p, hpg⟩, ?_⟩), by decide⟩⟩
         rintro n ⟨p', g1, g2, g3, g4⟩
         rw [hpg] at g1; cases g1
         exact hno2 n g4
 · refine ⟨⟨none, 0, 0⟩, 3, rfl, fun _ => ?_, fun hb => (by cases hb)⟩
   refine retN false nil3 nil3 nil3 hz4 rfl (Q := fun b K V D w2 => ReadR' T leaf no w (.tuple #[.agg #[.bool b, .slice K.a K.len K.cap, .slice V.a V.len V.cap, .slice D.a D.len D.cap], .int .i64 3]) w2) fun w5 hc5 => ?_
   obtain ⟨f1, f2⟩ := fin w5 hc5
   exact ⟨C', f1, f2, hv, .inr ⟨3, rfl, .inl ⟨rfl, hnc⟩, by decide⟩⟩
end Go.Proofs.YtplieiecebljmaaGreat
namespace Go.Proofs.YtplieiecebljmaaGreat
open Go Gx
structure Sp where
 no : Nat
 n : Nd
 kid : Nat
 K : Sl
 V : Sl
 D : Sl
def Sp.c (s : Sp) : List Value := [.int .i64 (s.no : Nat), .bool s.n.leaf, .slice s.K.a s.K.len s.K.cap, .slice s.V.a s.V.len s.V.cap, .slice s.D.a s.D.len s.D.cap, .int .i64 (s.kid : Nat)]
def Sp.st (s : Sp) : Nat × Nd × Nat := (s.no, s.n, s.kid)
theorem spC (l : List Sp) : ∀ x ∈ l, (Sp.c x).length = 6 := fun _ _ => rfl
structure WayM (B : Nat → Prop) (w : World) (s : Sl) (l : List Sp) : Prop where
 own : OwnS 6 Ty.tree_step w s (fl Sp.c l)
 bl : ∀ q, ownB s q → B q
 nd : ∀ x ∈ l, NdAt B w x.n x.K x.V x.D
def WayOk (P : Nat → Option Nd) (k : Key) : Nat → Nat → List (Nat × Nd × Nat) → Prop
 | 0, _, l => l = []
 | h + 1, no, l => ∃ n rest, P no = some n ∧ n.leaf = decide (h = 0) ∧ l = (no, n, if h = 0 then 0 else kidIx n.keys k) :: rest ∧ WayOk P k h (n.kids.getD (kidIx n.keys k) 0) rest
theorem WayOk.length {P : Nat → Option Nd} {k : Key} : ∀ {h no : Nat} {l : List (Nat × Nd × Nat)}, WayOk P k h no l → l.length = h
 | 0, _, _, h => by rw [h]; rfl
 | h + 1, _, _, ⟨n, rest, _, _, h3, h4⟩ => by rw [h3, List.length_cons, WayOk.length h4]
theorem pgNd.uniq {gen no : Nat} {leaf : Bool} {l : Sec} {n m : Nd} (h1 : pgNd gen leaf no l n) (h2 : pgNd gen leaf no l m) : n = m := by
 obtain ⟨p, a1, a2, a3, a4⟩ := h1
 obtain ⟨q, b1, b2, b3, b4⟩ := h2
 rw [a1] at b1
 cases b1
 exact DecOk.uniq a4 b4
theorem pgNd.is {gen no : Nat} {leaf : Bool} {l : Sec} {n : Nd} (h : pgNd gen leaf no l n) : n.leaf = leaf ∧ SoundN n ∧ nsize n ≤ 232 := by
 obtain ⟨p, _, _, _, a⟩ := h
 exact ⟨a.2.1, a.1, a.2.2.1⟩
theorem SoundN.rise {n : Nd} (h : SoundN n) : n.keys.Pairwise ltK := by
 rcases h with h | h
 · exact h.rise
 · exact h.rise
def WayR (T : Tr) (steps : List (Nat × Nd × Nat)) (w : World) (v : Value) (w' : World) : Prop :=
 ∃ C' : Ch, TrAt w' (T.wC C' T.P) ∧ TTo T (T.wC C' T.P) w w' (2 * T.height) ∧ (∀ j, C'.view j = T.C.view j) ∧
   ((∃ (s : Sl) (l : List Sp), v = .tuple #[.slice s.a s.len s.cap, .int .i64 0] ∧ l.map Sp.st = steps ∧ WayM (fun q => w.heap.size ≤ q ∧ ¬ (T.wC C' T.P).M q) w' s l) ∨ (v = .tuple #[.slice none 0 0, .int .i64 3] ∧ ¬ T.C.D.calm (2 * T.height)))
theorem buildStep (w : World) (cs : Array Value) (h : cs.size = 6) : Sem.run Tryz.prog (Instr.buildSlice Ty.Sl_tree_step 1 #[(0, .agg cs)]) w = .ok (.slice (some ⟨w.heap.size, 0, none⟩) 1 1) (w.alloc (.cells cs Ty.tree_step)) := by
 have h0 : ((Tryz.prog.info? Ty.tree_step).bind (·.zero)).isSome = true := by kernel_rfl
 obtain ⟨z, hz⟩ := Option.isSome_iff_exists.1 h0
 obtain ⟨i, hi, hzz⟩ := infoZ' hz
 have h1 : (Tryz.prog.underlying Ty.tree_step).isSome = true := by kernel_rfl
 obtain ⟨d, hd⟩ := Option.isSome_iff_exists.1 h1
 exact run_buildOne (sz := 6) w (by kernel_rfl) hd (by kernel_rfl) hi hzz h (by decide) (by decide)
theorem appStep : AppT Tryz.prog Ty.Sl_tree_step Ty.tree_step 6 96 := ⟨by kernel_rfl⟩
end Go.Proofs.YtplieiecebljmaaGreat
namespace Go.Proofs.YtplieiecebljmaaGreat
open Go Gx
theorem wayLeaf {h : Nat} {n : Nd} (hlf : n.leaf = decide (h = 0)) : ((((h + 1 : Nat) : Int) : Int) == 1) = n.leaf := by
 rw [hlf, Bool.eq_iff_iff, beq_iff_eq, decide_eq_true_eq]
 omega
theorem tree_way {w : World} {T : Tr} {tk : Sl} {k : Key} {steps : List (Nat × Nd × Nat)} (h : TrAt w T) (hld : T.C.D.ld ≤ 900000000) (hk : Src 1 w tk (u8s k)) (hkb : ∀ q, ownB tk q → q < w.heap.size ∧ ¬ T.M q) (hw : WayOk T.P k T.height T.root steps) :
   Ret Tryz.prog F.tree_Tree_way #[.pointer (some ⟨T.tb, 0, none⟩), .slice tk.a tk.len tk.cap] w (WayR T steps w) := by
 have hh := h.num.2.1
 refine W.tree_Tree_way_ok (some ⟨T.tb, 0, none⟩) tk w _ ?_
 (delta W.tree_Tree_way r2 Br c9 z1 nA r3 r1 c24 c2 st bd wI; dsimp only)
 refine ⟨_, rfl, _, h.cells.2.2.2.1, _, rfl, _, h.cells.2.2.2.2, fun s n8 n9 w' => ∃ (lev no : Nat) (l : List Sp) (rest : List (Nat × Nd × Nat)) (E1 : Nat → Prop) (C' : Ch), n9 = (lev : Nat) ∧ n8 = (no : Nat) ∧ WayOk T.P k lev no rest ∧ l.map Sp.st ++ rest = steps ∧ l.length + lev = T.height ∧
   E1 = (fun q => T.E q ∨ ownB s q) ∧ (∀ q, ownB s q → w.heap.size ≤ q) ∧ TrAt w' ((T.wO E1 T.G).wC C' T.P) ∧ TTo T ((T.wO E1 T.G).wC C' T.P) w w' (2 * l.length) ∧ (∀ j, C'.view j = T.C.view j) ∧ OwnS 6 Ty.tree_step w' s (fl Sp.c l) ∧
   ∀ x ∈ l, NdAt (fun q => w.heap.size ≤ q ∧ ¬ ((T.wO E1 T.G).wC C' T.P).M q) w' x.n x.K x.V x.D, fun _ _ n9 _ => n9.toNat, ?_, ?_⟩
 · have hE : T.E = fun q => T.E q ∨ ownB ⟨none, 0, 0⟩ q := by
     funext q
     refine propext ⟨.inl, fun h => h.resolve_right ?_⟩
     rintro ⟨A, hA, _⟩
     cases hA
   have hTT : (T.wO T.E T.G).wC T.C T.P = T := rfl
   refine ⟨T.height, T.root, [], steps, T.E, T.C, rfl, rfl, hw, rfl, by simp, hE, ?_, by rw [hTT]; exact h, by rw [hTT]; exact .refl _ _, fun _ => rfl, ?_, fun x hx => (by cases hx)⟩
   · rintro q ⟨A, hA, _⟩
     cases hA
   · exact ⟨rfl, Nat.le_refl _, by decide, .inl ⟨rfl, rfl⟩⟩
 have fin : ∀ {w' : World} {E1 : Nat → Prop} {C' : Ch} {s : Sl} {k : Nat}, TrAt w' ((T.wO E1 T.G).wC C' T.P) → TTo T ((T.wO E1 T.G).wC C' T.P) w w' k → E1 = (fun q => T.E q ∨ ownB s q) → (∀ q, ownB s q → w.heap.size ≤ q) → TrAt w' (T.wC C' T.P) ∧ TTo T (T.wC C' T.P) w w' k := by
   intro w' E1 C' s k h1 h2 h3 h4
   have hEE : ∀ q, T.E q → E1 q := fun q hq => by rw [h3]; exact .inl hq
   exact ⟨h1.grow (W := fun _ => False) (E := T.E) (G := T.G) (Chg.refl _ _) (fun _ h => h.elim) (fun q hq => .inl (hEE q hq)) (fun q hq => .inr (.inl hq)) fun q hq => (h.de q hq).2.2,
     h2.step (W := fun _ => False) (Chg.refl _ _) (fun _ h => h.elim) (fun q hq => .inl (hEE q hq)) fun q hq => .inl hq⟩
 rintro s _ _ w10 ⟨lev, no, l, rest, E1, C1, rfl, rfl, hwk, hst, hlen, hE1, hsb, hT, hto, hv, hown, hnd⟩
 have hs10 := hto.chg.size
 refine ⟨fun hlt => ?_, fun hge => ?_⟩
 · obtain ⟨hh', rfl⟩ : ∃ h', lev = h' + 1 := ⟨lev - 1, by have : ((lev : Nat) : Int) > 0 := of_decide_eq_true hlt; omega⟩
   obtain ⟨n, rest', hp, hlf, rfl, hwk'⟩ := hwk
   obtain ⟨hno, hpg⟩ := hT.pn no n hp
   have hld1 : C1.D.ld ≤ 999999999 := by
     have : C1.D.ld ≤ T.C.D.ld + 2 * l.length := hto.ld
     omega
   refine (tree_read hT hld1 hno _).use ?_
   rintro _ w11 ⟨C2, h2, ht2, hv2, hres⟩
   have ht12 := hto.trans ht2
   have hsz := ht2.chg.size
   rw [wayLeaf hlf] at hres
   rcases hres with ⟨n2, K, V, D, rfl, hpg2, hnd2⟩ | ⟨e, rfl, hre, hne⟩
   · obtain rfl := pgNd.uniq hpg hpg2
     obtain ⟨_, hsn, hsize⟩ := hpg.is
     have hrise := hsn.rise
     have hfew := keys_few hsn
     refine ⟨n.leaf, K, V, D, 0, rfl, nxVar (vs := [.bool false, .slice none 0 0, .slice none 0 0, .slice none 0 0]) rfl fun w18 hp18 hx18 hs18 => ?_⟩
     refine ⟨hp18.storeOk rfl ?_, rfl, nxPut hp18 (us := [.bool n.leaf, .slice K.a K.len K.cap, .slice V.a V.len V.cap, .slice D.a D.len D.cap]) rfl rfl fun w19 hp19 hc19 hs19 => ⟨fun hb => (by cases hb), fun _ => ?_⟩⟩
     · intro v hv
       simp only [List.mem_cons, List.not_mem_nil, or_false] at hv
       rcases hv with rfl | rfl | rfl | rfl <;> trivial
     have hx19 : Ext w11 w19 := Ext.of_chg hx18 hc19 (Nat.le_refl _)
     have hz19 := hx19.size
     obtain ⟨c0, c1, c2, c3⟩ := ndCells hp19
     refine ⟨_, c0, K, c1, V, c2, D, c3, #[.int .i64 (no : Nat), .bool n.leaf, .slice K.a K.len K.cap, .slice V.a V.len V.cap, .slice D.a D.len D.cap, .int .i64 0], by kernel_rfl, ?_⟩
     refine nxVar (vs := [.int .i64 0, .bool false, .slice none 0 0, .slice none 0 0, .slice none 0 0, .int .i64 0]) rfl fun w25 hp25 hx25 hs25 => ?_
     refine ⟨hp25.storeOk rfl ?_, rfl, nxPut hp25 (us := [.int .i64 (no : Nat), .bool n.leaf, .slice K.a K.len K.cap, .slice V.a V.len V.cap, .slice D.a D.len D.cap, .int .i64 0]) rfl rfl fun w26 hp26 hc26 hs26 => ?_⟩
     · intro v hv
       simp only [List.mem_cons, List.not_mem_nil, or_false] at hv
       rcases hv with rfl | rfl | rfl | rfl | rfl | rfl <;> trivial
     have hx26 : Ext w11 w26 := Ext.of_chg (hx19.trans hx25) hc26 (by omega)
     have hp26' : Var w26 w11.heap.size [.bool n.leaf, .slice K.a K.len K.cap, .slice V.a V.len V.cap, .slice D.a D.len D.cap] Ty.api_Node := (hp19.ext hx25).chg hc26 (by omega)
     obtain ⟨sb, hsb'⟩ : ∃ sb, sb = w19.heap.size := ⟨_, rfl⟩
     obtain ⟨nb, hnb⟩ : ∃ nb, nb = w11.heap.size := ⟨_, rfl⟩
     rw [← hsb'] at hp26 ⊢
     rw [← hnb] at hp26' ⊢
     have hnd26 := hnd2.ext hx26
     refine Jn1 (fun n40 w41 => n40 = (((if hh' = 0 then no else n.kids.getD (kidIx n.keys k) 0 : Nat)) : Int) ∧ Ext w11 w41 ∧ Var w41 sb (Sp.c ⟨no, n, if hh' = 0 then 0 else kidIx n.keys k, K, V, D⟩) Ty.tree_step) (fun q hq => ⟨fun hl => ?_, fun hl => ?_⟩) ?_
     · have hl0 : hh' ≠ 0 := by
         have : ((hh' + 1 : Nat) : Int) > 1 := of_decide_eq_true hl
         omega
       have hlf2 : n.leaf = false := by rw [hlf]; simp [hl0]
       have hkl := hsn.kidsAt hlf2
       have hki := kidIx_le n.keys k
       obtain ⟨c0, c1, c2, c3⟩ := ndCells hp26'
       have hk26 : Src 1 w26 tk (u8s k) := (hk.chg ht12.chg fun q hq hn => (hkb q hq).2 (Tr.NM hn)).ext hx26
       refine ⟨_, c0, K, c1, V, c2, D, c3, (node_Kid hnd26 hk26 hrise (by omega)).use ?_⟩
       rintro _ w32 ⟨rfl, hx32⟩
       have hp32 := hp26.ext hx32
       obtain ⟨g1, g2⟩ := setOk hp32 (i := 5) (by simp)
       rw [add_mk]
       refine ⟨_, rfl, g1, g2, nx ?_⟩
       have hcs := chgSet w32 sb 5 (.int .i64 ((kidIx n.keys k : Nat) : Int))
       have hv35 := varSet hp32 (i := 5) (.int .i64 ((kidIx n.keys k : Nat) : Int))
       have hx35 : Ext w11 (w32.setCell ⟨sb, 5, none⟩ (.int .i64 ((kidIx n.keys k : Nat) : Int))) := Ext.of_chg (hx26.trans hx32) hcs (by omega)
       have hn35 := (hp26'.ext hx32).chg hcs (by omega)
       obtain ⟨d0, d1, d2, d3⟩ := ndCells hn35
       obtain ⟨A, hA, hb, hcell⟩ := InR.at (hnd2.ext hx35).kids (i := kidIx n.keys k) (by omega)
       refine ⟨D, d3, _, hv35.cell, A, hA, hb, _, hcell, hq _ _ ⟨?_, hx35, ?_⟩⟩
       · rw [if_neg hl0, List.getD_eq_getElem?_getD, List.getElem?_eq_getElem (by omega)]; rfl
       · rw [if_neg hl0]
         exact hv35
     · have hl0 : hh' = 0 := by
         have : ¬ ((hh' + 1 : Nat) : Int) > 1 := of_decide_eq_false hl
         omega
       refine hq _ _ ⟨by rw [if_pos hl0], hx26, ?_⟩
       rw [if_pos hl0]
       exact hp26
     rintro _ w41 ⟨rfl, hx41, hp41⟩
     have hz41 := hx41.size
     refine ⟨_, hp41.rd rfl, ⟨some ⟨w41.heap.size, 0, none⟩, 1, 1⟩, _, buildStep _ _ rfl, ?_⟩
     have hxa := ext_alloc w41 (.cells (Sp.c ⟨no, n, if hh' = 0 then 0 else kidIx n.keys k, K, V, D⟩).toArray Ty.tree_step)
     have hx44 := hx41.trans hxa
     have hz44 := hx44.size
     have hza := hxa.size
     have hsl := hown.1
     rw [fl_length _ (spC l)] at hsl
     have hsE : ∀ q, ownB s q → E1 q := fun q hq => by rw [hE1]; exact .inr hq
     have hownT : OwnS 6 Ty.tree_step w11 s (fl Sp.c l) := hown.chg ht2.chg fun q hq hm => hT.eN (hsE q hq) hm
     obtain ⟨x, hxe⟩ : ∃ x : Sp, x = ⟨no, n, if hh' = 0 then 0 else kidIx n.keys k, K, V, D⟩ := ⟨_, rfl⟩
     rw [← hxe] at hxa hx44 hz44 hza ⊢
     have hxp : ∀ v ∈ Sp.c x, Plain v := by
       intro v hv
       unfold Sp.c at hv
       simp only [List.mem_cons, List.not_mem_nil, or_false] at hv
       rcases hv with rfl | rfl | rfl | rfl | rfl | rfl <;> trivial
     obtain ⟨s', w46, a1, a2, a3, a4, a5⟩ := appStep.append (oT := Ty.Sl_tree_step) (x := ⟨some ⟨w41.heap.size, 0, none⟩, 1, 1⟩) (Src.new (T := Ty.tree_step) w41 (Sp.c x) 1 rfl) (hownT.ext hx44) hxp (by show (2 * (s.len + 1) + 1000) * 96 ≤ _; omega)
     have hz46 := a4.size
     have hs' : ∀ q, ownB s' q → w.heap.size ≤ q := fun q hq => by
       rcases a5 q hq with h1 | h1
       · exact hsb q h1
       · omega
     obtain ⟨E2, hE2⟩ : ∃ E2, E2 = fun q => T.E q ∨ ownB s' q := ⟨_, rfl⟩
     have hE2' : ∀ q, E2 q → T.E q ∨ ownB s' q := fun q hq => by rw [hE2] at hq; exact hq
     have hEE : ∀ q, T.E q → E1 q := fun q hq => by rw [hE1]; exact .inl hq
     have hfl : fl Sp.c (l ++ [x]) = fl Sp.c l ++ Sp.c x := by rw [fl_app]; simp [fl]
     have hT46 : TrAt w46 ((T.wO E2 T.G).wC C2 T.P) := by
       refine (h2.ext hx44).grow (E := E2) (G := T.G) a4 (fun q hq _ => .inl (hsE q hq)) (fun q hq => ?_) (fun q hq => .inr (.inl hq)) fun q hq hg => ?_
       · rcases hE2' q hq with h1 | h1
         · exact .inl (hEE q h1)
         · rcases a5 q h1 with h3 | h3
           · exact .inl (hsE q h3)
           · exact .inr (.inr ⟨h3, OwnS.lt a2 q h1⟩)
       · rcases hE2' q hq with h1 | h1
         · exact (h.de q h1).2.2 hg
         · have h3 := h.lt (q := q) (.inr (.inr (.inr (.inr hg))))
           have := hs' q h1
           omega
     have hto46 : TTo T ((T.wO E2 T.G).wC C2 T.P) w w46 (2 * (l ++ [x]).length) := by
       have h1 := (ht12.trans (TTo.ext _ hx44)).mono (l := 2 * (l ++ [x]).length) (by rw [List.length_append, List.length_singleton]; omega)
       refine h1.step (E := E2) (G := T.G) a4 (fun q hq hl => by have := hsb q hq; omega) (fun q hq => ?_) fun q hq => .inl hq
       rcases hE2' q hq with h1 | h1
       · exact .inl (hEE q h1)
       · exact .inr (.inr (hs' q h1))
     have hndx : ∀ {m : Nd} {K V D : Sl}, NdAt (fun q => w.heap.size ≤ q ∧ ¬ ((T.wO E1 T.G).wC C2 T.P).M q) w11 m K V D → NdAt (fun q => w.heap.size ≤ q ∧ ¬ ((T.wO E2 T.G).wC C2 T.P).M q) w46 m K V D := fun {m K V D} hm => by
       have h1 := (hm.ext hx44).weak (C := fun q => q < (w41.alloc (.cells (Sp.c x).toArray Ty.tree_step)).heap.size ∧ w.heap.size ≤ q ∧ ¬ ((T.wO E1 T.G).wC C2 T.P).M q) fun q hq hb => ⟨hq, hb⟩
       refine (NdAt.chg h1 a4 fun q hq ho => hq.2.2 (.inr (.inr (.inr (.inl (hsE q ho)))))).weak fun q _ hb => ⟨hb.2.1, fun hm => hb.2.2 ?_⟩
       rcases hm with hm | hm | hm | hm | hm
       · exact .inl hm
       · exact .inr (.inl hm)
       · exact .inr (.inr (.inl hm))
       · refine .inr (.inr (.inr (.inl ?_)))
         show E1 q
         rcases hE2' q hm with h3 | h3
         · exact hEE q h3
         · rcases a5 q h3 with h4 | h4
           · exact hsE q h4
           · have := hb.1; omega
       · exact .inr (.inr (.inr (.inr hm)))
     have hwr : IntKind.wrap .i64 (((hh' + 1 : Nat) : Int) - 1) = (hh' : Nat) := by rw [wrapi (by omega) (by omega)]; omega
     refine ⟨s', w46, a1, ⟨hh', _, l ++ [x], rest', E2, C2, hwr, rfl, ?_, ?_, by rw [List.length_append, List.length_singleton]; omega, hE2, hs', hT46, hto46, fun j => (hv2 j).trans (hv j), by rw [hfl]; exact a2, ?_⟩, ?_⟩
     · cases hh' with
       | zero => exact hwk'
       | succ m => rw [if_neg (by omega)]; exact hwk'
     · rw [← hst, List.map_append, List.append_assoc, hxe]; rfl
     · intro y hy
       rcases List.mem_append.1 hy with hy | hy
       · exact hndx (ht2.nd (hnd y hy))
       · obtain rfl := List.mem_singleton.1 hy
         subst hxe
         exact hndx (hnd2.weak fun q _ hb => ⟨by have := hb.1; omega, hb.2⟩)
     · rw [hwr]
       show ((hh' : Nat) : Int).toNat < (((hh' + 1 : Nat) : Int)).toNat
       omega
   · refine ⟨false, nil3, nil3, nil3, e, rfl, nxVar (vs := [.bool false, .slice none 0 0, .slice none 0 0, .slice none 0 0]) rfl fun w18 hp18 hx18 hs18 => ?_⟩
     refine ⟨hp18.storeOk rfl ?_, rfl, nxPut hp18 (us := [.bool false, .slice none 0 0, .slice none 0 0, .slice none 0 0]) rfl rfl fun w19 hp19 hc19 hs19 => ⟨fun _ => ?_, fun hb => ?_⟩⟩
     · intro v hv
       simp only [List.mem_cons, List.not_mem_nil, or_false] at hv
       rcases hv with rfl | rfl | rfl | rfl <;> trivial
     · have hx : Ext w11 w19 := Ext.of_chg hx18 hc19 (Nat.le_refl _)
       have he : e = 3 ∧ ¬ C1.D.calm 2 := by
         rcases hre with h1 | h1 | ⟨_, _, h1⟩
         · exact h1
         · obtain ⟨p, g1, _⟩ := hpg
           rw [g1] at h1; cases h1
         · exact absurd hpg (h1 n)
       obtain ⟨rfl, hnc⟩ := he
       obtain ⟨h3, h4⟩ := fin (k := 2 * T.height) (h2.ext hx) ((ht12.trans (TTo.ext _ hx)).mono (by omega)) hE1 hsb
       exact ⟨C2, h3, h4, fun j => (hv2 j).trans (hv j), .inr ⟨rfl, fun hc => hnc (hto.calm 2 (calm_mono hc (by omega)))⟩⟩
     · simp at hb; exact absurd hb hne
 · have h0 : lev = 0 := by
     have : ¬ ((lev : Nat) : Int) > 0 := of_decide_eq_false hge
     omega
   subst h0
   have hr : rest = [] := hwk
   subst hr
   obtain ⟨h3, h4⟩ := fin (k := 2 * T.height) hT (hto.mono (by omega)) hE1 hsb
   refine ⟨C1, h3, h4, hv, .inl ⟨s, l, rfl, by rw [← hst, List.append_nil], hown, fun q hq => ⟨hsb q hq, fun hm => ?_⟩, fun x hx => ?_⟩⟩
   · have hq2 := hsb q hq
     have hqE : E1 q := by rw [hE1]; exact .inr hq
     rcases hm with hm | hm | hm | hm | hm
     · exact (hT.ca.inv.xl q (.inr (.inr (.inl hqE)))).2 hm
     · exact (hT.de q hqE).1 hm
     · exact (hT.de q hqE).2.1 hm
     · have := h.lt (q := q) (.inr (.inr (.inr (.inl hm)))); omega
     · exact (hT.de q hqE).2.2 hm
   · refine (hnd x hx).weak fun q _ hb => ⟨hb.1, fun hm => hb.2 ?_⟩
     rcases hm with hm | hm | hm | hm | hm
     · exact .inl hm
     · exact .inr (.inl hm)
     · exact .inr (.inr (.inl hm))
     · refine .inr (.inr (.inr (.inl ?_)))
       show E1 q
       rw [hE1]; exact .inl hm
     · exact .inr (.inr (.inr (.inr hm)))
end Go.Proofs.YtplieiecebljmaaGreat
namespace Go.Proofs.YtplieiecebljmaaGreat
open Go Gx
def Tr.wF (T : Tr) (f : Nat → Bool) : Tr := { T with f := f }
structure Cg where
 cb : Nat
 ma : Sl
 lf : Sl
 made : List Nat
 left : List Nat
structure CgAt (w : World) (T : Tr) (c : Cg) : Prop where
 t : TrAt w T
 v : Var w c.cb [.pointer (some ⟨T.tb, 0, none⟩), .slice c.ma.a c.ma.len c.ma.cap, .slice c.lf.a c.lf.len c.lf.cap] Ty.tree_change
 ma : OwnS 1 Ty.int w c.ma (intsV c.made)
 lf : OwnS 1 Ty.int w c.lf (intsV c.left)
 gc : T.G c.cb
 gm : ∀ q, ownB c.ma q → T.G q ∧ q ≠ c.cb ∧ ¬ ownB c.lf q
 gl : ∀ q, ownB c.lf q → T.G q ∧ q ≠ c.cb
theorem pushN {w : World} {s : Sl} {ds : List Nat} (d : Nat) (hown : OwnS 1 Ty.int w s (intsV ds)) (hn : ds.length ≤ 1000000) :
   ∃ (s' : Sl) (w' : World), Sem.run Tryz.prog (Builtin.append_ #[Ty.Sl_int, Ty.Sl_int] Ty.Sl_int #[.slice s.a s.len s.cap, .slice (some ⟨w.heap.size, 0, none⟩) 1 1]) (w.alloc (.cells #[.int .i64 ((d : Nat) : Int)] Ty.int)) = .ok (.slice s'.a s'.len s'.cap) w' ∧
     OwnS 1 Ty.int w' s' (intsV (ds ++ [d])) ∧ Chg (ownB s) w w' ∧ (∀ k, ownB s' k → ownB s k ∨ w.heap.size ≤ k) ∧ Chg (ownB s) (w.alloc (.cells #[.int .i64 ((d : Nat) : Int)] Ty.int)) w' := by
 have hsl : s.len = ds.length := by have := hown.1; rw [intsV_length] at this; omega
 have hc : Ext w (w.alloc (.cells #[.int .i64 ((d : Nat) : Int)] Ty.int)) := ext_alloc _ _
 have hz : (w.alloc (.cells #[.int .i64 ((d : Nat) : Int)] Ty.int)).heap.size = w.heap.size + 1 := alloc_size _ _
 obtain ⟨s', w', h1, h2, h3, h4, h5⟩ := appInt.append (oT := Ty.Sl_int) (x := ⟨some ⟨w.heap.size, 0, none⟩, 1, 1⟩) (Src.new (T := Ty.int) w [.int .i64 ((d : Nat) : Int)] 1 rfl) (hown.ext hc) (fun v hv => by rw [List.mem_singleton.1 hv]; trivial) (by show (2 * (s.len + 1) + 1000) * 8 ≤ _; omega)
 exact ⟨s', w', h1, by simpa [intsV] using h2, (Chg.of_ext hc).trans h4, fun k hk => (h5 k hk).imp id (fun h => by omega), h4⟩
section
variable {w w' : World} {T T' : Tr} {c : Cg}
theorem CgAt.of {W : Nat → Prop} (h : CgAt w T c) (hT : TrAt w' T') (hc : Chg W w w') (hW : ∀ q, T.G q → ¬ W q) (htb : T'.tb = T.tb) (hG : ∀ q, T.G q → T'.G q) : CgAt w' T' c :=
 ⟨hT, by rw [htb]; exact h.v.chg hc (hW _ h.gc), h.ma.chg hc fun q hq => hW q (h.gm q hq).1, h.lf.chg hc fun q hq => hW q (h.gl q hq).1, hG _ h.gc, fun q hq => ⟨hG q (h.gm q hq).1, (h.gm q hq).2⟩, fun q hq => ⟨hG q (h.gl q hq).1, (h.gl q hq).2⟩⟩
theorem CgAt.ext (h : CgAt w T c) (hx : Ext w w') : CgAt w' T c := h.of (h.t.ext hx) hx (fun _ _ h => h) rfl fun _ h => h
theorem CgAt.cells (h : CgAt w T c) : w.cell? ⟨c.cb, 0, none⟩ = some (.pointer (some ⟨T.tb, 0, none⟩)) ∧ w.cell? (Addr.add ⟨c.cb, 0, none⟩ 1) = some (.slice c.ma.a c.ma.len c.ma.cap) ∧ w.cell? (Addr.add ⟨c.cb, 0, none⟩ 2) = some (.slice c.lf.a c.lf.len c.lf.cap) := by
 rw [add_mk, add_mk]
 exact ⟨h.v.cell, h.v.cell, h.v.cell⟩
theorem TrAt.gC (h : TrAt w T) {q : Nat} (hq : T.G q) : ¬ fpC T.C q := fun hf => (h.ca.inv.xl q (.inr (.inr (.inr hq)))).2 hf
theorem TrAt.spc {f : Nat → Bool} (h : TrAt w T) (hs : SpaceAt w' T.sb T.n f T.g T.s1 T.s2) (hc : Chg (fpS T.sb T.s1 T.s2) w w') : TrAt w' (T.wF f) ∧ TTo T (T.wF f) w w' 0 :=
 ⟨⟨h.t.chg hc h.dt, hs, h.ca.chg hc fun q hq => .inr (.inl hq), h.dt, h.de, h.dg, h.n, h.num, h.pn⟩,
   ⟨rfl, rfl, rfl, rfl, rfl, rfl, rfl, rfl, rfl, rfl, Nat.le_refl _, fun _ h => h, hc.mono fun q _ hq => .inr (.inr (.inl hq)), fun q h => .inl h, fun q h => .inl h⟩⟩
theorem cg_made (h : CgAt w T c) (no : Nat) (hl : c.made.length ≤ 100000) :
   ∃ (s' : Sl) (w2 : World), Sem.run Tryz.prog (Builtin.append_ #[Ty.Sl_int, Ty.Sl_int] Ty.Sl_int #[.slice c.ma.a c.ma.len c.ma.cap, .slice (some ⟨w.heap.size, 0, none⟩) 1 1]) (w.alloc (.cells #[.int .i64 ((no : Nat) : Int)] Ty.int)) = .ok (.slice s'.a s'.len s'.cap) w2 ∧
     Chg (ownB c.ma) (w.alloc (.cells #[.int .i64 ((no : Nat) : Int)] Ty.int)) w2 ∧ (∃ u : Value, w2.cell? ⟨c.cb, 1, none⟩ = some u) ∧ w2.frozen? ⟨c.cb, 1, none⟩ = false ∧
     ∀ w3, w3 = w2.setCell ⟨c.cb, 1, none⟩ (.slice s'.a s'.len s'.cap) → CgAt w3 (T.wO T.E fun q => T.G q ∨ ownB s' q) { c with ma := s', made := c.made ++ [no] } ∧ TTo T (T.wO T.E fun q => T.G q ∨ ownB s' q) w w3 0 := by
 obtain ⟨s', w2, g1, g2, g4, g5, g6⟩ := pushN no h.ma (by omega)
 have hW : ∀ q, ownB c.ma q → T.G q := fun q hq => (h.gm q hq).1
 have hsz := g4.size
 have hv2 := h.v.chg g4 fun hq => (h.gm _ hq).2.1 rfl
 obtain ⟨k1, k2⟩ := setOk hv2 (i := 1) (by simp)
 refine ⟨s', w2, g1, g6, k1, k2, ?_⟩
 rintro _ rfl
 have hcs := chgSet w2 c.cb 1 (.slice s'.a s'.len s'.cap)
 have hv3 := varSet hv2 (i := 1) (.slice s'.a s'.len s'.cap)
 have hc3 : Chg T.G w (w2.setCell ⟨c.cb, 1, none⟩ (.slice s'.a s'.len s'.cap)) := chgGrow (g4.mono fun q _ hq => hW q hq) hcs fun q _ e => by rw [e]; exact h.gc
 have hsz3 := hc3.size
 have hlt : ∀ q, ownB s' q → q < w2.heap.size := fun q hq => OwnS.lt g2 q hq
 have hnew : ∀ q, ownB s' q → T.G q ∨ (w.heap.size ≤ q ∧ q < (w2.setCell ⟨c.cb, 1, none⟩ (.slice s'.a s'.len s'.cap)).heap.size) := fun q hq => by
   rcases g5 q hq with h1 | h1
   · exact .inl (hW q h1)
   · exact .inr ⟨h1, by have := hlt q hq; have := hcs.size; omega⟩
 have hcb : ∀ q, ownB s' q → q ≠ c.cb := fun q hq e => by
   rcases g5 q hq with h1 | h1
   · exact (h.gm q h1).2.1 e
   · have := h.v.lt; omega
 have hlf : ∀ q, ownB s' q → ¬ ownB c.lf q := fun q hq e => by
   rcases g5 q hq with h1 | h1
   · exact (h.gm q h1).2.2 e
   · have := OwnS.lt h.lf q e; omega
 have hT := h.t.grow (E := T.E) (G := fun q => T.G q ∨ ownB s' q) hc3 (fun q hq _ => .inr hq) (fun q hq => .inl hq) (fun q hq => by
   rcases hq with hq | hq
   · exact .inr (.inl hq)
   · exact .inr (hnew q hq)) fun q hq hg => by
   rcases hg with hg | hg
   · exact (h.t.de q hq).2.2 hg
   · rcases g5 q hg with h1 | h1
     · exact (h.t.de q hq).2.2 (hW q h1)
     · have := h.t.lt (q := q) (.inr (.inr (.inr (.inl hq)))); omega
 refine ⟨⟨hT, hv3, ?_, (h.lf.chg g4 fun q hq e => (h.gm q e).2.2 hq).chg hcs fun q hq e => (h.gl q hq).2 e, .inl h.gc, fun q hq => ⟨.inr hq, hcb q hq, hlf q hq⟩, fun q hq => ⟨.inl (h.gl q hq).1, (h.gl q hq).2⟩⟩, ?_⟩
 · have : OwnS 1 Ty.int w2 s' (intsV (c.made ++ [no])) := g2
   exact this.chg hcs fun q hq e => hcb q hq e
 · have h0 : TTo T T w w 0 := .refl _ _
   exact h0.step hc3 (fun q hq _ => .inr (.inr (.inr hq))) (fun q hq => .inl hq) fun q hq => by
     rcases hq with hq | hq
     · exact .inl hq
     · exact (hnew q hq).imp id fun e => e.1
theorem cg_left (h : CgAt w T c) (no : Nat) (hl : c.left.length ≤ 100000) :
   ∃ (s' : Sl) (w2 : World), Sem.run Tryz.prog (Builtin.append_ #[Ty.Sl_int, Ty.Sl_int] Ty.Sl_int #[.slice c.lf.a c.lf.len c.lf.cap, .slice (some ⟨w.heap.size, 0, none⟩) 1 1]) (w.alloc (.cells #[.int .i64 ((no : Nat) : Int)] Ty.int)) = .ok (.slice s'.a s'.len s'.cap) w2 ∧
     Chg (ownB c.lf) (w.alloc (.cells #[.int .i64 ((no : Nat) : Int)] Ty.int)) w2 ∧ (∃ u : Value, w2.cell? ⟨c.cb, 2, none⟩ = some u) ∧ w2.frozen? ⟨c.cb, 2, none⟩ = false ∧
     ∀ w3, w3 = w2.setCell ⟨c.cb, 2, none⟩ (.slice s'.a s'.len s'.cap) → CgAt w3 (T.wO T.E fun q => T.G q ∨ ownB s' q) { c with lf := s', left := c.left ++ [no] } ∧ TTo T (T.wO T.E fun q => T.G q ∨ ownB s' q) w w3 0 := by
 obtain ⟨s', w2, g1, g2, g4, g5, g6⟩ := pushN no h.lf (by omega)
 have hW : ∀ q, ownB c.lf q → T.G q := fun q hq => (h.gl q hq).1
 have hsz := g4.size
 have hv2 := h.v.chg g4 fun hq => (h.gl _ hq).2 rfl
 obtain ⟨k1, k2⟩ := setOk hv2 (i := 2) (by simp)
 refine ⟨s', w2, g1, g6, k1, k2, ?_⟩
 rintro _ rfl
 have hcs := chgSet w2 c.cb 2 (.slice s'.a s'.len s'.cap)
 have hv3 := varSet hv2 (i := 2) (.slice s'.a s'.len s'.cap)
 have hc3 : Chg T.G w (w2.setCell ⟨c.cb, 2, none⟩ (.slice s'.a s'.len s'.cap)) := chgGrow (g4.mono fun q _ hq => hW q hq) hcs fun q _ e => by rw [e]; exact h.gc
 have hsz3 := hc3.size
 have hlt : ∀ q, ownB s' q → q < w2.heap.size := fun q hq => OwnS.lt g2 q hq
 have hnew : ∀ q, ownB s' q → T.G q ∨ (w.heap.size ≤ q ∧ q < (w2.setCell ⟨c.cb, 2, none⟩ (.slice s'.a s'.len s'.cap)).heap.size) := fun q hq => by
   rcases g5 q hq with h1 | h1
   · exact .inl (hW q h1)
   · exact .inr ⟨h1, by have := hlt q hq; have := hcs.size; omega⟩
 have hcb : ∀ q, ownB s' q → q ≠ c.cb := fun q hq e => by
   rcases g5 q hq with h1 | h1
   · exact (h.gl q h1).2 e
   · have := h.v.lt; omega
 have hlf : ∀ q, ownB c.ma q → ¬ ownB s' q := fun q e hq => by
   rcases g5 q hq with h1 | h1
   · exact (h.gm q e).2.2 h1
   · have := OwnS.lt h.ma q e; omega
 have hT := h.t.grow (E := T.E) (G := fun q => T.G q ∨ ownB s' q) hc3 (fun q hq _ => .inr hq) (fun q hq => .inl hq) (fun q hq => by
   rcases hq with hq | hq
   · exact .inr (.inl hq)
   · exact .inr (hnew q hq)) fun q hq hg => by
   rcases hg with hg | hg
   · exact (h.t.de q hq).2.2 hg
   · rcases g5 q hg with h1 | h1
     · exact (h.t.de q hq).2.2 (hW q h1)
     · have := h.t.lt (q := q) (.inr (.inr (.inr (.inl hq)))); omega
 refine ⟨⟨hT, hv3, (h.ma.chg g4 fun q hq e => (h.gm q hq).2.2 e).chg hcs fun q hq e => (h.gm q hq).2.1 e, ?_, .inl h.gc, fun q hq => ⟨.inl (h.gm q hq).1, (h.gm q hq).2.1, hlf q hq⟩, fun q hq => ⟨.inr hq, hcb q hq⟩⟩, ?_⟩
 · have : OwnS 1 Ty.int w2 s' (intsV (c.left ++ [no])) := g2
   exact this.chg hcs fun q hq e => hcb q hq e
 · have h0 : TTo T T w w 0 := .refl _ _
   exact h0.step hc3 (fun q hq _ => .inr (.inr (.inr hq))) (fun q hq => .inl hq) fun q hq => by
     rcases hq with hq | hq
     · exact .inl hq
     · exact (hnew q hq).imp id fun e => e.1
end
end Go.Proofs.YtplieiecebljmaaGreat
namespace Go.Proofs.YtplieiecebljmaaGreat
open Go Gx
def roomT (T : Tr) : Nat := T.n - ones (fun i => T.f i || T.g i) T.n
theorem ones_congr {s t : Nat → Bool} : ∀ {n : Nat}, (∀ i, i < n → s i = t i) → ones s n = ones t n
 | 0, _ => rfl
 | n + 1, h => by
   unfold ones
   rw [ones_congr (n := n) fun i hi => h i (by omega), h n (by omega)]
theorem ones_put {s t : Nat → Bool} {k : Nat} (hk : s k = false) (ht : t k = true) (he : ∀ i, i ≠ k → t i = s i) : ∀ {n : Nat}, k < n → ones t n = ones s n + 1
 | 0, h => by omega
 | n + 1, h => by
   unfold ones
   by_cases e : k = n
   · subst e
     rw [ones_congr (s := t) (t := s) (n := k) fun i hi => he i (by omega), hk, ht]
     simp
   · rw [ones_put hk ht he (n := n) (by omega), he n (by omega)]
     omega
theorem ones_full {t : Nat → Bool} : ∀ {n : Nat}, (∀ i, i < n → t i = true) → ones t n = n
 | 0, _ => rfl
 | n + 1, h => by
   unfold ones
   rw [ones_full (n := n) fun i hi => h i (by omega), h n (by omega)]
   simp
theorem room_some {T : Tr} (h : 1 ≤ roomT T) : ∃ no, firstFree (fun i => T.f i || T.g i) T.n = some no := by
 cases hf : firstFree (fun i => T.f i || T.g i) T.n with
 | some no => exact ⟨no, rfl⟩
 | none =>
   have := ones_full (firstFree_none_spec hf)
   unfold roomT at h
   rw [this] at h
   omega
structure CTU (T T' : Tr) (c c' : Cg) (m l : List Nat) (w w' : World) (k : Nat) : Prop where
 to : TTo T T' w w' k
 E : T'.E = T.E
 G : ∀ q, T.G q → T'.G q
 root : T'.root = T.root
 height : T'.height = T.height
 cb : c'.cb = c.cb
 made : c'.made = c.made ++ m
 left : c'.left = c.left ++ l
 nd : m.Nodup
 mf : ∀ no ∈ m, (T.f no || T.g no) = false ∧ no < T.n
 f : ∀ no, T'.f no = (T.f no || decide (no ∈ m))
 keep : ∀ no, (T.f no || T.g no) = true → T'.P no = T.P no ∧ T'.C.view no = T.C.view no
 room : roomT T' + m.length = roomT T
theorem CTU.ext {w w' : World} (T : Tr) (c : Cg) (h : Ext w w') : CTU T T c c [] [] w w' 0 :=
 ⟨.ext T h, rfl, fun _ h => h, rfl, rfl, rfl, by simp, by simp, List.nodup_nil, fun _ h => (by cases h), fun no => by simp, fun _ _ => ⟨rfl, rfl⟩, by simp⟩
theorem CTU.trans {T T' T'' : Tr} {c c' c'' : Cg} {m m' l l' : List Nat} {w w' w'' : World} {k k' : Nat} (h1 : CTU T T' c c' m l w w' k) (h2 : CTU T' T'' c' c'' m' l' w' w'' k') : CTU T T'' c c'' (m ++ m') (l ++ l') w w'' (k + k') := by
 have hg : T'.g = T.g := h1.to.g
 have hn : T'.n = T.n := h1.to.n
 have hf : ∀ no, (T.f no || T.g no) = true → (T'.f no || T'.g no) = true := fun no h => by
   rw [h1.f, hg]
   cases h3 : T.f no <;> cases h4 : T.g no <;> simp [h3, h4] at h ⊢
 refine ⟨h1.to.trans h2.to, h2.E.trans h1.E, fun q h => h2.G q (h1.G q h), h2.root.trans h1.root, h2.height.trans h1.height, h2.cb.trans h1.cb, by rw [h2.made, h1.made, List.append_assoc], by rw [h2.left, h1.left, List.append_assoc], ?_, fun no h => ?_, fun no => ?_, fun no h => ?_, ?_⟩
 · rw [List.nodup_append]
   refine ⟨h1.nd, h2.nd, fun a ha b hb e => ?_⟩
   subst e
   have := (h2.mf a hb).1
   rw [h1.f] at this
   simp [ha] at this
 · rcases List.mem_append.1 h with h | h
   · exact h1.mf no h
   · have h3 := h2.mf no h
     rw [h1.f, hg, hn] at h3
     refine ⟨?_, h3.2⟩
     cases h5 : T.f no <;> cases h6 : T.g no <;> simp [h5, h6] at h3 ⊢
 · rw [h2.f, h1.f]
   simp only [List.mem_append, Bool.decide_or, Bool.or_assoc]
 · have h3 := h2.keep no (hf no h)
   have h4 := h1.keep no h
   exact ⟨h3.1.trans h4.1, h3.2.trans h4.2⟩
 · have := h1.room
   have := h2.room
   rw [List.length_append]; omega
theorem CTU.mono {T T' : Tr} {c c' : Cg} {m l : List Nat} {w w' : World} {k j : Nat} (h : CTU T T' c c' m l w w' k) (hk : k ≤ j) : CTU T T' c c' m l w w' j := ⟨h.to.mono hk, h.E, h.G, h.root, h.height, h.cb, h.made, h.left, h.nd, h.mf, h.f, h.keep, h.room⟩
end Go.Proofs.YtplieiecebljmaaGreat
namespace Go.Proofs.YtplieiecebljmaaGreat
open Go Gx
def PutR (T : Tr) (c : Cg) (n : Nd) (w : World) (v : Value) (w' : World) : Prop :=
 ∃ (no : Nat) (T' : Tr) (c' : Cg), CgAt w' T' c' ∧ CTU T T' c c' [no] [] w w' 1 ∧
   ((v = .tuple #[.int .i64 (no : Nat), .int .i64 0] ∧ T'.P no = some n) ∨ (v = .tuple #[.int .i64 (no : Nat), .int .i64 3] ∧ ¬ T.C.D.calm 1))
theorem SoundN.few {n : Nd} (h : SoundN n) (h2 : nsize n ≤ 400) : n.keys.length ≤ 200 ∧ n.vals.length ≤ 200 ∧ n.kids.length ≤ 201 := by
 have := keys_few h
 rcases h with h | h
 · have := h.len
   have h4 : n.kids.length = 0 := by rw [h.kids]; rfl
   omega
 · have := h.len
   have h4 : n.vals.length = 0 := by rw [h.vals]; rfl
   omega
theorem change_put {B : Nat → Prop} {w : World} {T : Tr} {c : Cg} {n : Nd} {K V D : Sl} (h : CgAt w T c) (hld : T.C.D.ld ≤ 900000100) (hroom : 1 ≤ roomT T) (hml : c.made.length ≤ 1000) (hn : NdAt B w n K V D) (hs : SoundN n) (h2 : nsize n ≤ 232) :
   Ret Tryz.prog F.tree_change_put #[.pointer (some ⟨c.cb, 0, none⟩), ndV n K V D] w (PutR T c n w) := by
 obtain ⟨no, hff⟩ := room_some hroom
 obtain ⟨hno, hfree, _⟩ := firstFree_spec hff
 have hn2 := h.t.s.n2
 have hfew := hs.few (by omega)
 refine W.tree_change_put_ok (some ⟨c.cb, 0, none⟩) n.leaf K V D w _ ?_
 (delta W.tree_change_put r3 nA r1 c4 Br c21 st r5 c2; dsimp only)
 refine nxVar (vs := [.bool n.leaf, .slice K.a K.len K.cap, .slice V.a V.len V.cap, .slice D.a D.len D.cap]) rfl fun w1 hp1 hx1 hs1 => ?_
 obtain ⟨c0, c1, c2, c3⟩ := ndCells hp1
 refine ⟨_, c0, K, c1, V, c2, D, c3, (node_Encode (hn.ext hx1) (by omega) (by omega) (by omega)).use ?_⟩
 rintro _ w6 ⟨henc, hx6⟩
 rcases henc with ⟨s, rfl, hos, hfrs, _, _⟩ | ⟨e, rfl, he, hbad⟩
 rotate_left
 · have := hbad hs; omega
 have hX6 := hx1.trans hx6
 have h6 := h.ext hX6
 refine ⟨s, 0, rfl, fun hb => (by cases hb), fun _ => ⟨_, rfl, _, h6.cells.1, _, rfl, _, h6.t.cells.2.1, (space_Alloc h6.t.s).use ?_⟩⟩
 rintro _ w14 ⟨rfl, hsp, hc14⟩
 rw [hff] at hsp ⊢
 obtain ⟨ht14, hto14⟩ := h6.t.spc hsp hc14
 have h14 : CgAt w14 (T.wF (upd T.f no true)) c := h6.of ht14 hc14 (fun q hq hf => (h.t.dg q hq).2 hf) rfl fun _ h => h
 refine ⟨(no : Nat), 0, rfl, fun hb => (by cases hb), fun _ => ⟨_, rfl, _, h14.cells.2.1, ?_⟩⟩
 obtain ⟨s', w22, g1, g2, g3, g4, g5⟩ := cg_made h14 no (by omega)
 refine nx ⟨s', w22, g1, _, rfl, by rw [add_mk]; exact g3, by rw [add_mk]; exact g4, nx ?_⟩
 rw [add_mk]
 obtain ⟨w24, hw24⟩ : ∃ w24, w24 = w22.setCell ⟨c.cb, 0 + 1, none⟩ (.slice s'.a s'.len s'.cap) := ⟨_, rfl⟩
 rw [← hw24]
 obtain ⟨h24, hto24⟩ := g5 w24 hw24
 obtain ⟨G', hG'⟩ : ∃ G', G' = fun q => T.G q ∨ ownB s' q := ⟨_, rfl⟩
 have hN : ∀ q, T.N q → q < w.heap.size := fun q hq => h.t.lt (Tr.NM hq)
 have hs6 := hX6.size
 have hs14 := hto14.chg.size
 have hs24 := hto24.chg.size
 have hc624 : Chg T.N w6 w24 := hto14.chg.trans hto24.chg
 have hp24 : Var w24 w.heap.size [.bool n.leaf, .slice K.a K.len K.cap, .slice V.a V.len V.cap, .slice D.a D.len D.cap] Ty.api_Node := (hp1.ext hx6).chg hc624 fun hq => by have := hN _ hq; omega
 have hos24 : OwnS 1 Ty.uint8 w24 s (u8s (encN n)) := hos.chg hc624 fun q hq hq2 => by have := hN _ hq2; have := hfrs q hq; omega
 have hlen := encN_length hs
 have hpg : PgOk ⟨if n.leaf then 1 else 2, T.gen, encN n⟩ := by
   refine ⟨?_, ?_, h.t.num.2.2, by show (encN n).length ≤ 232; omega⟩
   · show 1 ≤ (if n.leaf then 1 else 2); split <;> omega
   · show (if n.leaf then 1 else 2) ≤ 4; split <;> omega
 refine Jn1 (fun n27 w28 => n27 = ((if n.leaf then 1 else 2 : Nat) : Int) ∧ w28 = w24) (fun q hq => ⟨n.leaf, hp24.cell, fun hb => hq _ _ ⟨by rw [hb]; rfl, rfl⟩, fun hb => hq _ _ ⟨by rw [hb]; rfl, rfl⟩⟩) ?_
 rintro _ _ ⟨rfl, rfl⟩
 refine ⟨_, rfl, _, h24.cells.1, _, rfl, _, h24.t.cells.2.2.1, (page_Encode_in (no := no) (p := ⟨if n.leaf then 1 else 2, T.gen, encN n⟩) hos24.src (by omega) hpg).use ?_⟩
 rintro _ w33 ⟨s2, rfl, hos2, hx33, hfrs2⟩
 have h33 := h24.ext hx33
 refine ⟨s2, 0, rfl, fun hb => (by cases hb), fun _ => ⟨_, rfl, _, h33.cells.1, _, rfl, _, h33.t.cells.1, (cache_Put h33.t.ca (by show T.C.D.ld ≤ 999999999; omega) (no := no) (by rw [h33.t.n]; exact hno) hos2.src (pageB_length no hpg) fun q hq => ⟨OwnS.lt hos2 q hq, fun hf => ?_⟩).use ?_⟩⟩
 · have := hfrs2 q hq
   have := h24.t.lt (q := q) (.inl hf)
   omega
 rintro _ w41 ⟨C', hca, hto, hres⟩
 have hupd : ∀ j, upd T.f no true j = (T.f j || decide (j ∈ [no])) := fun j => by
   unfold upd
   by_cases e : j = no
   · subst e; simp
   · simp [e]
 have hfg : (T.f no || T.g no) = false := hfree
 have hroom' : T.n - ones (fun i => upd T.f no true i || T.g i) T.n + 1 = roomT T := by
   have := ones_put (s := fun i => T.f i || T.g i) (t := fun i => upd T.f no true i || T.g i) (k := no) hfree (by simp [upd]) (fun i hi => by simp [upd, hi]) hno
   unfold roomT at hroom ⊢
   have h3 := ones_le (fun i => T.f i || T.g i) T.n
   omega
 have main : ∀ (P' : Nat → Option Nd) (v : Value), (∀ j, j ≠ no → P' j = T.P j) → (∀ j, j ≠ no → C'.view j = T.C.view j) → (∀ j nd, P' j = some nd → j < T.n ∧ pgNd T.gen nd.leaf j (C'.view j) nd) →
     ((v = .tuple #[.int .i64 (no : Nat), .int .i64 0] ∧ P' no = some n) ∨ (v = .tuple #[.int .i64 (no : Nat), .int .i64 3] ∧ ¬ T.C.D.calm 1)) → PutR T c n w v w41 := by
   intro P' v hP hV hpn hv
   obtain ⟨ht41, hto41⟩ := h33.t.cto (P := P') hca hto hpn
   have h41 := h33.of (T' := ((T.wF (upd T.f no true)).wO T.E fun q => T.G q ∨ ownB s' q).wC C' P') ht41 hto.chg (fun q hq => h33.t.gC hq) rfl fun _ h => h
   refine ⟨no, _, _, h41, ⟨?_, rfl, fun q hq => .inl hq, rfl, rfl, rfl, rfl, (List.append_nil _).symm, by simp, fun x hx => ?_, hupd, fun j hj => ?_, hroom'⟩, hv⟩
   · have := (((TTo.ext T hX6).trans hto14).trans hto24).trans ((TTo.ext _ hx33).trans hto41)
     exact this.mono (by omega)
   · obtain rfl := List.mem_singleton.1 hx
     exact ⟨hfg, hno⟩
   · have : j ≠ no := fun e => by rw [e, hfg] at hj; cases hj
     exact ⟨hP j this, hV j this⟩
 rcases hres with ⟨rfl, hv⟩ | ⟨rfl, hnc, hv⟩
 · refine ⟨0, rfl, main (fun j => if j = no then some n else T.P j) _ (fun j hj => if_neg hj) (fun j hj => (hv j).trans (if_neg hj)) (fun j nd hj => ?_) (.inl ⟨rfl, if_pos rfl⟩)⟩
   by_cases e : j = no
   · subst e
     rw [if_pos rfl] at hj
     cases hj
     rw [hv, if_pos rfl]
     exact ⟨hno, _, pgDec_pageB (by omega) hpg, Nat.le_refl _, rfl, hs, rfl, h2, rfl⟩
   · rw [if_neg e] at hj
     rw [hv, if_neg e]
     exact h.t.pn j nd hj
 · refine ⟨3, rfl, main T.P _ (fun _ _ => rfl) (fun j _ => hv j) (fun j nd hj => ?_) (.inr ⟨rfl, hnc⟩)⟩
   rw [hv]
   exact h.t.pn j nd hj
end Go.Proofs.YtplieiecebljmaaGreat
namespace Go.Proofs.YtplieiecebljmaaGreat
open Go Gx
theorem buildP1 (w : World) (x : Int) : Sem.run Tryz.prog (Instr.buildSlice Ty.Sl_tree_piece 1 #[(0, .agg #[.slice none 0 0, .int .i64 x])]) w =
   .ok (.slice (some ⟨w.heap.size, 0, none⟩) 1 1) (w.alloc (.cells #[.slice none 0 0, .int .i64 x] Ty.tree_piece)) := by kernel_rfl
theorem buildP2 (w : World) (x y : Int) (t : Sl) : Sem.run Tryz.prog (Instr.buildSlice Ty.Sl_tree_piece 2 #[(0, .agg #[.slice none 0 0, .int .i64 x]), (1, .agg #[.slice t.a t.len t.cap, .int .i64 y])]) w =
   .ok (.slice (some ⟨w.heap.size, 0, none⟩) 2 2) (w.alloc (.cells #[.slice none 0 0, .int .i64 x, .slice t.a t.len t.cap, .int .i64 y] Ty.tree_piece)) := by kernel_rfl
theorem SoundN.halves {n : Nd} (h : SoundN n) (h1 : 1 ≤ cutIx n) (h2 : if n.leaf then cutIx n ≤ n.keys.length - 1 ∧ 1 ≤ n.keys.length - 1 else cutIx n ≤ n.keys.length - 2 ∧ 1 ≤ n.keys.length - 2) : SoundN (n.left (cutIx n)) ∧ SoundN (n.right (cutIx n)) := by
 rcases h with h | h
 · have hl := h.leaf
   rw [if_pos hl] at h2
   unfold Nd.left Nd.right
   rw [if_pos hl, if_pos hl]
   have hlen := h.len
   refine ⟨.inl ⟨⟨fun k hk => h.ok k (List.mem_of_mem_take hk), h.rise.sublist (List.take_sublist _ _)⟩, rfl, ?_, rfl, fun v hv => h.vals v (List.mem_of_mem_take hv)⟩, .inl ⟨⟨fun k hk => h.ok k (List.mem_of_mem_drop hk), h.rise.sublist (List.drop_sublist _ _)⟩, rfl, ?_, rfl, fun v hv => h.vals v (List.mem_of_mem_drop hv)⟩⟩
   · simp only [List.length_take]; omega
   · simp only [List.length_drop]; omega
 · have hl := h.inner
   rw [if_neg (by rw [hl]; simp)] at h2
   unfold Nd.left Nd.right
   rw [if_neg (by rw [hl]; simp), if_neg (by rw [hl]; simp)]
   have hlen := h.len
   refine ⟨.inr ⟨⟨fun k hk => h.ok k (List.mem_of_mem_take hk), h.rise.sublist (List.take_sublist _ _)⟩, rfl, ?_, ?_, rfl, fun v hv => h.kids v (List.mem_of_mem_take hv)⟩, .inr ⟨⟨fun k hk => h.ok k (List.mem_of_mem_drop hk), h.rise.sublist (List.drop_sublist _ _)⟩, rfl, ?_, ?_, rfl, fun v hv => h.kids v (List.mem_of_mem_drop hv)⟩⟩
   · intro e
     have := congrArg List.length e
     simp only [List.length_take, List.length_nil] at this; omega
   · simp only [List.length_take]; omega
   · intro e
     have := congrArg List.length e
     simp only [List.length_drop, List.length_nil] at this; omega
   · simp only [List.length_drop]; omega
def PcAt (B : Nat → Prop) (w : World) (s : Sl) (ks : List Key) (kids : List Nat) : Prop :=
 (∃ b x, s = ⟨some ⟨b, 0, none⟩, 1, 1⟩ ∧ ks = [] ∧ kids = [x] ∧ Var w b [.slice none 0 0, .int .i64 (x : Nat)] Ty.tree_piece ∧ B b) ∨
 (∃ b x y k t, s = ⟨some ⟨b, 0, none⟩, 2, 2⟩ ∧ ks = [k] ∧ kids = [x, y] ∧ Var w b [.slice none 0 0, .int .i64 (x : Nat), .slice t.a t.len t.cap, .int .i64 (y : Nat)] Ty.tree_piece ∧ B b ∧ Tx B w t k ∧ k ≠ [])
def FitsR (T : Tr) (c : Cg) (n : Nd) (w : World) (v : Value) (w' : World) : Prop :=
 ∃ (T' : Tr) (c' : Cg) (m : List Nat) (s : Sl), CgAt w' T' c' ∧ CTU T T' c c' m [] w w' 2 ∧ m.length ≤ 2 ∧
   ((∃ ks, v = .tuple #[.slice s.a s.len s.cap, .int .i64 0] ∧ FitsOk T'.P n ks m ∧ PcAt (fun q => ¬ T'.M q) w' s ks m) ∨ (v = .tuple #[.slice s.a s.len s.cap, .int .i64 3] ∧ ¬ T.C.D.calm 2))
theorem change_one {B : Nat → Prop} {w : World} {T : Tr} {c : Cg} {n : Nd} {K V D : Sl} (h : CgAt w T c) (hld : T.C.D.ld ≤ 900000100) (hroom : 1 ≤ roomT T) (hml : c.made.length ≤ 1000) (hn : NdAt B w n K V D) (hs : SoundN n) (h2 : nsize n ≤ 232) :
   Ret Tryz.prog F.tree_change_one #[.pointer (some ⟨c.cb, 0, none⟩), ndV n K V D] w (FitsR T c n w) := by
 refine W.tree_change_one_ok (some ⟨c.cb, 0, none⟩) n.leaf K V D w _ ?_
 (delta W.tree_change_one r3 nA r1 c21; dsimp only)
 refine nxVar (vs := [.bool n.leaf, .slice K.a K.len K.cap, .slice V.a V.len V.cap, .slice D.a D.len D.cap]) rfl fun w1 hp1 hx1 hs1 => ?_
 obtain ⟨c0, c1, c2, c3⟩ := ndCells hp1
 refine ⟨_, c0, K, c1, V, c2, D, c3, (change_put (h.ext hx1) hld hroom hml (hn.ext hx1) hs h2).use ?_⟩
 rintro _ w6 ⟨no, T', c', hc', hto, hres⟩
 have hfin : ∀ (e : Int), ((e = 0 ∧ T'.P no = some n) ∨ (e = 3 ∧ ¬ T.C.D.calm 1)) → ∃ (s10 : Sl) (w11 : World), Sem.run Tryz.prog (Instr.buildSlice Ty.Sl_tree_piece 1 #[(0, .agg #[.slice none 0 0, .int .i64 (no : Nat)])]) w6 = .ok (.slice s10.a s10.len s10.cap) w11 ∧ FitsR T c n w (.tuple #[.slice s10.a s10.len s10.cap, .int .i64 e]) w11 := by
   intro e he
   refine ⟨⟨some ⟨w6.heap.size, 0, none⟩, 1, 1⟩, _, buildP1 w6 _, ?_⟩
   have hxa := ext_alloc w6 (.cells #[.slice none 0 0, .int .i64 (no : Nat)] Ty.tree_piece)
   have hcu : CTU T T' c c' [no] [] w (w6.alloc (.cells #[.slice none 0 0, .int .i64 (no : Nat)] Ty.tree_piece)) 2 := (((CTU.ext T c hx1).trans hto).trans (CTU.ext T' c' hxa)).mono (by omega)
   refine ⟨T', c', [no], ⟨some ⟨w6.heap.size, 0, none⟩, 1, 1⟩, hc'.ext hxa, hcu, by simp, ?_⟩
   rcases he with ⟨rfl, he⟩ | ⟨rfl, he⟩
   · refine .inl ⟨[], rfl, .inl ⟨h2, no, rfl, rfl, he⟩, .inl ⟨_, no, rfl, rfl, rfl, Var.new w6 [.slice none 0 0, .int .i64 (no : Nat)] Ty.tree_piece, fun hm => ?_⟩⟩
     have := hc'.t.lt hm
     omega
   · exact .inr ⟨rfl, fun hc => he (calm_mono hc (by omega))⟩
 rcases hres with ⟨rfl, hP⟩ | ⟨rfl, hnc⟩
 · exact ⟨_, 0, rfl, hfin 0 (.inl ⟨rfl, hP⟩)⟩
 · exact ⟨_, 3, rfl, hfin 3 (.inr ⟨rfl, hnc⟩)⟩
theorem plain4 {b : Bool} {K V D : Sl} : ∀ v ∈ [.bool b, .slice K.a K.len K.cap, .slice V.a V.len V.cap, .slice D.a D.len D.cap], Plain v := by
 intro v hv
 simp only [List.mem_cons, List.not_mem_nil, or_false] at hv
 rcases hv with rfl | rfl | rfl | rfl <;> trivial
theorem change_two {B : Nat → Prop} {w : World} {T : Tr} {c : Cg} {n : Nd} {K V D : Sl} (h : CgAt w T c) (hld : T.C.D.ld ≤ 900000090) (hroom : 2 ≤ roomT T) (hml : c.made.length ≤ 900) (hn : NdAt B w n K V D) (hs : SoundN n) (h2 : 232 < nsize n) (h3 : nsize n ≤ 400) (h1 : 1 ≤ cutIx n)
   (h4 : if n.leaf then cutIx n ≤ n.keys.length - 1 ∧ 1 ≤ n.keys.length - 1 else cutIx n ≤ n.keys.length - 2 ∧ 1 ≤ n.keys.length - 2) (h5 : nsize (n.left (cutIx n)) ≤ 232) (h6 : nsize (n.right (cutIx n)) ≤ 232) :
   Ret Tryz.prog F.tree_change_two #[.pointer (some ⟨c.cb, 0, none⟩), ndV n K V D] w (FitsR T c n w) := by
 obtain ⟨sl, sr⟩ := hs.halves h1 h4
 have hfew := hs.few (by omega)
 have hb : cutIx n < n.keys.length := by
   split at h4 <;> omega
 refine W.tree_change_two_ok (some ⟨c.cb, 0, none⟩) n.leaf K V D w _ ?_
 (delta W.tree_change_two r3 nA r1 c22 z1 Br c21; dsimp only)
 refine nxVar (vs := [.bool n.leaf, .slice K.a K.len K.cap, .slice V.a V.len V.cap, .slice D.a D.len D.cap]) rfl fun w1 hp1 hx1 hs1 => ?_
 obtain ⟨c0, c1, c2, c3⟩ := ndCells hp1
 refine ⟨_, c0, K, c1, V, c2, D, c3, (node_Split (hn.ext hx1) hs (by omega) h1 h4).use ?_⟩
 rintro _ w6 ⟨K1, V1, D1, K2, V2, D2, t, rfl, hl, hr, ht, hx6⟩
 refine ⟨_, K1, V1, D1, t, _, K2, V2, D2, true, rfl, nxVar (vs := [.bool false, .slice none 0 0, .slice none 0 0, .slice none 0 0]) rfl fun w18 hp18 hx18 hs18 => nxVar (vs := [.bool false, .slice none 0 0, .slice none 0 0, .slice none 0 0]) rfl fun w19 hp19 hx19 hs19 => ?_⟩
 have hpa := hp18.ext hx19
 refine ⟨hpa.storeOk rfl plain4, rfl, nxPut hpa (us := [.bool (n.left (cutIx n)).leaf, .slice K1.a K1.len K1.cap, .slice V1.a V1.len V1.cap, .slice D1.a D1.len D1.cap]) rfl rfl fun w20 hp20 hc20 hs20 => ?_⟩
 have hpb := hp19.chg hc20 (by omega)
 refine ⟨hpb.storeOk rfl plain4, rfl, nxPut hpb (us := [.bool (n.right (cutIx n)).leaf, .slice K2.a K2.len K2.cap, .slice V2.a V2.len V2.cap, .slice D2.a D2.len D2.cap]) rfl rfl fun w21 hp21 hc21 hs21 => ⟨fun hb => (by cases hb), fun _ => ?_⟩⟩
 have hpa21 := hp20.chg hc21 (by omega)
 have hX6 := hx1.trans hx6
 have hx621 : Ext w6 w21 := Ext.of_chg (Ext.of_chg (hx18.trans hx19) hc20 (by omega)) hc21 (by omega)
 have hX21 := hX6.trans hx621
 have hz6 := hX6.size
 have hz621 := hx621.size
 obtain ⟨d0, d1, d2, d3⟩ := ndCells hpa21
 refine ⟨_, d0, K1, d1, V1, d2, D1, d3, (change_put (h.ext hX21) (by omega) (by omega) (by omega) (hl.ext hx621) sl h5).use ?_⟩
 rintro _ w26 ⟨x, T1, c1', hc1, hto1, hres1⟩
 have hN : ∀ q, T.N q → q < w.heap.size := fun q hq => h.t.lt (Tr.NM hq)
 have hz26 := hto1.to.chg.size
 rcases hres1 with ⟨rfl, hP1⟩ | ⟨rfl, hnc⟩
 · have hpb26 := hp21.chg hto1.to.chg fun hq => by have := hN _ hq; omega
   obtain ⟨d0, d1, d2, d3⟩ := ndCells hpb26
   have hr26 : NdAt (fun q => w1.heap.size ≤ q) w26 (n.right (cutIx n)) K2 V2 D2 := (hr.ext hx621).chg hto1.to.chg fun q hq hq2 => by have := hN _ hq2; omega
   have hld1 : T1.C.D.ld ≤ 900000100 := Nat.le_trans hto1.to.ld (by clear hc1 hto1 hP1; omega)
   have hrm1 := hto1.room
   have hmd1 : c1'.made.length = c.made.length + 1 := by rw [hto1.made, List.length_append]; rfl
   simp only [List.length_singleton] at hrm1
   have hput := change_put hc1 hld1 (by omega) (by omega) hr26 sr h6
   rw [hto1.cb] at hput
   refine ⟨x, 0, rfl, fun hb => (by cases hb), fun _ => ⟨_, d0, K2, d1, V2, d2, D2, d3, hput.use ?_⟩⟩
   rintro _ w34 ⟨y, T2, c2', hc2, hto2, hres2⟩
   have hz34 := hto2.to.chg.size
   have hto := ((CTU.ext T c hX21).trans hto1).trans hto2
   have hkey : n.keys.getD (cutIx n) [] = n.keys[cutIx n] := by rw [List.getD_eq_getElem?_getD, List.getElem?_eq_getElem hb]; rfl
   have ht21 := ht.ext hx621
   have ht34 : Tx (fun q => ¬ T2.M q) w34 t n.keys[cutIx n] := by
     rw [← hkey]
     have h7 : Tx (fun q => q < w21.heap.size ∧ w1.heap.size ≤ q) w21 t (n.keys.getD (cutIx n) []) := Tx.weak ht21 fun q hq hb => ⟨hq, hb⟩
     have hto' := (hto1.trans hto2).to
     refine Tx.weak (Tx.chg h7 hto'.chg fun q hq hq2 => by have := hN _ hq2; omega) fun q _ hb hm => ?_
     rcases hto'.fp q hm with h8 | h8
     · have := h.t.lt h8; omega
     · omega
   have hko : n.keys[cutIx n] ≠ [] := by
     have hk : keyOk n.keys[cutIx n] := by
       rcases hs with hs | hs
       · exact hs.ok _ (List.getElem_mem hb)
       · exact hs.ok _ (List.getElem_mem hb)
     intro e
     have := hk.1
     rw [e] at this; simp at this
   have hxa := ext_alloc w34 (.cells #[.slice none 0 0, .int .i64 (x : Nat), .slice t.a t.len t.cap, .int .i64 (y : Nat)] Ty.tree_piece)
   have hcu := (hto.trans (CTU.ext T2 c2' hxa)).mono (j := 2) (by omega)
   have hfin : ∀ (e : Int), ((e = 0 ∧ T2.P y = some (n.right (cutIx n))) ∨ (e = 3 ∧ ¬ T1.C.D.calm 1)) → ∃ (s38 : Sl) (w39 : World), Sem.run Tryz.prog (Instr.buildSlice Ty.Sl_tree_piece 2 #[(0, .agg #[.slice none 0 0, .int .i64 (x : Nat)]), (1, .agg #[.slice t.a t.len t.cap, .int .i64 (y : Nat)])]) w34 = .ok (.slice s38.a s38.len s38.cap) w39 ∧
       FitsR T c n w (.tuple #[.slice s38.a s38.len s38.cap, .int .i64 e]) w39 := by
     intro e he
     refine ⟨⟨some ⟨w34.heap.size, 0, none⟩, 2, 2⟩, _, buildP2 w34 _ _ t, T2, c2', [x, y], ⟨some ⟨w34.heap.size, 0, none⟩, 2, 2⟩, hc2.ext hxa, hcu, by simp, ?_⟩
     rcases he with ⟨rfl, he⟩ | ⟨rfl, he⟩
     · have hx2 : T2.P x = some (n.left (cutIx n)) := by
         rw [(hto2.keep x (by rw [hto1.f]; simp)).1, hP1]
       refine .inl ⟨[n.keys[cutIx n]], rfl, .inr ⟨h2, x, y, hb, rfl, rfl, hx2, he⟩, .inr ⟨_, x, y, _, t, rfl, rfl, rfl, Var.new w34 [.slice none 0 0, .int .i64 (x : Nat), .slice t.a t.len t.cap, .int .i64 (y : Nat)] Ty.tree_piece, fun hm => ?_, Tx.ext ht34 hxa, hko⟩⟩
       have := hc2.t.lt hm
       omega
     · exact .inr ⟨rfl, fun hc => he (hto1.to.calm 1 (calm_mono hc (by omega)))⟩
   rcases hres2 with ⟨rfl, hP⟩ | ⟨rfl, hnc⟩
   · exact ⟨_, 0, rfl, hfin 0 (.inl ⟨rfl, hP⟩)⟩
   · exact ⟨_, 3, rfl, hfin 3 (.inr ⟨rfl, hnc⟩)⟩
 · have hcu := ((CTU.ext T c hX21).trans hto1).mono (j := 2) (by omega)
   exact ⟨_, 3, rfl, fun _ => ⟨T1, c1', [x], nil3, hc1, hcu, by simp, .inr ⟨rfl, fun hc => hnc (calm_mono hc (by omega))⟩⟩, fun hb => (by cases hb)⟩
theorem change_fits {B : Nat → Prop} {w : World} {T : Tr} {c : Cg} {n : Nd} {K V D : Sl} (h : CgAt w T c) (hld : T.C.D.ld ≤ 900000090) (hroom : 2 ≤ roomT T) (hml : c.made.length ≤ 900) (hn : NdAt B w n K V D) (hs : SoundN n) (h3 : nsize n ≤ 400)
   (h2 : 232 < nsize n → 1 ≤ cutIx n ∧ (if n.leaf then cutIx n ≤ n.keys.length - 1 ∧ 1 ≤ n.keys.length - 1 else cutIx n ≤ n.keys.length - 2 ∧ 1 ≤ n.keys.length - 2) ∧ nsize (n.left (cutIx n)) ≤ 232 ∧ nsize (n.right (cutIx n)) ≤ 232) :
   Ret Tryz.prog F.tree_change_fits #[.pointer (some ⟨c.cb, 0, none⟩), ndV n K V D] w (FitsR T c n w) := by
 have hfew := hs.few (by omega)
 refine W.tree_change_fits_ok (some ⟨c.cb, 0, none⟩) n.leaf K V D w _ ?_
 (delta W.tree_change_fits r3 nA r1 c2 Br c4; dsimp only)
 refine nxVar (vs := [.bool n.leaf, .slice K.a K.len K.cap, .slice V.a V.len V.cap, .slice D.a D.len D.cap]) rfl fun w1 hp1 hx1 hs1 => ?_
 obtain ⟨c0, c1, c2, c3⟩ := ndCells hp1
 refine ⟨_, c0, K, c1, V, c2, D, c3, (node_Size (hn.ext hx1) hs (by omega)).use ?_⟩
 rintro _ w6 ⟨rfl, hx6⟩
 have hX6 := hx1.trans hx6
 obtain ⟨d0, d1, d2, d3⟩ := ndCells (hp1.ext hx6)
 have fin : ∀ (v : Value) (w' : World), FitsR T c n w6 v w' → ∃ s : Sl, ∃ e : Int, v = .tuple #[.slice s.a s.len s.cap, .int .i64 e] ∧ FitsR T c n w (.tuple #[.slice s.a s.len s.cap, .int .i64 e]) w' := by
   rintro v w' ⟨T', c', m, s, g1, g2, g3, g4⟩
   have hcu := ((CTU.ext T c hX6).trans g2).mono (j := 2) (by omega)
   rcases g4 with ⟨ks, rfl, g5⟩ | ⟨rfl, g5⟩
   · exact ⟨s, 0, rfl, T', c', m, s, g1, hcu, g3, .inl ⟨ks, rfl, g5⟩⟩
   · exact ⟨s, 3, rfl, T', c', m, s, g1, hcu, g3, .inr ⟨rfl, g5⟩⟩
 refine ⟨_, rfl, fun hb => ⟨_, d0, K, d1, V, d2, D, d3, ?_⟩, fun hb => ⟨_, d0, K, d1, V, d2, D, d3, ?_⟩⟩
 · have hb : ((nsize n : Nat) : Int) > 232 := of_decide_eq_true hb
   obtain ⟨g1, g2, g3, g4⟩ := h2 (by omega)
   refine (change_two (h.ext hX6) hld hroom hml (hn.ext hX6) hs (by omega) h3 g1 g2 g3 g4).use ?_
   rintro v w' hv
   obtain ⟨s, e, rfl, g⟩ := fin v w' hv
   exact ⟨s, e, rfl, g⟩
 · have hb : ¬ ((nsize n : Nat) : Int) > 232 := of_decide_eq_false hb
   refine (change_one (h.ext hX6) (by omega) (by omega) (by omega) (hn.ext hX6) hs (by omega)).use ?_
   rintro v w' hv
   obtain ⟨s, e, rfl, g⟩ := fin v w' hv
   exact ⟨s, e, rfl, g⟩
end Go.Proofs.YtplieiecebljmaaGreat
