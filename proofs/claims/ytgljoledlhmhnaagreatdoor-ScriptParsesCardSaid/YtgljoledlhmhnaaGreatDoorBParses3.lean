/- Contracts of the functions that the statement reaches, and the plain laws over them; each theorem stands with its conditions. -/
import Derived.Shelf.Vars
import Derived.SizedLaws
import Derived.Test.YtgljoledlhmhnaaGreatDoorBParses2
namespace Go.Proofs.YtgljoledlhmhnaaGreatDoor
open Go Gx
variable {w w' : World}

theorem fewS_len (a : Stp) : (fewS a).data.length ≤ 2300 ∧ (fewS a).li.length ≤ 60 := by
  unfold fewS
  simp only [List.length_take]
  omega
theorem nilBA : ByteArray.mk #[] = S [] := rfl
theorem lives_end {w w0 : World} {Q : Value → World → Prop} (hX : Ext w0 w) (ht : ScT w) (hQ : ∀ w', Ext w0 w' → Q (.bool true) w') {b : Bool} (hb : b = true) {K : Bool → World → Prop} (hK : ∀ w', Ext w0 w' → K true w') :
    (b = true → Calls Tryz.prog F.law29_lives #[] w fun e w1 => ∃ c : Bool, e = .returned (.bool c) ∧ K c w1) ∧ (b = false → K false w) := by
  subst hb
  refine ⟨fun _ => (lives29 w ht).use ?_, fun h => (by cases h)⟩
  rintro _ w' ⟨rfl, hx⟩
  exact ⟨_, rfl, hK _ (Ext.trans hX hx)⟩

theorem law_ScriptParses (l0 : List UInt8) {o : OpM} {a : Stp} {bs : List Bk} (h : OpIn w o a bs) (ht : ScT w) : Ret Tryz.prog F.law29_ScriptParses #[.string (S l0), .agg o.c.toArray] w (fun v w' => v = .bool true ∧ Ext w w') := by
  refine W.law29_ScriptParses_ok _ _ w _ ?_
  unfold W.law29_ScriptParses
  refine nxVar (vs := o.c) rfl fun w1 ho hx1 hs1 => ?_
  rw [S_size]
  refine Jn1 (fun s w' => s = S (l0.take 300) ∧ w1 = w') (fun q hq => ⟨fun h => ?_, fun h => ?_⟩) ?_
  · have h := of_decide_eq_true h
    refine ⟨⟨by decide, by omega⟩, hq _ _ ⟨?_, rfl⟩⟩
    rw [S_extract]; rfl
  · have h := of_decide_eq_false h
    refine hq _ _ ⟨?_, rfl⟩
    rw [List.take_of_length_le (by omega)]
  rintro _ _ ⟨rfl, rfl⟩
  obtain ⟨l, hl⟩ : ∃ l, l = l0.take 300 := ⟨_, rfl⟩
  have hll : l.length ≤ 300 := by rw [hl, List.length_take]; omega
  rw [← hl]
  refine (script_Parse l (by omega) w1 (ht.ext hx1)).use ?_
  rintro _ w5 ⟨x, ok, rfl, hx5, ⟨y, hy, hy1, hy2, ⟨hyd, hyl⟩, hy3⟩, hfx⟩
  have hX5 := Ext.trans hx1 hx5
  refine ⟨_, _, rfl, nxVar (vs := opZ.c) (by kernel_rfl) fun w9 hz hx9 hs9 => ⟨hz.storeOk (by simp [OpM.c_length]) (by simpa using x.plain), by simp [OpM.c_length], nxPut hz (us := x.c) (by simp [OpM.c_length]) (by simp) fun w10 hv10 hc10 _ => ?_⟩⟩
  have hx10 : Ext w5 w10 := Ext.of_chg hx9 hc10 (Nat.le_refl _)
  have hX10 := Ext.trans hX5 hx10
  have ho10 := (ho.ext hx5).ext hx10
  have hy10 := hy.ext hx10
  refine Jn1 (fun b w' => b = false ∧ Ext w10 w') (fun q hq => ⟨fun hb => ?_, fun hb => hq _ _ ⟨rfl, .refl _ _⟩⟩) ?_
  · obtain ⟨g1, g2, g3⟩ := hy1 hb
    refine ⟨_, hv10.rd (OpM.c_length _), (ref29_Show hy10 g1 (by omega) (by omega)).use ?_⟩
    rintro _ w13 ⟨rfl, hx13⟩
    exact ⟨_, rfl, hq _ _ ⟨by rw [S_beq, g2]; simp, hx13⟩⟩
  rintro _ w17 ⟨rfl, hx17⟩
  refine Jn1 (fun b w' => b = false ∧ Ext w10 w') (fun q hq => ⟨fun hb => (by cases hb), fun _ => ?_⟩) ?_
  · refine Jn1 (fun b w' => b = false ∧ Ext w10 w') (fun q2 hq2 => ⟨fun hb => ⟨_, (hv10.ext hx17).rd (OpM.c_length _), _, mkOp0 _, (ref29_Same (hy10.ext hx17) (opIs_z 0 w17) (by omega)).use ?_⟩, fun hb => hq2 _ _ ⟨rfl, hx17⟩⟩) (fun b w' h => hq _ _ h)
    rintro _ w22 ⟨rfl, hx22⟩
    have hb : ok = false := by simpa using hb
    exact ⟨_, rfl, hq2 _ _ ⟨by rw [hy2 hb]; simp, Ext.trans hx17 hx22⟩⟩
  rintro _ w28 ⟨rfl, hx28⟩
  have ho28 := ho10.ext hx28
  have hX28 := Ext.trans hX10 hx28
  refine ⟨fun hb => (by cases hb), fun _ => ⟨_, ho28.rd (OpM.c_length _), (law29_Few (h.ext hX28)).use ?_⟩⟩
  rintro _ w30 ⟨p, bs1, rfl, hp, hx30, hf3, hk3⟩
  have ho30 := ho28.ext hx30
  have hlt := ho28.lt
  have hv30 := (hv10.ext hx28).ext hx30
  have hy30 := (hy10.ext hx28).ext hx30
  have hX30 := Ext.trans hX28 hx30
  have hw5 : w.heap.size < w5.heap.size := (ho.ext hx5).lt
  refine ⟨_, rfl, ho30.storeOk (by simp [OpM.c_length]) (by simpa using p.plain), by simp [OpM.c_length], nxPut ho30 (us := p.c) (by simp [OpM.c_length]) (by simp) fun w33 ho33 hc33 _ => ?_⟩
  have hX33 : Ext w w33 := Ext.of_chg hX30 hc33 (Nat.le_refl _)
  have hp33 := hp.chg hc33 (fun q hq e => by have := hf3.1 q hq; omega) (fun q hq e => by have := hf3.2 q hq; omega) (fun q hq e => by have := hk3 q hq; omega)
  have hv33 := hv30.chg hc33 (by omega)
  have hy33 := hy30.chg hc33 (fun q hq e => by have := hfx.1 q hq; omega) (fun q hq e => by have := hfx.2 q hq; omega)
  have hfl := fewS_len a
  refine ⟨_, ho33.rd (OpM.c_length _), (ref29_Show hp33.is hp33.vd (by omega) (by omega)).use ?_⟩
  rintro _ w35 ⟨rfl, hx35⟩
  have hX35 := Ext.trans hX33 hx35
  refine ⟨_, rfl, Jn1 (fun b w' => b = true ∧ Ext w w') (fun q hq => ⟨fun _ => hq _ _ ⟨rfl, hX35⟩, fun hb => ?_⟩) ?_⟩
  · rw [nilBA, S_beq, S_beq, Bool.or_eq_false_iff, Bool.not_eq_false', beq_iff_eq, beq_eq_false_iff_ne] at hb
    obtain ⟨g1, g2⟩ := hy3 _ hp33.vd hb.1 hb.2
    refine Jn1 (fun b w' => b = true ∧ Ext w w') (fun q2 hq2 => ⟨fun _ => ⟨_, (hv33.ext hx35).rd (OpM.c_length _), _, (ho33.ext hx35).rd (OpM.c_length _), (ref29_Same (hy33.ext hx35) (hp33.is.ext hx35) (by omega)).use ?_⟩, fun h2 => by rw [g1] at h2; cases h2⟩) (fun b w' h => hq _ _ h)
    rintro _ w42 ⟨rfl, hx42⟩
    exact ⟨_, rfl, hq2 _ _ ⟨by rw [g2]; simp, Ext.trans hX35 hx42⟩⟩
  rintro _ w48 ⟨rfl, hX48⟩
  refine Jn1 (fun b w' => b = true ∧ Ext w w') (fun q hq => lives_end (Q := fun _ _ => True) hX48 (ht.ext hX48) (fun _ _ => trivial) rfl (fun w' hx => hq _ _ ⟨rfl, hx⟩)) ?_
  rintro _ w54 ⟨rfl, hX54⟩
  exact ⟨rfl, hX54⟩

end Go.Proofs.YtgljoledlhmhnaaGreatDoor


namespace Go.Proofs.YtgljoledlhmhnaaGreatDoor
open Go Gx

theorem returnsInHanded_and_shaped {H : Type} {enc : TypeId × Value → H} {a : Assume} {C : Checked} {os : Os} {f : FuncId} {fn : Func} {s : ChangeSpec} {conds : List PathCond} {apart fresh handsOn again : Bool} {X : World → Array Value → Prop}
    (hX : ∀ (w w' : World) (args : Array Value), w.heap = w'.heap → X w args → X w' args)
    (own : ownKnob C.prog.godebug = none) (started : os.Started) (noInit : C.prog.inits.idxOf? f = none) (hfn : C.prog.funcs[f]? = some fn)
    (witness : ∃ (w : World) (tape : Tape) (i : Input), w.os = os ∧ (w.forCall tape i).Shaped C.prog ∧ i.vars = [] ∧ Input.okWide C.prog (w.forCall tape i) .any w.heap.size f i ∧
      ((s.pre enc C.prog fn conds apart (w.forCall tape i).memory i.args ∧ X (w.forCall tape i).memory i.args) ∧ sizedMet enc C.prog fn (OpenSpec.ofChange s) apart (w.forCall tape i).memory i.args) ∧ a.holds C.prog (lone (Frame.enter C.prog f i.args .normal) [] (w.forCall tape i)))
    (contract : ∀ (W : World) (base : Nat) (args : Array Value) (ds gs : List (DataW H)) (before : List MemPlace),
      (∀ (j : Nat) t v, fn.params[j]? = some t → args[j]? = some v → Value.okWide C.prog W .any base t v) →
      DataW.Whole enc C.prog fn.params.toList s.vars apart W args.toList ds gs before →
      conds.all (PathCond.test C.prog ⟨fn.params.toList, ds, s.plain.varTypes C.prog, gs⟩) = true →
      (DataW.weightsEach C.prog (fn.params.toList ++ s.plain.varTypes C.prog) (ds ++ gs)).all (· ≤ reachBytes) = true → X W args → W.ShapedOpen C.prog →
      a.holds C.prog (lone (Frame.enter C.prog f args .normal) [] W) →
      Calls C.prog f args W fun e W' => ∃ v, e = .returned v ∧ s.post enc C.prog fn apart fresh handsOn again W args v W') :
    ReturnsInHanded a C os f .any (fun w args => (s.pre enc C.prog fn conds apart w args ∧ X w args) ∧ sizedMet enc C.prog fn (OpenSpec.ofChange s) apart w args) (s.post enc C.prog fn apart fresh handsOn again) := by
  refine returnsInHanded_of_calls own started noInit witness ?_
  intro w tape i _ hsh _ hok hpre hholds
  obtain ⟨_, _, _, fn', hfn', _, _, _, _, hval⟩ := hok
  have e : fn' = fn := Option.some.inj (hfn'.symm.trans hfn)
  subst e
  obtain ⟨⟨⟨ds, gs, before, hw, hc⟩, hx⟩, hz⟩ := hpre
  have hw' := DataW.Whole.of_heap (w' := w.forCall tape i) (by rfl) hw
  refine (contract (w.forCall tape i) w.heap.size i.args ds gs before hval hw' hc (hz.weights hw) (hX _ _ _ (by rfl) hx) hsh hholds).mono fun e W' ⟨v, he, hp⟩ => ?_
  subst he
  exact ChangeSpec.post_blind hp

theorem maxAt_of {w : World} (h : w.ShapedOpen Tryz.prog) : MaxAt w :=
  Go.Proofs.cell_of_shapedOpen_int h (g := G.internal_bytealg_MaxLen) (t := Ty.int) (zero := #[.int .i64 0]) (of_decide_eq_true (by kernel_rfl)) (by kernel_rfl) rfl (by kernel_rfl) (by kernel_rfl) (by kernel_rfl)
def spZ : List Int := (List.range 256).map fun i => if i = 9 ∨ i = 10 ∨ i = 11 ∨ i = 12 ∨ i = 13 ∨ i = 32 then 1 else 0
theorem sp_of {w : World} {l : List (String × DataW Unit)} (h : laidMet Tryz.prog l w) (h1 : l[7]? = some ("strings.asciiSpace", Rows.laid_strings_asciiSpace)) : TabSp w := by
  have b := laid_ints h h1 (g := G.strings_asciiSpace) (k := .u8) (zs := spZ) (t := ((Tryz.prog.globals[G.strings_asciiSpace]?).map (·.type)).get (by kernel_rfl)) (e := Ty.uint8) (N := 256) (by kernel_rfl) (Option.some_get _).symm (by kernel_rfl) (by kernel_rfl) (by kernel_rfl) (by kernel_rfl)
  intro i hi
  rw [b i hi]
  congr 2
  simp [spZ, List.getD, hi]
theorem sct_of {w : World} {l : List (String × DataW Unit)} (h : laidMetH Tryz.prog l w) (hp : (l.all fun x => x.2.handleName?.isNone) = true) (h1 : l[1]? = some ("math/bits.deBruijn64tab", Rows.laid_math_bits_deBruijn64tab)) (h2 : l[2]? = some ("internal/strconv.uint64pow10", Rows.laid_internal_strconv_uint64pow10))
    (h3 : l[4]? = some ("strconv.ErrRange", Rows.laid_strconv_ErrRange)) (h4 : l[5]? = some ("strconv.ErrSyntax", Rows.laid_strconv_ErrSyntax)) (h5 : l[7]? = some ("strings.asciiSpace", Rows.laid_strings_asciiSpace)) (hM : MaxAt w) : ScT w := by
  refine ⟨tabs_of h hp h1 h2 h3 h4, ?_, hM⟩
  rw [MakeChecks.laidMetH_plain _ _ _ hp] at h
  exact sp_of h h5

end Go.Proofs.YtgljoledlhmhnaaGreatDoor

