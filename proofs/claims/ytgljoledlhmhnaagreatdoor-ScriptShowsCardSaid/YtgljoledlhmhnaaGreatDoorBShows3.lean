/- Contracts of the functions that the statement reaches, and the plain laws over them; each theorem stands with its conditions. -/
import Derived.Shelf.Vars
import Derived.SizedLaws
import Derived.Test.YtgljoledlhmhnaaGreatDoorBShows2
namespace Go.Proofs.YtgljoledlhmhnaaGreatDoor
open Go Gx
variable {w w' : World}

theorem fewS_idem (a : Stp) : fewS (fewS a) = fewS a := by
  unfold fewS
  simp only [List.take_take, Nat.min_self]
  congr 1; omega
theorem fewS_len (a : Stp) : (fewS a).data.length ≤ 2300 ∧ (fewS a).li.length ≤ 60 := by
  unfold fewS
  simp only [List.length_take]
  omega
theorem showO_len (a : Stp) : (showO a).length ≤ 4200 := by
  unfold showO
  split
  · rename_i h; exact h.2
  · simp
theorem nilBA : ByteArray.mk #[] = S [] := rfl
theorem lives_end {w w0 : World} {Q : Value → World → Prop} (hX : Ext w0 w) (ht : ScT w) (hQ : ∀ w', Ext w0 w' → Q (.bool true) w') {b : Bool} (hb : b = true) {K : Bool → World → Prop} (hK : ∀ w', Ext w0 w' → K true w') :
    (b = true → Calls Tryz.prog F.law29_lives #[] w fun e w1 => ∃ c : Bool, e = .returned (.bool c) ∧ K c w1) ∧ (b = false → K false w) := by
  subst hb
  refine ⟨fun _ => (lives29 w ht).use ?_, fun h => (by cases h)⟩
  rintro _ w' ⟨rfl, hx⟩
  exact ⟨_, rfl, hK _ (Ext.trans hX hx)⟩

theorem law_ScriptShows {o : OpM} {a : Stp} {bs : List Bk} (h : OpIn w o a bs) (ht : ScT w) : Ret Tryz.prog F.law29_ScriptShows #[.agg o.c.toArray] w (fun v w' => v = .bool true ∧ Ext w w') := by
  refine W.law29_ScriptShows_ok _ w _ ?_
  unfold W.law29_ScriptShows
  refine nxVar (vs := o.c) rfl fun w1 ho hx1 hs1 => ⟨_, ho.rd (OpM.c_length _), (law29_Few (h.ext hx1)).use ?_⟩
  rintro _ w3 ⟨p, bs1, rfl, hp, hx3, hf3, hk3⟩
  have ho3 := ho.ext hx3
  have hlt := ho.lt
  refine ⟨_, rfl, ho3.storeOk (by simp [OpM.c_length]) (by simpa using p.plain), by simp [OpM.c_length], nxPut ho3 (us := p.c) (by simp [OpM.c_length]) (by simp) fun w6 ho6 hc6 _ => ?_⟩
  have hX6 : Ext w w6 := Ext.of_chg (Ext.trans hx1 hx3) hc6 (Nat.le_refl _)
  have hp6 := hp.chg hc6 (fun q hq e => by have := hf3.1 q hq; omega) (fun q hq e => by have := hf3.2 q hq; omega) (fun q hq e => by have := hk3 q hq; omega)
  obtain ⟨f, hf⟩ : ∃ f, f = fewS a := ⟨_, rfl⟩
  have hfl := fewS_len a
  have hff := fewS_idem a
  rw [← hf] at hp6 hfl hff
  refine ⟨_, ho6.rd (OpM.c_length _), (law29_Few hp6).use ?_⟩
  rintro _ w8 ⟨p2, bs2, rfl, hp8, hx8, _, _⟩
  have hff2 : fewS f = f := by rw [hf]; exact fewS_idem a
  rw [hff2] at hp8
  have hX8 := Ext.trans hX6 hx8
  refine ⟨_, rfl, (script_Show hp8.is hp8.vd (by omega) (by omega) (ht.ext hX8)).use ?_⟩
  rintro _ w11 ⟨rfl, hx11⟩
  have ho11 := (ho6.ext hx8).ext hx11
  have hX11 := Ext.trans hX8 hx11
  have hp11 := (hp6.ext hx8).ext hx11
  refine ⟨_, rfl, _, ho11.rd (OpM.c_length _), (ref29_Show hp11.is hp11.vd (by omega) (by omega)).use ?_⟩
  rintro _ w15 ⟨rfl, hx15⟩
  have hX15 := Ext.trans hX11 hx15
  have hsl := showO_len f
  refine ⟨_, rfl, fun h => by rw [S_beq] at h; simp at h, fun _ => (script_Parse (showO f) (by omega) w15 (ht.ext hX15)).use ?_⟩
  rintro _ w18 ⟨x, ok, rfl, hx18, ⟨y, hy, hy1, hy2, _, hy3⟩, hfx⟩
  have hX18 := Ext.trans hX15 hx18
  have hok : ok = decide (showO f ≠ []) := by
    by_cases e : showO f = []
    · cases ok with
      | false => simp [e]
      | true => exact absurd e (hy1 rfl).2.2
    · rw [(hy3 f hp6.vd rfl e).1, decide_eq_true e]
  refine ⟨_, _, rfl, nxVar (vs := opZ.c) (by kernel_rfl) fun w22 hz hx22 hs22 => ⟨hz.storeOk (by simp [OpM.c_length]) (by simpa using x.plain), by simp [OpM.c_length], nxPut hz (us := x.c) (by simp [OpM.c_length]) (by simp) fun w23 hv23 hc23 _ => ?_⟩⟩
  have hx23 : Ext w18 w23 := Ext.of_chg hx22 hc23 (Nat.le_refl _)
  have hX23 := Ext.trans hX18 hx23
  have ho23 := ((ho11.ext hx15).ext hx18).ext hx23
  have hp23 := ((hp11.ext hx15).ext hx18).ext hx23
  have hy23 := hy.ext hx23
  have eq1 : ((ByteArray.toList (S (showO f)) == ByteArray.toList (ByteArray.mk #[])) == (!ok)) = true := by
    rw [nilBA, S_beq, hok]
    by_cases e : showO f = []
    · simp [e]
    · simp [e]
  refine Jn1 (fun b w' => b = true ∧ Ext w w') (fun q hq => ⟨fun _ => ?_, fun h => by rw [eq1] at h; cases h⟩) ?_
  · refine Jn1 (fun b w' => (b = ok) ∧ Ext w w' ∧ Ext w23 w') (fun q2 hq2 => ⟨fun h => ⟨_, hv23.rd (OpM.c_length _), _, ho23.rd (OpM.c_length _), (ref29_Same hy23 hp23.is ?_).use ?_⟩, fun h => hq2 _ _ ⟨h.symm, hX23, .refl _ _⟩⟩) ?_
    · obtain ⟨g1, g2, g3⟩ := hy1 h
      have := (hy3 f hp6.vd rfl g3).2
      rw [this]; omega
    · rintro _ w28 ⟨rfl, hx28⟩
      obtain ⟨g1, g2, g3⟩ := hy1 h
      have := (hy3 f hp6.vd rfl g3).2
      exact ⟨_, rfl, hq2 _ _ ⟨by rw [this, h]; simp, Ext.trans hX23 hx28, hx28⟩⟩
    rintro _ w32 ⟨rfl, hX32, hx32⟩
    refine Jn1 (fun b w' => b = true ∧ Ext w w') (fun q3 hq3 => ⟨fun h => hq3 _ _ ⟨rfl, hX32⟩, fun h => ?_⟩) (fun b w' h => hq _ _ h)
    refine Jn1 (fun b w' => b = true ∧ Ext w w') (fun q4 hq4 => ⟨fun _ => ⟨_, (hv23.ext hx32).rd (OpM.c_length _), _, mkOp0 _, (ref29_Same (hy23.ext hx32) (opIs_z 0 w32) ?_).use ?_⟩, fun h2 => by rw [h] at h2; cases h2⟩) (fun b w' h => hq3 _ _ h)
    · rw [hy2 h]; simp [stp0]
    · rintro _ w37 ⟨rfl, hx37⟩
      exact ⟨_, rfl, hq4 _ _ ⟨by rw [hy2 h]; simp, Ext.trans hX32 hx37⟩⟩
  rintro _ w45 ⟨rfl, hX45⟩
  refine Jn1 (fun b w' => b = true ∧ Ext w w') (fun q hq => lives_end (Q := fun _ _ => True) hX45 (ht.ext hX45) (fun _ _ => trivial) rfl (fun w' hx => hq _ _ ⟨rfl, hx⟩)) ?_
  rintro _ w51 ⟨rfl, hX51⟩
  exact ⟨rfl, hX51⟩

end Go.Proofs.YtgljoledlhmhnaaGreatDoor


namespace Go.Proofs.YtgljoledlhmhnaaGreatDoor
open Go Gx

theorem returnsInHanded_and_shaped {H : Type} {enc : TypeId × Value → H} {a : Assume} {C : Checked} {os : Os} {f : FuncId} {fn : Func} {s : ChangeSpec} {conds : List PathCond} {apart fresh handsOn again : Bool} {X : World → Array Value → Prop}
    (hX : ∀ (w w' : World) (args : Array Value), w.heap = w'.heap → X w args → X w' args)
    (own : ownKnob C.prog.godebug = none) (started : os.Started) (noInit : C.prog.inits.idxOf? f = none) (hfn : C.prog.funcs[f]? = some fn)
    (witness : ∃ (w : World) (tape : Tape) (i : Input), w.os = os ∧ (w.forCall tape i).Shaped C.prog ∧ i.vars = [] ∧ Input.okWide C.prog (w.forCall tape i) .any w.heap.size f i ∧
      ((s.pre enc C.prog fn conds apart (w.forCall tape i).memory i.args ∧ X (w.forCall tape i).memory i.args) ∧ sizedMet enc C.prog fn (OpenSpec.ofChange s) apart (w.forCall tape i).memory i.args) ∧ a.holds C.prog (lone (Frame.enter C.prog f i.args .normal) [] (w.forCall tape i)))
    (contract : ∀ (W : World) (base : Nat) (args : Array Value) (ds gs : List (DataW H)) (before : List MemPlace),
      (∀ (j : Nat) t v, fn.params[j]? = some t → args[j]? = some v → Value.okWide C.prog W .any base t v) →
      DataW.Whole enc C.prog fn.params.toList s.vars apart W args.toList ds gs before →
      conds.all (PathCond.test C.prog ⟨fn.params.toList, ds, s.plain.varTypes C.prog, gs⟩) = true →
      (DataW.weightsEach C.prog (fn.params.toList ++ s.plain.varTypes C.prog) (ds ++ gs)).all (· ≤ reachBytes) = true → X W args → W.ShapedOpen C.prog →
      a.holds C.prog (lone (Frame.enter C.prog f args .normal) [] W) →
      Calls C.prog f args W fun e W' => ∃ v, e = .returned v ∧ s.post enc C.prog fn apart fresh handsOn again W args v W') :
    ReturnsInHanded a C os f .any (fun w args => (s.pre enc C.prog fn conds apart w args ∧ X w args) ∧ sizedMet enc C.prog fn (OpenSpec.ofChange s) apart w args) (s.post enc C.prog fn apart fresh handsOn again) := by
  refine returnsInHanded_of_calls own started noInit witness ?_
  intro w tape i _ hsh _ hok hpre hholds
  obtain ⟨_, _, _, fn', hfn', _, _, _, _, hval⟩ := hok
  have e : fn' = fn := Option.some.inj (hfn'.symm.trans hfn)
  subst e
  obtain ⟨⟨⟨ds, gs, before, hw, hc⟩, hx⟩, hz⟩ := hpre
  have hw' := DataW.Whole.of_heap (w' := w.forCall tape i) (by rfl) hw
  refine (contract (w.forCall tape i) w.heap.size i.args ds gs before hval hw' hc (hz.weights hw) (hX _ _ _ (by rfl) hx) hsh hholds).mono fun e W' ⟨v, he, hp⟩ => ?_
  subst he
  exact ChangeSpec.post_blind hp

theorem maxAt_of {w : World} (h : w.ShapedOpen Tryz.prog) : MaxAt w :=
  Go.Proofs.cell_of_shapedOpen_int h (g := G.internal_bytealg_MaxLen) (t := Ty.int) (zero := #[.int .i64 0]) (of_decide_eq_true (by kernel_rfl)) (by kernel_rfl) rfl (by kernel_rfl) (by kernel_rfl) (by kernel_rfl)
def spZ : List Int := (List.range 256).map fun i => if i = 9 ∨ i = 10 ∨ i = 11 ∨ i = 12 ∨ i = 13 ∨ i = 32 then 1 else 0
theorem sp_of {w : World} {l : List (String × DataW Unit)} (h : laidMet Tryz.prog l w) (h1 : l[7]? = some ("strings.asciiSpace", Rows.laid_strings_asciiSpace)) : TabSp w := by
  have b := laid_ints h h1 (g := G.strings_asciiSpace) (k := .u8) (zs := spZ) (t := ((Tryz.prog.globals[G.strings_asciiSpace]?).map (·.type)).get (by kernel_rfl)) (e := Ty.uint8) (N := 256) (by kernel_rfl) (Option.some_get _).symm (by kernel_rfl) (by kernel_rfl) (by kernel_rfl) (by kernel_rfl)
  intro i hi
  rw [b i hi]
  congr 2
  simp [spZ, List.getD, hi]
theorem sct_of {w : World} {l : List (String × DataW Unit)} (h : laidMetH Tryz.prog l w) (hp : (l.all fun x => x.2.handleName?.isNone) = true) (h1 : l[1]? = some ("math/bits.deBruijn64tab", Rows.laid_math_bits_deBruijn64tab)) (h2 : l[2]? = some ("internal/strconv.uint64pow10", Rows.laid_internal_strconv_uint64pow10))
    (h3 : l[4]? = some ("strconv.ErrRange", Rows.laid_strconv_ErrRange)) (h4 : l[5]? = some ("strconv.ErrSyntax", Rows.laid_strconv_ErrSyntax)) (h5 : l[7]? = some ("strings.asciiSpace", Rows.laid_strings_asciiSpace)) (hM : MaxAt w) : ScT w := by
  refine ⟨tabs_of h hp h1 h2 h3 h4, ?_, hM⟩
  rw [MakeChecks.laidMetH_plain _ _ _ hp] at h
  exact sp_of h h5

end Go.Proofs.YtgljoledlhmhnaaGreatDoor

