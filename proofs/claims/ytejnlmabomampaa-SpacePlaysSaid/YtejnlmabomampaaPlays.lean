/- The statement SpacePlaysSaid: the law returns true for every input and leaves it as it was. -/
import Derived.Test.YtejnlmabomampaaRows
import Derived.Test.YtejnlmabomampaaSpaceI
import Derived.WalkKit
import Derived.ProofKit
import Derived.OpenShut
namespace Go.Proofs.Ytejnlmabomampaa.spacePlays
open Go Gx Go.ChangeShapes Go.WideShapes Go.ChangeAt Go.RowKit
theorem own : ownKnob Try.prog.godebug = none := by kernel_rfl
theorem laid : laidOutB Try.prog = true := by kernel_rfl
theorem contract (v0 v1 v2 : Value) (w : World) (h0 : OkV Try.prog w 3 v0) (h1 : OkV Try.prog w 3 v1) (h2 : OkV Try.prog w 40 v2) : Ret Try.prog 9 #[v0, v1, v2] w (fun v w1 => v = .bool true ∧ Ext w w1) := by
  obtain ⟨a0, rfl, l0, r0⟩ := IntAt.of h0 Try.underlying3
  obtain ⟨a1, rfl, l1, r1⟩ := IntAt.of h1 Try.underlying3
  -- OPEN 2 slice of struct
  obtain ⟨s2, rfl, k2⟩ := SliceAt.of h2 Try.underlying40
  exact law_SpacePlays _ _ _ w (ActsAt.of k2 Try.underlying43 Try.underlying3 (by kernel_rfl) (by kernel_rfl))
set_option maxRecDepth 100000 in
theorem lifted (os : Os) (started : os.Started) (H : Type) (enc : TypeId × Value → H) :
    ReturnsInHanded {} Try.checked os 9 .any (Rows.spacePlaysSpec.pre6 enc Try.prog Try.f9 Rows.spacePlaysRow.domain false) (Rows.spacePlaysSpec.post enc Try.prog Try.f9 false true false false) := by
  refine returnsInHanded_of_change (C := Try.checked) own started (by kernel_rfl) Try.func9
    (ChangeSpec.witness6 (enc := enc) (C := Try.checked) false ⟨#[], #[.int .i64 0, .int .i64 0, .slice none 0 0], []⟩ 8 (by kernel_rfl) (by kernel_rfl) (by kernel_rfl) (by kernel_rfl)) ?_
  intro W base args ds gs before hval0 hW hcnd _
  have hval : ∀ (j : Nat) t v, Try.f9.params[j]? = some t → args[j]? = some v → Value.okWide Try.prog W .any base t v := hval0
  have hW' := hW
  obtain ⟨p, q, hA0, hV, rfl, hfz, hnd⟩ := hW
  have hA : DataW.TrodAll enc Try.prog W 0 (fun _ => true) true Try.f9.params.toList args.toList ds p := hA0
  rw [Try.params9] at hA hval
  obtain ⟨v0, vs0, d0, ds0, p0, q0, hargs, rfl, rfl, h0, r0⟩ := trodAll_cons hA
  obtain ⟨v1, vs1, d1, ds1, p1, q1, rfl, rfl, rfl, h1, r1⟩ := trodAll_cons r0
  obtain ⟨v2, vs2, d2, ds2, p2, q2, rfl, rfl, rfl, h2, r2⟩ := trodAll_cons r1
  obtain ⟨rfl, rfl, rfl⟩ := trodAll_nil r2
  obtain rfl : args = #[v0, v1, v2] := by cases args; simp_all
  obtain ⟨rfl, rfl⟩ := trodVars_none hV
  have g0 := okV_of (hval 0 3 v0 rfl rfl) h0
  have g1 := okV_of (hval 1 3 v1 rfl rfl) h1
  have g2 := okV_of (hval 2 40 v2 rfl rfl) h2
  clear hA0 hval0
  simp only [List.append_nil] at hW'
  have hlt := fun x hx => hW'.lt x hx
  refine (contract v0 v1 v2 W g0 g1 g2).mono fun v W' ⟨he, hg⟩ => ?_
  subst he
  exact law_post (pa := _) (pv := []) hW' Try.underlying4 rfl rfl (fun sp hsp => (trodAll_cons_mk (arg_stays laid (by kernel_rfl) (of_decide_eq_true (by kernel_rfl)) h0 hg (fun x hx => hlt x (by simp [hx])) (fun x hx => hsp x (by simp [hx]))) (trodAll_cons_mk (arg_stays laid (by kernel_rfl) (of_decide_eq_true (by kernel_rfl)) h1 hg (fun x hx => hlt x (by simp [hx])) (fun x hx => hsp x (by simp [hx]))) (trodAll_cons_mk (arg_stays laid (by kernel_rfl) (of_decide_eq_true (by kernel_rfl)) h2 hg (fun x hx => hlt x (by simp [hx])) (fun x hx => hsp x (by simp [hx]))) trodAll_mk0)))) (fun _ _ => rfl) (by simp) hg
theorem proved : Rows.SpacePlaysSaid :=
  OpenClaim.holds_of_wide 9 Try.f9 rfl rfl rfl rfl rfl rfl rfl ⟨rfl, rfl, rfl, rfl, rfl⟩ rfl rfl rfl rfl rfl (by kernel_rfl) Try.func9 (by kernel_rfl)
    (of_decide_eq_true (by kernel_rfl)) (by unfold Func.isWrapper; first | (rw [if_pos (by decide +kernel)]; kernel_rfl) | (rw [if_neg (by decide +kernel)]; exact ⟨rfl, rfl⟩))
    (fun os started H enc _ => lifted os started H enc)
end Go.Proofs.Ytejnlmabomampaa.spacePlays
