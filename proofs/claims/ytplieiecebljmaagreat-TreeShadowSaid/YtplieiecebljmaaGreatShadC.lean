/- The statement TreeShadowSaid: the law returns true for every input and leaves it as it was. -/
import Derived.Test.YtplieiecebljmaaGreatRows
import Derived.Test.YtplieiecebljmaaGreatBShad6
import Derived.WalkKit
import Derived.ProofKit
import Derived.OpenShut
namespace Go.Proofs.YtplieiecebljmaaGreat.treeShadow
open Go b8 Go.ChangeShapes Go.WideShapes Go.ChangeAt Go.RowKit
theorem own:ownKnob Tryz.prog.godebug=none:=by kernel_rfl
theorem laid:laidOutB Tryz.prog=true:=by kernel_rfl
set_option maxRecDepth 100000 in
theorem contract (v0 v1:Value) (w:World) (b5:Gn Tryz.prog w 70 v0) (U:Gn Tryz.prog w 70 v1):aP Tryz.prog 7 #[v0,v1] w (fun v ag=>v= .bool true∧Ext w ag):=by
  obtain ⟨l,A,rfl,ay⟩:=tx.of b5;obtain ⟨m,B,rfl,fc⟩:=tx.of U;exact asM ay fc
set_option maxRecDepth 100000 in
theorem lifted (os:Os) (started:os.Started) (H:Type) (enc:TypeId×Value→H):
    ReturnsInHanded {} Tryz.checked os 7 .any (Rows.treeShadowSpec.pre6 enc Tryz.prog Tryz.f7 Rows.treeShadowRow.domain false) (Rows.treeShadowSpec.post enc Tryz.prog Tryz.f7 false true false false):=by
  refine returnsInHanded_of_change (C:=Tryz.checked) own started (by kernel_rfl) Tryz.func7
    (ChangeSpec.witness6 (enc:=enc) (C:=Tryz.checked) false ⟨#[], #[.slice none 0 0, .slice none 0 0],[]⟩ 8 (by kernel_rfl) (by kernel_rfl) (by kernel_rfl) (by kernel_rfl)) ?_
  intro W base args ds gs before afR dY axx _
  have sE:∀ (j:Nat) t v,Tryz.f7.params[j]? =some t→args[j]? =some v→Value.okWide Tryz.prog W .any base t v:=afR
  have W_:=dY
  obtain ⟨p,q,afS,t_,rfl,Kr,jH⟩:=dY
  have ay:DataW.TrodAll enc Tryz.prog W 0 (fun _=>true) true Tryz.f7.params.toList args.toList ds p:=afS
  rw[Tryz.params7] at ay sE
  obtain ⟨v0,axy,d0,axz,di,DM,Q5,rfl,rfl,b5,aue⟩:=trodAll_cons ay
  obtain ⟨v1,SV,d1,axA,cq,mz,rfl,rfl,rfl,U,ar⟩:=trodAll_cons aue
  obtain ⟨rfl,rfl,rfl⟩:=trodAll_nil ar
  obtain rfl:args= #[v0,v1]:=by cases args;simp_all
  obtain ⟨rfl,rfl⟩:=trodVars_none t_
  have Kw:=afE (sE 0 70 v0 rfl rfl) b5
  have aC:=afE (sE 1 70 v1 rfl rfl) U
  clear afS afR
  simp only[List.append_nil] at W_
  have a6:=fun x af=>W_.lt x af
  refine (contract v0 v1 W Kw aC).mono fun v x1 ⟨he,bl⟩=> ?_
  subst he
  exact atZ (pa:=_) (kB:=[]) W_ Tryz.underlying4 rfl rfl (fun sp qf=>(trodAll_cons_mk (afG laid (by kernel_rfl) (of_decide_eq_true (by kernel_rfl)) b5 bl (fun x af=>a6 x (by simp[af])) (fun x af=>qf x (by simp[af]))) (trodAll_cons_mk (afG laid (by kernel_rfl) (of_decide_eq_true (by kernel_rfl)) U bl (fun x af=>a6 x (by simp[af])) (fun x af=>qf x (by simp[af]))) trodAll_mk0))) (fun _ _=>rfl) (by simp) bl
theorem proved:Rows.TreeShadowSaid:=
  OpenClaim.holds_of_wide 7 Tryz.f7 rfl rfl rfl rfl rfl rfl rfl ⟨rfl,rfl,rfl,rfl,rfl⟩ rfl rfl rfl rfl rfl (by kernel_rfl) Tryz.func7 (by kernel_rfl)
    (of_decide_eq_true (by kernel_rfl)) (by unfold Func.isWrapper;first|(rw[if_pos (by decide+kernel)];kernel_rfl)|(rw[if_neg (by decide+kernel)];exact ⟨rfl,rfl⟩))
    (fun os started H enc _=>lifted os started H enc)
end Go.Proofs.YtplieiecebljmaaGreat.treeShadow
