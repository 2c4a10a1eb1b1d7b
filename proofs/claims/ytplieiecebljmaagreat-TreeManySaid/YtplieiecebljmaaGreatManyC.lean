/- The statement TreeManySaid: the law returns true for every input and leaves it as it was. -/
import Derived.Test.YtplieiecebljmaaGreatRows
import Derived.Test.YtplieiecebljmaaGreatBMany5
import Derived.WalkKit
import Derived.ProofKit
import Derived.OpenShut
namespace Go.Proofs.YtplieiecebljmaaGreat.treeMany
open Go b6 Go.ChangeShapes Go.WideShapes Go.ChangeAt Go.RowKit
theorem own:ownKnob Tryz.prog.godebug=none:=by kernel_rfl
theorem laid:laidOutB Tryz.prog=true:=by kernel_rfl
set_option maxRecDepth 100000 in
theorem contract (v0 v1 v2:Value) (w:World) (b5:E5 Tryz.prog w 5 v0) (U:E5 Tryz.prog w 84 v1) (ab:E5 Tryz.prog w 84 v2):aR Tryz.prog 8 #[v0,v1,v2] w (fun v ag=>v= .bool true∧Ext w ag):=by
  obtain ⟨a0,rfl,aql,J9⟩:=Ui.of b5 Tryz.underlying5
  obtain ⟨a8,rfl,xj,bL⟩:=Ui.of U Tryz.underlying84
  obtain ⟨cQ,rfl,rK,ar⟩:=Ui.of ab Tryz.underlying84
  exact aoZ (ap8 aql J9) ⟨xj,bL⟩ ⟨rK,ar⟩
set_option maxRecDepth 100000 in
theorem lifted (os:Os) (started:os.Started) (H:Type) (enc:TypeId×Value→H):
    ReturnsInHanded {} Tryz.checked os 8 .any (Rows.treeManySpec.pre6 enc Tryz.prog Tryz.f8 Rows.treeManyRow.domain false) (Rows.treeManySpec.post enc Tryz.prog Tryz.f8 false true false false):=by
  refine returnsInHanded_of_change (C:=Tryz.checked) own started (by kernel_rfl) Tryz.func8
    (ChangeSpec.witness6 (enc:=enc) (C:=Tryz.checked) false ⟨#[], #[.int .u8 0, .int .u16 0, .int .u16 0],[]⟩ 8 (by kernel_rfl) (by kernel_rfl) (by kernel_rfl) (by kernel_rfl)) ?_
  intro W base args ds gs before ack c9 atv _
  have wJ:∀ (j:Nat) t v,Tryz.f8.params[j]? =some t→args[j]? =some v→Value.okWide Tryz.prog W .any base t v:=ack
  have Us:=c9
  obtain ⟨p,q,acl,sH,rfl,Ws,gC⟩:=c9
  have ax:DataW.TrodAll enc Tryz.prog W 0 (fun _=>true) true Tryz.f8.params.toList args.toList ds p:=acl
  rw[Tryz.params8] at ax wJ
  obtain ⟨v0,atw,d0,atx,eW,Yl,OB,rfl,rfl,b5,J9⟩:=trodAll_cons ax
  obtain ⟨v1,Qj,d1,aty,cg,s4,rfl,rfl,rfl,U,bL⟩:=trodAll_cons J9
  obtain ⟨v2,Qk,d2,atz,cc,iX,rfl,rfl,rfl,ab,ar⟩:=trodAll_cons bL
  obtain ⟨rfl,rfl,rfl⟩:=trodAll_nil ar
  obtain rfl:args= #[v0,v1,v2]:=by cases args;simp_all
  obtain ⟨rfl,rfl⟩:=trodVars_none sH
  have IH:=Ug (wJ 0 5 v0 rfl rfl) b5
  have aC:=Ug (wJ 1 84 v1 rfl rfl) U
  have aF:=Ug (wJ 2 84 v2 rfl rfl) ab
  clear acl ack
  simp only[List.append_nil] at Us
  have a_:=fun x af=>Us.lt x af
  refine (contract v0 v1 v2 W IH aC aF).mono fun v wK ⟨he,bg⟩=> ?_
  subst he
  exact ap6 (pa:=_) (jM:=[]) Us Tryz.underlying4 rfl rfl (fun sp pB=>(trodAll_cons_mk (Uh laid (by kernel_rfl) (of_decide_eq_true (by kernel_rfl)) b5 bg (fun x af=>a_ x (by simp[af])) (fun x af=>pB x (by simp[af]))) (trodAll_cons_mk (Uh laid (by kernel_rfl) (of_decide_eq_true (by kernel_rfl)) U bg (fun x af=>a_ x (by simp[af])) (fun x af=>pB x (by simp[af]))) (trodAll_cons_mk (Uh laid (by kernel_rfl) (of_decide_eq_true (by kernel_rfl)) ab bg (fun x af=>a_ x (by simp[af])) (fun x af=>pB x (by simp[af]))) trodAll_mk0)))) (fun _ _=>rfl) (by simp) bg
theorem proved:Rows.TreeManySaid:=
  OpenClaim.holds_of_wide 8 Tryz.f8 rfl rfl rfl rfl rfl rfl rfl ⟨rfl,rfl,rfl,rfl,rfl⟩ rfl rfl rfl rfl rfl (by kernel_rfl) Tryz.func8 (by kernel_rfl)
    (of_decide_eq_true (by kernel_rfl)) (by unfold Func.isWrapper;first|(rw[if_pos (by decide+kernel)];kernel_rfl)|(rw[if_neg (by decide+kernel)];exact ⟨rfl,rfl⟩))
    (fun os started H enc _=>lifted os started H enc)
end Go.Proofs.YtplieiecebljmaaGreat.treeMany
