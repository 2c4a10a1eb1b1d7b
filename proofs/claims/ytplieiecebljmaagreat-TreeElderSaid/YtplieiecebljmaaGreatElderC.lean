/- The statement TreeElderSaid: the law returns true for every input and leaves it as it was. -/
import Derived.Test.YtplieiecebljmaaGreatRows
import Derived.Test.YtplieiecebljmaaGreatBElder5
import Derived.WalkKit
import Derived.ProofKit
import Derived.OpenShut
namespace Go.Proofs.YtplieiecebljmaaGreat.treeElder
open Go b7 Go.ChangeShapes Go.WideShapes Go.ChangeAt Go.RowKit
theorem own:ownKnob Tryz.prog.godebug=none:=by kernel_rfl
theorem laid:laidOutB Tryz.prog=true:=by kernel_rfl
set_option maxRecDepth 100000 in
theorem contract (v0 v1:Value) (w:World) (b3:FR Tryz.prog w 70 v0) (U:FR Tryz.prog w 70 v1):aQ Tryz.prog 6 #[v0,v1] w (fun v ag=>v= .bool true∧Ext w ag):=by
  obtain ⟨l,A,rfl,ax⟩:=tp.of b3;obtain ⟨m,B,rfl,e1⟩:=tp.of U;exact aqW ax e1
set_option maxRecDepth 100000 in
theorem lifted (os:Os) (started:os.Started) (H:Type) (enc:TypeId×Value→H):
    ReturnsInHanded {} Tryz.checked os 6 .any (Rows.treeElderSpec.pre6 enc Tryz.prog Tryz.f6 Rows.treeElderRow.domain false) (Rows.treeElderSpec.post enc Tryz.prog Tryz.f6 false true false false):=by
  refine returnsInHanded_of_change (C:=Tryz.checked) own started (by kernel_rfl) Tryz.func6
    (ChangeSpec.witness6 (enc:=enc) (C:=Tryz.checked) false ⟨#[], #[.slice none 0 0, .slice none 0 0],[]⟩ 8 (by kernel_rfl) (by kernel_rfl) (by kernel_rfl) (by kernel_rfl)) ?_
  intro W base args ds gs before adb dK avg _
  have zr:∀ (j:Nat) t v,Tryz.f6.params[j]? =some t→args[j]? =some v→Value.okWide Tryz.prog W .any base t v:=adb
  have Vk:=dK
  obtain ⟨p,q,adc,tR,rfl,Yd,jy⟩:=dK
  have ax:DataW.TrodAll enc Tryz.prog W 0 (fun _=>true) true Tryz.f6.params.toList args.toList ds p:=adc
  rw[Tryz.params6] at ax zr
  obtain ⟨v0,avh,d0,avi,cZ,Dc,PG,rfl,rfl,b3,aq5⟩:=trodAll_cons ax
  obtain ⟨v1,RX,d1,avj,cl,pS,rfl,rfl,rfl,U,aq⟩:=trodAll_cons aq5
  obtain ⟨rfl,rfl,rfl⟩:=trodAll_nil aq
  obtain rfl:args= #[v0,v1]:=by cases args;simp_all
  obtain ⟨rfl,rfl⟩:=trodVars_none tR
  have JT:=ade (zr 0 70 v0 rfl rfl) b3
  have aA:=ade (zr 1 70 v1 rfl rfl) U
  clear adc adb
  simp only[List.append_nil] at Vk
  have a9:=fun x af=>Vk.lt x af
  refine (contract v0 v1 W JT aA).mono fun v xL ⟨he,a7⟩=> ?_
  subst he
  exact aq6 (pa:=_) (ku:=[]) Vk Tryz.underlying4 rfl rfl (fun sp p6=>(trodAll_cons_mk (adf laid (by kernel_rfl) (of_decide_eq_true (by kernel_rfl)) b3 a7 (fun x af=>a9 x (by simp[af])) (fun x af=>p6 x (by simp[af]))) (trodAll_cons_mk (adf laid (by kernel_rfl) (of_decide_eq_true (by kernel_rfl)) U a7 (fun x af=>a9 x (by simp[af])) (fun x af=>p6 x (by simp[af]))) trodAll_mk0))) (fun _ _=>rfl) (by simp) a7
theorem proved:Rows.TreeElderSaid:=
  OpenClaim.holds_of_wide 6 Tryz.f6 rfl rfl rfl rfl rfl rfl rfl ⟨rfl,rfl,rfl,rfl,rfl⟩ rfl rfl rfl rfl rfl (by kernel_rfl) Tryz.func6 (by kernel_rfl)
    (of_decide_eq_true (by kernel_rfl)) (by unfold Func.isWrapper;first|(rw[if_pos (by decide+kernel)];kernel_rfl)|(rw[if_neg (by decide+kernel)];exact ⟨rfl,rfl⟩))
    (fun os started H enc _=>lifted os started H enc)
end Go.Proofs.YtplieiecebljmaaGreat.treeElder
