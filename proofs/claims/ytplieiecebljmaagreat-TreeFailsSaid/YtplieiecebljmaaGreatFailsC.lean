/- The statement TreeFailsSaid: the law returns true for every input and leaves it as it was. -/
import Derived.Test.YtplieiecebljmaaGreatRows
import Derived.Test.YtplieiecebljmaaGreatBFails6
import Derived.WalkKit
import Derived.ProofKit
import Derived.OpenShut
namespace Go.Proofs.YtplieiecebljmaaGreat.treeFails
open Go b_ Go.ChangeShapes Go.WideShapes Go.ChangeAt Go.RowKit
theorem own:ownKnob Tryz.prog.godebug=none:=by kernel_rfl
theorem laid:laidOutB Tryz.prog=true:=by kernel_rfl
set_option maxRecDepth 100000 in
theorem contract (v0 v1 v2:Value) (w:World) (b7:wj Tryz.prog w 70 v0) (U:wj Tryz.prog w 93 v1) (ad:wj Tryz.prog w 75 v2):aQ Tryz.prog 10 #[v0,v1,v2] w (fun v ag=>v= .bool true∧Ext w ag):=by
  obtain ⟨l,A,rfl,ax⟩:=uU.of b7;obtain ⟨x,y,rfl,af,b3⟩:=atk.of U;obtain ⟨a,rfl,aR⟩:=atj.of ad;exact ath ax af b3 aR
set_option maxRecDepth 100000 in
theorem lifted (os:Os) (started:os.Started) (H:Type) (enc:TypeId×Value→H):
    ReturnsInHanded {} Tryz.checked os 10 .any (Rows.treeFailsSpec.pre6 enc Tryz.prog Tryz.f10 Rows.treeFailsRow.domain false) (Rows.treeFailsSpec.post enc Tryz.prog Tryz.f10 false true false false):=by
  refine returnsInHanded_of_change (C:=Tryz.checked) own started (by kernel_rfl) Tryz.func10
    (ChangeSpec.witness6 (enc:=enc) (C:=Tryz.checked) false ⟨#[], #[.slice none 0 0, .agg #[.int .u8 0, .int .u8 0], .agg #[.int .i64 0, .slice none 0 0, .slice none 0 0, .int .i64 0]],[]⟩ 8 (by kernel_rfl) (by kernel_rfl) (by kernel_rfl) (by kernel_rfl)) ?_
  intro W base args ds gs before aey dq axs _
  have x5:∀ (j:Nat) t v,Tryz.f10.params[j]? =some t→args[j]? =some v→Value.okWide Tryz.prog W .any base t v:=aey
  have WJ:=dq
  obtain ⟨p,q,aez,ud,rfl,Zu,hG⟩:=dq
  have ax:DataW.TrodAll enc Tryz.prog W 0 (fun _=>true) true Tryz.f10.params.toList args.toList ds p:=aez
  rw[Tryz.params10] at ax x5
  obtain ⟨v0,axt,d0,axu,dK,xL,QC,rfl,rfl,b7,atl⟩:=trodAll_cons ax
  obtain ⟨v1,SV,d1,axv,cq,pZ,rfl,rfl,rfl,U,bI⟩:=trodAll_cons atl
  obtain ⟨v2,SW,d2,axw,cx,iB,rfl,rfl,rfl,ad,aq⟩:=trodAll_cons bI
  obtain ⟨rfl,rfl,rfl⟩:=trodAll_nil aq
  obtain rfl:args= #[v0,v1,v2]:=by cases args;simp_all
  obtain ⟨rfl,rfl⟩:=trodVars_none ud
  have Kp:=WK (x5 0 70 v0 rfl rfl) b7
  have aA:=WK (x5 1 93 v1 rfl rfl) U
  have aE:=WK (x5 2 75 v2 rfl rfl) ad
  clear aez aey
  simp only[List.append_nil] at WJ
  have bd:=fun x af=>WJ.lt x af
  refine (contract v0 v1 v2 W Kp aA aE).mono fun v x6 ⟨he,bf⟩=> ?_
  subst he
  exact atm (pa:=_) (kH:=[]) WJ Tryz.underlying4 rfl rfl (fun sp qG=>(trodAll_cons_mk (WL laid (by kernel_rfl) (of_decide_eq_true (by kernel_rfl)) b7 bf (fun x af=>bd x (by simp[af])) (fun x af=>qG x (by simp[af]))) (trodAll_cons_mk (WL laid (by kernel_rfl) (of_decide_eq_true (by kernel_rfl)) U bf (fun x af=>bd x (by simp[af])) (fun x af=>qG x (by simp[af]))) (trodAll_cons_mk (WL laid (by kernel_rfl) (of_decide_eq_true (by kernel_rfl)) ad bf (fun x af=>bd x (by simp[af])) (fun x af=>qG x (by simp[af]))) trodAll_mk0)))) (fun _ _=>rfl) (by simp) bf
theorem proved:Rows.TreeFailsSaid:=
  OpenClaim.holds_of_wide 10 Tryz.f10 rfl rfl rfl rfl rfl rfl rfl ⟨rfl,rfl,rfl,rfl,rfl⟩ rfl rfl rfl rfl rfl (by kernel_rfl) Tryz.func10 (by kernel_rfl)
    (of_decide_eq_true (by kernel_rfl)) (by unfold Func.isWrapper;first|(rw[if_pos (by decide+kernel)];kernel_rfl)|(rw[if_neg (by decide+kernel)];exact ⟨rfl,rfl⟩))
    (fun os started H enc _=>lifted os started H enc)
end Go.Proofs.YtplieiecebljmaaGreat.treeFails
