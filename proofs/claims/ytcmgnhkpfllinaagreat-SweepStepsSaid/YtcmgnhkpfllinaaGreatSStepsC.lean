/- The statement SweepStepsSaid: the law returns true for every input and leaves it as it was. -/
import Derived.Test.YtcmgnhkpfllinaaGreatRows
import Derived.Test.YtcmgnhkpfllinaaGreatBSSteps6
import Derived.WalkKit
import Derived.ProofKit
import Derived.OpenShut
namespace Go.Proofs.YtcmgnhkpfllinaaGreat.sweepSteps
open Go aQ Go.ChangeShapes Go.WideShapes Go.ChangeAt Go.RowKit
theorem own:ownKnob Tryz.prog.godebug=none:=by kernel_rfl
theorem laid:laidOutB Tryz.prog=true:=by kernel_rfl
set_option maxRecDepth 100000 in
theorem contract (v0 v1 v2:Value) (w:World) (h0:k8 Tryz.prog w 5 v0) (h1:k8 Tryz.prog w 22 v1) (h2:k8 Tryz.prog w 43 v2):aI Tryz.prog 4 #[v0,v1,v2] w (fun v w1=>v= .bool true∧Ext w w1):=by
  obtain⟨a0,rfl,KF,zL⟩:=ES.of h0 Tryz.underlying5
  have:=AL KF zL;obtain⟨a,rfl⟩:∃a:Nat,a0=(a:Int):=⟨a0.toNat,by omega⟩;obtain⟨l,L,rfl,cW,hu⟩:=KD.of h1;obtain⟨l',mu,rfl,ar⟩:=KE.of h2;exact KC (by omega) cW hu ar
set_option maxRecDepth 100000 in
theorem lifted (os:Os) (started:os.Started) (H:Type) (enc:TypeId×Value→H):
    ReturnsInHanded {} Tryz.checked os 4 .any (Rows.sweepStepsSpec.pre6 enc Tryz.prog Tryz.f4 Rows.sweepStepsRow.domain false) (Rows.sweepStepsSpec.post enc Tryz.prog Tryz.f4 false true false false):=by
  refine returnsInHanded_of_change (C:=Tryz.checked) own started (by kernel_rfl) Tryz.func4
    (ChangeSpec.witness6 (enc:=enc) (C:=Tryz.checked) false ⟨#[], #[.int .u8 0, .slice none 0 0, .slice none 0 0],[]⟩ 8 (by kernel_rfl) (by kernel_rfl) (by kernel_rfl) (by kernel_rfl)) ?_
  intro W base args ds gs before Ea cA KM _
  have jH:∀ (j:Nat) t v,Tryz.f4.params[j]? =some t→args[j]? =some v→Value.okWide Tryz.prog W .any base t v:=Ea
  have zM:=cA
  obtain⟨p,q,Eb,gl,rfl,qV,eo⟩:=cA
  have ar:DataW.TrodAll enc Tryz.prog W 0 (fun _=>true) true Tryz.f4.params.toList args.toList ds p:=Eb
  rw[Tryz.params4] at ar jH
  obtain⟨v0,KN,d0,KO,aP,kS,tM,rfl,rfl,h0,zL⟩:=trodAll_cons ar
  obtain⟨v1,yN,d1,KP,bl,hX,rfl,rfl,rfl,h1,r1⟩:=trodAll_cons zL
  obtain⟨v2,yO,d2,KQ,bf,ey,rfl,rfl,rfl,h2,aG⟩:=trodAll_cons r1
  obtain⟨rfl,rfl,rfl⟩:=trodAll_nil aG
  obtain rfl:args= #[v0,v1,v2]:=by cases args;simp_all
  obtain⟨rfl,rfl⟩:=trodVars_none gl
  have sJ:=xu (jH 0 5 v0 rfl rfl) h0
  have aw:=xu (jH 1 22 v1 rfl rfl) h1
  have ay:=xu (jH 2 43 v2 rfl rfl) h2
  clear Eb Ea
  simp only[List.append_nil] at zM
  have aH:=fun x hx=>zM.lt x hx
  refine(contract v0 v1 v2 W sJ aw ay).mono fun v W' ⟨he,hg⟩=>?_
  subst he
  exact EO (pa:=_) (e1:=[]) zM Tryz.underlying4 rfl rfl (fun sp iu=>(trodAll_cons_mk (xv laid (by kernel_rfl) (of_decide_eq_true (by kernel_rfl)) h0 hg (fun x hx=>aH x (by simp[hx])) (fun x hx=>iu x (by simp[hx]))) (trodAll_cons_mk (xv laid (by kernel_rfl) (of_decide_eq_true (by kernel_rfl)) h1 hg (fun x hx=>aH x (by simp[hx])) (fun x hx=>iu x (by simp[hx]))) (trodAll_cons_mk (xv laid (by kernel_rfl) (of_decide_eq_true (by kernel_rfl)) h2 hg (fun x hx=>aH x (by simp[hx])) (fun x hx=>iu x (by simp[hx]))) trodAll_mk0)))) (fun _ _=>rfl) (by simp) hg
theorem both {a b:Bool} (h:a=true) (k:b=true):(a&&b)=true:=by rw[h,k];rfl
theorem called:Tryz.pinned.checked.prog.funcNamed Rows.sweepStepsRow.func=some 4:=by kernel_rfl
theorem part2:mapsRowed Tryz.prog=true:=by kernel_rfl
theorem part4:namedTie Tryz.prog Rows.sweepStepsRow.named Rows.sweepStepsSpec.vars=true:=by kernel_rfl
theorem part9:(Rows.sweepStepsRow.inPlace==Tryz.prog.inPlace 4)=true:=by kernel_rfl
theorem part10:(Rows.sweepStepsRow.unfollowed==Tryz.prog.unfollowed 4)=true:=by kernel_rfl
theorem part11:(Rows.sweepStepsRow.recurses==Tryz.prog.recurses 4)=true:=by kernel_rfl
theorem part12:(Rows.sweepStepsRow.named==Tryz.prog.varsNamed 4)=true:=by kernel_rfl
theorem part22:(Rows.sweepStepsRow.plainKeys==Tryz.prog.plainKeys)=true:=by kernel_rfl
theorem part24:Tryz.prog.stopsHeard=true:=by kernel_rfl
theorem part25:Tryz.prog.mayEnter=true:=by kernel_rfl
theorem part26:(Rows.sweepStepsRow.lifted==Tryz.prog.liftsFinal)=true:=by kernel_rfl
theorem closed:joinedFacts Tryz.prog 4 Tryz.f4 Rows.sweepStepsSpec Rows.sweepStepsRow=true:=by
  unfold joinedFacts
  exact(both (both (both (both (both (both (both (both (both (both (both (both (both (both (both (both (both (both (both (both (both (both (both (both (both (both (both (both (both (both (both (by kernel_rfl) laid) part2) (by kernel_rfl)) part4) (by kernel_rfl)) (by kernel_rfl)) (by kernel_rfl)) (by kernel_rfl)) part9) part10) part11) part12) (by kernel_rfl)) (by kernel_rfl)) (by kernel_rfl)) (by kernel_rfl)) (by kernel_rfl)) (by kernel_rfl)) (by kernel_rfl)) (by kernel_rfl)) (by kernel_rfl)) part22) (by kernel_rfl)) part24) part25) part26) (by kernel_rfl)) (by kernel_rfl)) (by kernel_rfl)) (by kernel_rfl)) (by kernel_rfl))
theorem proved:Rows.SweepStepsSaid:=
  OpenClaim.holds_of_wide 4 Tryz.f4 rfl rfl rfl rfl rfl rfl rfl ⟨rfl,rfl,rfl,rfl,rfl⟩ rfl rfl rfl rfl rfl called Tryz.func4 closed
    (of_decide_eq_true (by kernel_rfl)) (by unfold Func.isWrapper;first|(rw[if_pos (by decide+kernel)];kernel_rfl)|(rw[if_neg (by decide+kernel)];exact⟨rfl,rfl⟩))
    (fun os started H enc _=>lifted os started H enc)
end Go.Proofs.YtcmgnhkpfllinaaGreat.sweepSteps
