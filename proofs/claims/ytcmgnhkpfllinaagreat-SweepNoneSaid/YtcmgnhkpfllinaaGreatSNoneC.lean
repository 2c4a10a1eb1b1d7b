/- The statement SweepNoneSaid: the law returns true for every input and leaves it as it was. -/
import Derived.Test.YtcmgnhkpfllinaaGreatRows
import Derived.Test.YtcmgnhkpfllinaaGreatBSNone6
import Derived.WalkKit
import Derived.ProofKit
import Derived.OpenShut
namespace Go.Proofs.YtcmgnhkpfllinaaGreat.sweepNone
open Go aP Go.ChangeShapes Go.WideShapes Go.ChangeAt Go.RowKit
theorem own:ownKnob Tryz.prog.godebug=none:=by kernel_rfl
theorem laid:laidOutB Tryz.prog=true:=by kernel_rfl
set_option maxRecDepth 100000 in
theorem contract (v0:Value) (w:World) (h0:qE Tryz.prog w 23 v0):aJ Tryz.prog 5 #[v0] w (fun v w1=>v= .bool true∧Ext w w1):=by
  obtain⟨a0,rfl,Ie,Cc⟩:=CT.of h0 Tryz.underlying23
  exact H6 a0 _
set_option maxRecDepth 100000 in
theorem lifted (os:Os) (started:os.Started) (H:Type) (enc:TypeId×Value→H):
    ReturnsInHanded {} Tryz.checked os 5 .any (Rows.sweepNoneSpec.pre6 enc Tryz.prog Tryz.f5 Rows.sweepNoneRow.domain false) (Rows.sweepNoneSpec.post enc Tryz.prog Tryz.f5 false true false false):=by
  refine returnsInHanded_of_change (C:=Tryz.checked) own started (by kernel_rfl) Tryz.func5
    (ChangeSpec.witness6 (enc:=enc) (C:=Tryz.checked) false ⟨#[], #[.int .u64 0],[]⟩ 8 (by kernel_rfl) (by kernel_rfl) (by kernel_rfl) (by kernel_rfl)) ?_
  intro W base args ds gs before Cd cp Ig _
  have jR:∀ (j:Nat) t v,Tryz.f5.params[j]? =some t→args[j]? =some v→Value.okWide Tryz.prog W .any base t v:=Cd
  have ya:=cp
  obtain⟨p,q,Ce,fJ,rfl,pR,dM⟩:=cp
  have ar:DataW.TrodAll enc Tryz.prog W 0 (fun _=>true) true Tryz.f5.params.toList args.toList ds p:=Ce
  rw[Tryz.params5] at ar jR
  obtain⟨v0,Ih,d0,Ii,aK,j2,sA,rfl,rfl,h0,Cc⟩:=trodAll_cons ar
  obtain⟨rfl,rfl,rfl⟩:=trodAll_nil Cc
  obtain rfl:args= #[v0]:=by cases args;simp_all
  obtain⟨rfl,rfl⟩:=trodVars_none fJ
  have rz:=CQ (jR 0 23 v0 rfl rfl) h0
  clear Ce Cd
  simp only[List.append_nil] at ya
  have aH:=fun x hx=>ya.lt x hx
  refine(contract v0 W rz).mono fun v W' ⟨he,hg⟩=>?_
  subst he
  exact CR (pa:=_) (eI:=[]) ya Tryz.underlying4 rfl rfl (fun sp iq=>(trodAll_cons_mk (CS laid (by kernel_rfl) (of_decide_eq_true (by kernel_rfl)) h0 hg (fun x hx=>aH x (by simp[hx])) (fun x hx=>iq x (by simp[hx]))) trodAll_mk0)) (fun _ _=>rfl) (by simp) hg
theorem both {a b:Bool} (h:a=true) (k:b=true):(a&&b)=true:=by rw[h,k];rfl
theorem called:Tryz.pinned.checked.prog.funcNamed Rows.sweepNoneRow.func=some 5:=by kernel_rfl
theorem part2:mapsRowed Tryz.prog=true:=by kernel_rfl
theorem part4:namedTie Tryz.prog Rows.sweepNoneRow.named Rows.sweepNoneSpec.vars=true:=by kernel_rfl
theorem part9:(Rows.sweepNoneRow.inPlace==Tryz.prog.inPlace 5)=true:=by kernel_rfl
theorem part10:(Rows.sweepNoneRow.unfollowed==Tryz.prog.unfollowed 5)=true:=by kernel_rfl
theorem part11:(Rows.sweepNoneRow.recurses==Tryz.prog.recurses 5)=true:=by kernel_rfl
theorem part12:(Rows.sweepNoneRow.named==Tryz.prog.varsNamed 5)=true:=by kernel_rfl
theorem part22:(Rows.sweepNoneRow.plainKeys==Tryz.prog.plainKeys)=true:=by kernel_rfl
theorem part24:Tryz.prog.stopsHeard=true:=by kernel_rfl
theorem part25:Tryz.prog.mayEnter=true:=by kernel_rfl
theorem part26:(Rows.sweepNoneRow.lifted==Tryz.prog.liftsFinal)=true:=by kernel_rfl
theorem closed:joinedFacts Tryz.prog 5 Tryz.f5 Rows.sweepNoneSpec Rows.sweepNoneRow=true:=by
  unfold joinedFacts
  exact(both (both (both (both (both (both (both (both (both (both (both (both (both (both (both (both (both (both (both (both (both (both (both (both (both (both (both (both (both (both (both (by kernel_rfl) laid) part2) (by kernel_rfl)) part4) (by kernel_rfl)) (by kernel_rfl)) (by kernel_rfl)) (by kernel_rfl)) part9) part10) part11) part12) (by kernel_rfl)) (by kernel_rfl)) (by kernel_rfl)) (by kernel_rfl)) (by kernel_rfl)) (by kernel_rfl)) (by kernel_rfl)) (by kernel_rfl)) (by kernel_rfl)) part22) (by kernel_rfl)) part24) part25) part26) (by kernel_rfl)) (by kernel_rfl)) (by kernel_rfl)) (by kernel_rfl)) (by kernel_rfl))
theorem proved:Rows.SweepNoneSaid:=
  OpenClaim.holds_of_wide 5 Tryz.f5 rfl rfl rfl rfl rfl rfl rfl ⟨rfl,rfl,rfl,rfl,rfl⟩ rfl rfl rfl rfl rfl called Tryz.func5 closed
    (of_decide_eq_true (by kernel_rfl)) (by unfold Func.isWrapper;first|(rw[if_pos (by decide+kernel)];kernel_rfl)|(rw[if_neg (by decide+kernel)];exact⟨rfl,rfl⟩))
    (fun os started H enc _=>lifted os started H enc)
end Go.Proofs.YtcmgnhkpfllinaaGreat.sweepNone
