/- The statement SweepAllSaid: the law returns true for every input and leaves it as it was. -/
import Derived.Test.YtcmgnhkpfllinaaGreatRows
import Derived.Test.YtcmgnhkpfllinaaGreatBSAll6
import Derived.WalkKit
import Derived.ProofKit
import Derived.OpenShut
namespace Go.Proofs.YtcmgnhkpfllinaaGreat.sweepAll
open Go aQ Go.ChangeShapes Go.WideShapes Go.ChangeAt Go.RowKit
theorem own:ownKnob Tryz.prog.godebug=none:=by kernel_rfl
theorem laid:laidOutB Tryz.prog=true:=by kernel_rfl
set_option maxRecDepth 100000 in
theorem contract (v0 v1 v2:Value) (w:World) (h0:j_ Tryz.prog w 5 v0) (h1:j_ Tryz.prog w 22 v1) (h2:j_ Tryz.prog w 25 v2):aI Tryz.prog 6 #[v0,v1,v2] w (fun v w1=>v= .bool true∧Ext w w1):=by
  obtain⟨a0,rfl,KC,zK⟩:=EI.of h0 Tryz.underlying5
  have:=AK KC zK;obtain⟨a,rfl⟩:∃a:Nat,a0=(a:Int):=⟨a0.toNat,by omega⟩;obtain⟨l,L,rfl,cU,hu⟩:=KB.of h1;obtain⟨X,rfl⟩:=mL.of h2;exact KA (by omega) cU hu _ _ _
set_option maxRecDepth 100000 in
theorem lifted (os:Os) (started:os.Started) (H:Type) (enc:TypeId×Value→H):
    ReturnsInHanded {} Tryz.checked os 6 .any (Rows.sweepAllSpec.pre6 enc Tryz.prog Tryz.f6 Rows.sweepAllRow.domain false) (Rows.sweepAllSpec.post enc Tryz.prog Tryz.f6 false true false false):=by
  refine returnsInHanded_of_change (C:=Tryz.checked) own started (by kernel_rfl) Tryz.func6
    (ChangeSpec.witness6 (enc:=enc) (C:=Tryz.checked) false ⟨#[], #[.int .u8 0, .slice none 0 0, .agg #[.int .i64 0, .int .u64 0, .bool false]],[]⟩ 8 (by kernel_rfl) (by kernel_rfl) (by kernel_rfl) (by kernel_rfl)) ?_
  intro W base args ds gs before D4 cx KJ _
  have iO:∀ (j:Nat) t v,Tryz.f6.params[j]? =some t→args[j]? =some v→Value.okWide Tryz.prog W .any base t v:=D4
  have zL:=cx
  obtain⟨p,q,D5,gd,rfl,qT,ej⟩:=cx
  have ar:DataW.TrodAll enc Tryz.prog W 0 (fun _=>true) true Tryz.f6.params.toList args.toList ds p:=D5
  rw[Tryz.params6] at ar iO
  obtain⟨v0,KK,d0,KL,aM,kP,tL,rfl,rfl,h0,zK⟩:=trodAll_cons ar
  obtain⟨v1,yK,d1,KM,bk,hW,rfl,rfl,rfl,h1,r1⟩:=trodAll_cons zK
  obtain⟨v2,yL,d2,KN,bf,eo,rfl,rfl,rfl,h2,aG⟩:=trodAll_cons r1
  obtain⟨rfl,rfl,rfl⟩:=trodAll_nil aG
  obtain rfl:args= #[v0,v1,v2]:=by cases args;simp_all
  obtain⟨rfl,rfl⟩:=trodVars_none gd
  have sI:=xm (iO 0 5 v0 rfl rfl) h0
  have aw:=xm (iO 1 22 v1 rfl rfl) h1
  have ay:=xm (iO 2 25 v2 rfl rfl) h2
  clear D5 D4
  simp only[List.append_nil] at zL
  have aH:=fun x hx=>zL.lt x hx
  refine(contract v0 v1 v2 W sI aw ay).mono fun v W' ⟨he,hg⟩=>?_
  subst he
  exact EH (pa:=_) (eY:=[]) zL Tryz.underlying4 rfl rfl (fun sp iw=>(trodAll_cons_mk (xn laid (by kernel_rfl) (of_decide_eq_true (by kernel_rfl)) h0 hg (fun x hx=>aH x (by simp[hx])) (fun x hx=>iw x (by simp[hx]))) (trodAll_cons_mk (xn laid (by kernel_rfl) (of_decide_eq_true (by kernel_rfl)) h1 hg (fun x hx=>aH x (by simp[hx])) (fun x hx=>iw x (by simp[hx]))) (trodAll_cons_mk (xn laid (by kernel_rfl) (of_decide_eq_true (by kernel_rfl)) h2 hg (fun x hx=>aH x (by simp[hx])) (fun x hx=>iw x (by simp[hx]))) trodAll_mk0)))) (fun _ _=>rfl) (by simp) hg
theorem both {a b:Bool} (h:a=true) (k:b=true):(a&&b)=true:=by rw[h,k];rfl
theorem called:Tryz.pinned.checked.prog.funcNamed Rows.sweepAllRow.func=some 6:=by kernel_rfl
theorem part2:mapsRowed Tryz.prog=true:=by kernel_rfl
theorem part4:namedTie Tryz.prog Rows.sweepAllRow.named Rows.sweepAllSpec.vars=true:=by kernel_rfl
theorem part9:(Rows.sweepAllRow.inPlace==Tryz.prog.inPlace 6)=true:=by kernel_rfl
theorem part10:(Rows.sweepAllRow.unfollowed==Tryz.prog.unfollowed 6)=true:=by kernel_rfl
theorem part11:(Rows.sweepAllRow.recurses==Tryz.prog.recurses 6)=true:=by kernel_rfl
theorem part12:(Rows.sweepAllRow.named==Tryz.prog.varsNamed 6)=true:=by kernel_rfl
theorem part22:(Rows.sweepAllRow.plainKeys==Tryz.prog.plainKeys)=true:=by kernel_rfl
theorem part24:Tryz.prog.stopsHeard=true:=by kernel_rfl
theorem part25:Tryz.prog.mayEnter=true:=by kernel_rfl
theorem part26:(Rows.sweepAllRow.lifted==Tryz.prog.liftsFinal)=true:=by kernel_rfl
theorem closed:joinedFacts Tryz.prog 6 Tryz.f6 Rows.sweepAllSpec Rows.sweepAllRow=true:=by
  unfold joinedFacts
  exact(both (both (both (both (both (both (both (both (both (both (both (both (both (both (both (both (both (both (both (both (both (both (both (both (both (both (both (both (both (both (both (by kernel_rfl) laid) part2) (by kernel_rfl)) part4) (by kernel_rfl)) (by kernel_rfl)) (by kernel_rfl)) (by kernel_rfl)) part9) part10) part11) part12) (by kernel_rfl)) (by kernel_rfl)) (by kernel_rfl)) (by kernel_rfl)) (by kernel_rfl)) (by kernel_rfl)) (by kernel_rfl)) (by kernel_rfl)) (by kernel_rfl)) part22) (by kernel_rfl)) part24) part25) part26) (by kernel_rfl)) (by kernel_rfl)) (by kernel_rfl)) (by kernel_rfl)) (by kernel_rfl))
theorem proved:Rows.SweepAllSaid:=
  OpenClaim.holds_of_wide 6 Tryz.f6 rfl rfl rfl rfl rfl rfl rfl ⟨rfl,rfl,rfl,rfl,rfl⟩ rfl rfl rfl rfl rfl called Tryz.func6 closed
    (of_decide_eq_true (by kernel_rfl)) (by unfold Func.isWrapper;first|(rw[if_pos (by decide+kernel)];kernel_rfl)|(rw[if_neg (by decide+kernel)];exact⟨rfl,rfl⟩))
    (fun os started H enc _=>lifted os started H enc)
end Go.Proofs.YtcmgnhkpfllinaaGreat.sweepAll
