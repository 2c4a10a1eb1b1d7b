/- The statement AffinLastsSaid: the law returns true for every input and leaves it as it was. -/
import Derived.Test.YtcmgnhkpfllinaaGreatRows
import Derived.Test.YtcmgnhkpfllinaaGreatBALasts7
import Derived.WalkKit
import Derived.ProofKit
import Derived.OpenShut
namespace Go.Proofs.YtcmgnhkpfllinaaGreat.affinLasts
open Go aS Go.ChangeShapes Go.WideShapes Go.ChangeAt Go.RowKit
theorem own:ownKnob Tryz.prog.godebug=none:=by kernel_rfl
theorem laid:laidOutB Tryz.prog=true:=by kernel_rfl
set_option maxRecDepth 100000 in
theorem contract (v0 v1 v2:Value) (w:World) (h0:mD Tryz.prog w 5 v0) (h1:mD Tryz.prog w 5 v1) (h2:mD Tryz.prog w 97 v2):aH Tryz.prog 8 #[v0,v1,v2] w (fun v w1=>v= .bool true∧Ext w w1):=by
  obtain⟨a0,rfl,NR,B9⟩:=C2.of h0 Tryz.underlying5
  obtain⟨a1,rfl,jq,r1⟩:=C2.of h1 Tryz.underlying5
  have:=vG NR B9;have:=vG jq r1;obtain⟨a,rfl⟩:∃a:Nat,a0=(a:Int):=⟨a0.toNat,by omega⟩;obtain⟨b,rfl⟩:∃b:Nat,a1=(b:Int):=⟨a1.toNat,by omega⟩;obtain⟨l,A,rfl,av⟩:=ml.of h2;exact NQ (by omega) (by omega) av
set_option maxRecDepth 100000 in
theorem lifted (os:Os) (started:os.Started) (H:Type) (enc:TypeId×Value→H):
    ReturnsInHanded {} Tryz.checked os 8 .any (Rows.affinLastsSpec.pre6 enc Tryz.prog Tryz.f8 Rows.affinLastsRow.domain false) (Rows.affinLastsSpec.post enc Tryz.prog Tryz.f8 false true false false):=by
  refine returnsInHanded_of_change (C:=Tryz.checked) own started U3 Tryz.func8
    (ChangeSpec.witness6 (enc:=enc) (C:=Tryz.checked) false ⟨#[], #[.int .u8 0, .int .u8 0, .slice none 0 0],[]⟩ 8 U3 U3 U3 U3) ?_
  intro W base args ds gs before GQ cv NY _
  have ih:∀ (j:Nat) t v,Tryz.f8.params[j]? =some t→args[j]? =some v→Value.okWide Tryz.prog W .any base t v:=GQ
  have B_:=cv
  obtain⟨p,q,uR,eN,rfl,sg,dd⟩:=cv
  have av:DataW.TrodAll enc Tryz.prog W 0 (fun _=>true) true Tryz.f8.params.toList args.toList ds p:=uR
  rw[Tryz.params8] at av ih
  obtain⟨v0,NZ,d0,N0,aL,lN,vF,rfl,rfl,h0,B9⟩:=trodAll_cons av
  obtain⟨v1,A2,d1,N1,bh,iN,rfl,rfl,rfl,h1,r1⟩:=trodAll_cons B9
  obtain⟨v2,A3,d2,N2,bj,eM,rfl,rfl,rfl,h2,cq⟩:=trodAll_cons r1
  obtain⟨rfl,rfl,rfl⟩:=trodAll_nil cq
  obtain rfl:args= #[v0,v1,v2]:=by cases args;simp_all
  obtain⟨rfl,rfl⟩:=trodVars_none eN
  have lJ:=zt (ih 0 5 v0 rfl rfl) h0
  have ay:=zt (ih 1 5 v1 rfl rfl) h1
  have az:=zt (ih 2 97 v2 rfl rfl) h2
  clear uR GQ
  simp only[List.append_nil] at B_
  have aI:=fun x hx=>B_.lt x hx
  refine(contract v0 v1 v2 W lJ ay az).mono fun v W' ⟨he,hg⟩=>?_
  subst he
  exact Hs (pa:=_) (fj:=[]) B_ Tryz.underlying4 rfl rfl (fun sp gx=>(trodAll_cons_mk (zu laid U3 (of_decide_eq_true U3) h0 hg (fun x hx=>aI x (by simp[hx])) (fun x hx=>gx x (by simp[hx]))) (trodAll_cons_mk (zu laid U3 (of_decide_eq_true U3) h1 hg (fun x hx=>aI x (by simp[hx])) (fun x hx=>gx x (by simp[hx]))) (trodAll_cons_mk (zu laid U3 (of_decide_eq_true U3) h2 hg (fun x hx=>aI x (by simp[hx])) (fun x hx=>gx x (by simp[hx]))) trodAll_mk0)))) (fun _ _=>rfl) (by simp) hg
theorem both {a b:Bool} (h:a=true) (k:b=true):(a&&b)=true:=by rw[h,k];rfl
theorem called:Tryz.pinned.checked.prog.funcNamed Rows.affinLastsRow.func=some 8:=by kernel_rfl
theorem part2:mapsRowed Tryz.prog=true:=by kernel_rfl
theorem part4:namedTie Tryz.prog Rows.affinLastsRow.named Rows.affinLastsSpec.vars=true:=by kernel_rfl
theorem part9:(Rows.affinLastsRow.inPlace==Tryz.prog.inPlace 8)=true:=by kernel_rfl
theorem part10:(Rows.affinLastsRow.unfollowed==Tryz.prog.unfollowed 8)=true:=by kernel_rfl
theorem part11:(Rows.affinLastsRow.recurses==Tryz.prog.recurses 8)=true:=by kernel_rfl
theorem part12:(Rows.affinLastsRow.named==Tryz.prog.varsNamed 8)=true:=by kernel_rfl
theorem part22:(Rows.affinLastsRow.plainKeys==Tryz.prog.plainKeys)=true:=by kernel_rfl
theorem part24:Tryz.prog.stopsHeard=true:=by kernel_rfl
theorem part25:Tryz.prog.mayEnter=true:=by kernel_rfl
theorem part26:(Rows.affinLastsRow.lifted==Tryz.prog.liftsFinal)=true:=by kernel_rfl
theorem closed:joinedFacts Tryz.prog 8 Tryz.f8 Rows.affinLastsSpec Rows.affinLastsRow=true:=by
  unfold joinedFacts
  exact(both (both (both (both (both (both (both (both (both (both (both (both (both (both (both (both (both (both (both (both (both (both (both (both (both (both (both (both (both (both (both U3 laid) part2) U3) part4) U3) U3) U3) U3) part9) part10) part11) part12) U3) U3) U3) U3) U3) U3) U3) U3) U3) part22) U3) part24) part25) part26) U3) U3) U3) U3) U3)
theorem proved:Rows.AffinLastsSaid:=
  OpenClaim.holds_of_wide 8 Tryz.f8 rfl rfl rfl rfl rfl rfl rfl ⟨rfl,rfl,rfl,rfl,rfl⟩ rfl rfl rfl rfl rfl called Tryz.func8 closed
    (of_decide_eq_true U3) (by unfold Func.isWrapper;first|(rw[if_pos (by decide+kernel)];kernel_rfl)|(rw[if_neg (by decide+kernel)];exact⟨rfl,rfl⟩))
    (fun os started H enc _=>lifted os started H enc)
end Go.Proofs.YtcmgnhkpfllinaaGreat.affinLasts
