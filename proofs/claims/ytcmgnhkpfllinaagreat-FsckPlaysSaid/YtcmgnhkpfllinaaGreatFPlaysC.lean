/- The statement FsckPlaysSaid: the law returns true for every input and leaves it as it was. -/
import Derived.Test.YtcmgnhkpfllinaaGreatRows
import Derived.Test.YtcmgnhkpfllinaaGreatBFPlays7
import Derived.WalkKit
import Derived.ProofKit
import Derived.OpenShut
namespace Go.Proofs.YtcmgnhkpfllinaaGreat.fsckPlays
open Go aU Go.ChangeShapes Go.WideShapes Go.ChangeAt Go.RowKit
theorem own:ownKnob Tryz.prog.godebug=none:=by kernel_rfl
theorem laid:laidOutB Tryz.prog=true:=by kernel_rfl
set_option maxRecDepth 100000 in
theorem contract (v0 v1:Value) (w:World) (h0:nd Tryz.prog w 60 v0) (h1:nd Tryz.prog w 62 v1):aI Tryz.prog 7 #[v0,v1] w (fun v w1=>v= .bool true∧Ext w w1):=by
  obtain⟨i,a,c,rfl⟩:=L6.of h1;obtain⟨l,A,rfl,ak⟩:=lN.of h0;exact L9 ak
set_option maxRecDepth 100000 in
theorem lifted (os:Os) (started:os.Started) (H:Type) (enc:TypeId×Value→H):
    ReturnsInHanded {} Tryz.checked os 7 .any (Rows.fsckPlaysSpec.pre6 enc Tryz.prog Tryz.f7 Rows.fsckPlaysRow.domain false) (Rows.fsckPlaysSpec.post enc Tryz.prog Tryz.f7 false true false false):=by
  refine returnsInHanded_of_change (C:=Tryz.checked) own started U3 Tryz.func7
    (ChangeSpec.witness6 (enc:=enc) (C:=Tryz.checked) false ⟨#[], #[.slice none 0 0, .agg #[.int .i64 0, .int .i64 0, .int .u8 0]],[]⟩ 8 U3 U3 U3 U3) ?_
  intro W base args ds gs before FI cz Mj _
  have jz:∀ (j:Nat) t v,Tryz.f7.params[j]? =some t→args[j]? =some v→Value.okWide Tryz.prog W .any base t v:=FI
  have A9:=cz
  obtain⟨p,q,uB,eG,rfl,rT,cO⟩:=cz
  have ak:DataW.TrodAll enc Tryz.prog W 0 (fun _=>true) true Tryz.f7.params.toList args.toList ds p:=uB
  rw[Tryz.params7] at ak jz
  obtain⟨v0,Mk,d0,Ml,bc,ug,vc,rfl,rfl,h0,FH⟩:=trodAll_cons ak
  obtain⟨v1,zM,d1,Mm,bm,gA,rfl,rfl,rfl,h1,r1⟩:=trodAll_cons FH
  obtain⟨rfl,rfl,rfl⟩:=trodAll_nil r1
  obtain rfl:args= #[v0,v1]:=by cases args;simp_all
  obtain⟨rfl,rfl⟩:=trodVars_none eG
  have hK:=B0 (jz 0 60 v0 rfl rfl) h0
  have ao:=B0 (jz 1 62 v1 rfl rfl) h1
  clear uB FI
  simp only[List.append_nil] at A9
  have aB:=fun x hx=>A9.lt x hx
  refine(contract v0 v1 W hK ao).mono fun v W' ⟨he,hg⟩=>?_
  subst he
  exact Gk (pa:=_) (fj:=[]) A9 Tryz.underlying4 rfl rfl (fun sp fp=>(trodAll_cons_mk (B2 laid U3 (of_decide_eq_true U3) h0 hg (fun x hx=>aB x (by simp[hx])) (fun x hx=>fp x (by simp[hx]))) (trodAll_cons_mk (B2 laid U3 (of_decide_eq_true U3) h1 hg (fun x hx=>aB x (by simp[hx])) (fun x hx=>fp x (by simp[hx]))) trodAll_mk0))) (fun _ _=>rfl) (by simp) hg
theorem both {a b:Bool} (h:a=true) (k:b=true):(a&&b)=true:=by rw[h,k];rfl
theorem called:Tryz.pinned.checked.prog.funcNamed Rows.fsckPlaysRow.func=some 7:=by kernel_rfl
theorem part2:mapsRowed Tryz.prog=true:=by kernel_rfl
theorem part4:namedTie Tryz.prog Rows.fsckPlaysRow.named Rows.fsckPlaysSpec.vars=true:=by kernel_rfl
theorem part9:(Rows.fsckPlaysRow.inPlace==Tryz.prog.inPlace 7)=true:=by kernel_rfl
theorem part10:(Rows.fsckPlaysRow.unfollowed==Tryz.prog.unfollowed 7)=true:=by kernel_rfl
theorem part11:(Rows.fsckPlaysRow.recurses==Tryz.prog.recurses 7)=true:=by kernel_rfl
theorem part12:(Rows.fsckPlaysRow.named==Tryz.prog.varsNamed 7)=true:=by kernel_rfl
theorem part22:(Rows.fsckPlaysRow.plainKeys==Tryz.prog.plainKeys)=true:=by kernel_rfl
theorem part24:Tryz.prog.stopsHeard=true:=by kernel_rfl
theorem part25:Tryz.prog.mayEnter=true:=by kernel_rfl
theorem part26:(Rows.fsckPlaysRow.lifted==Tryz.prog.liftsFinal)=true:=by kernel_rfl
theorem closed:joinedFacts Tryz.prog 7 Tryz.f7 Rows.fsckPlaysSpec Rows.fsckPlaysRow=true:=by
  unfold joinedFacts
  exact(both (both (both (both (both (both (both (both (both (both (both (both (both (both (both (both (both (both (both (both (both (both (both (both (both (both (both (both (both (both (both U3 laid) part2) U3) part4) U3) U3) U3) U3) part9) part10) part11) part12) U3) U3) U3) U3) U3) U3) U3) U3) U3) part22) U3) part24) part25) part26) U3) U3) U3) U3) U3)
theorem proved:Rows.FsckPlaysSaid:=
  OpenClaim.holds_of_wide 7 Tryz.f7 rfl rfl rfl rfl rfl rfl rfl ⟨rfl,rfl,rfl,rfl,rfl⟩ rfl rfl rfl rfl rfl called Tryz.func7 closed
    (of_decide_eq_true U3) (by unfold Func.isWrapper;first|(rw[if_pos (by decide+kernel)];kernel_rfl)|(rw[if_neg (by decide+kernel)];exact⟨rfl,rfl⟩))
    (fun os started H enc _=>lifted os started H enc)
end Go.Proofs.YtcmgnhkpfllinaaGreat.fsckPlays
