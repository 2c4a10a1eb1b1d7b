/- The statement AffinPlaysSaid: the law returns true for every input and leaves it as it was. -/
import Derived.Test.YtkdhdlfonmgheaaGreatRows
import Derived.Test.YtkdhdlfonmgheaaGreatBAPlays7
import Derived.WalkKit
import Derived.ProofKit
import Derived.OpenShut
namespace Go.Proofs.YtkdhdlfonmgheaaGreat.affinPlays
open Go aS Go.ChangeShapes Go.WideShapes Go.ChangeAt Go.RowKit
theorem own:ownKnob Tryz.prog.godebug=none:=by kernel_rfl
theorem laid:laidOutB Tryz.prog=true:=by kernel_rfl
set_option maxRecDepth 100000 in
theorem contract (v0 v1 v2:Value) (w:World) (h0:lZ Tryz.prog w 5 v0) (h1:lZ Tryz.prog w 5 v1) (h2:lZ Tryz.prog w 75 v2):aK Tryz.prog 6 #[v0,v1,v2] w (fun v w1=>v= .bool true∧Ext w w1):=by
  obtain⟨a0,rfl,Lk,As⟩:=Bn.of h0 Tryz.underlying5
  obtain⟨a1,rfl,iS,r1⟩:=Bn.of h1 Tryz.underlying5
  have:=uC Lk As;have:=uC iS r1;obtain⟨a,rfl⟩:∃a:Nat,a0=(a:Int):=⟨a0.toNat,by omega⟩;obtain⟨b,rfl⟩:∃b:Nat,a1=(b:Int):=⟨a1.toNat,by omega⟩;obtain⟨l,A,rfl,aq⟩:=lS.of h2;exact Lj (by omega) (by omega) aq
set_option maxRecDepth 100000 in
theorem lifted (os:Os) (started:os.Started) (H:Type) (enc:TypeId×Value→H):
    ReturnsInHanded {} Tryz.checked os 6 .any (Rows.affinPlaysSpec.pre6 enc Tryz.prog Tryz.f6 Rows.affinPlaysRow.domain false) (Rows.affinPlaysSpec.post enc Tryz.prog Tryz.f6 false true false false):=by
  refine returnsInHanded_of_change (C:=Tryz.checked) own started (by kernel_rfl) Tryz.func6
    (ChangeSpec.witness6 (enc:=enc) (C:=Tryz.checked) false ⟨#[], #[.int .u8 0, .int .u8 0, .slice none 0 0],[]⟩ 8 (by kernel_rfl) (by kernel_rfl) (by kernel_rfl) (by kernel_rfl)) ?_
  intro W base args ds gs before ER cK Lr _
  have jk:∀ (j:Nat) t v,Tryz.f6.params[j]? =some t→args[j]? =some v→Value.okWide Tryz.prog W .any base t v:=ER
  have Au:=cK
  obtain⟨p,q,tH,fR,rfl,q9,eD⟩:=cK
  have aq:DataW.TrodAll enc Tryz.prog W 0 (fun _=>true) true Tryz.f6.params.toList args.toList ds p:=tH
  rw[Tryz.params6] at aq jk
  obtain⟨v0,Ls,d0,Lt,aL,k5,uB,rfl,rfl,h0,As⟩:=trodAll_cons aq
  obtain⟨v1,zn,d1,Lu,bh,hE,rfl,rfl,rfl,h1,r1⟩:=trodAll_cons As
  obtain⟨v2,zo,d2,Lv,bj,eB,rfl,rfl,rfl,h2,aF⟩:=trodAll_cons r1
  obtain⟨rfl,rfl,rfl⟩:=trodAll_nil aF
  obtain rfl:args= #[v0,v1,v2]:=by cases args;simp_all
  obtain⟨rfl,rfl⟩:=trodVars_none fR
  have te:=x9 (jk 0 5 v0 rfl rfl) h0
  have aw:=x9 (jk 1 5 v1 rfl rfl) h1
  have ax:=x9 (jk 2 75 v2 rfl rfl) h2
  clear tH ER
  simp only[List.append_nil] at Au
  have aJ:=fun x hx=>Au.lt x hx
  refine(contract v0 v1 v2 W te aw ax).mono fun v W' ⟨he,hg⟩=>?_
  subst he
  exact Fv (pa:=_) (fb:=[]) Au Tryz.underlying4 rfl rfl (fun sp iT=>(trodAll_cons_mk (x_ laid (by kernel_rfl) (of_decide_eq_true (by kernel_rfl)) h0 hg (fun x hx=>aJ x (by simp[hx])) (fun x hx=>iT x (by simp[hx]))) (trodAll_cons_mk (x_ laid (by kernel_rfl) (of_decide_eq_true (by kernel_rfl)) h1 hg (fun x hx=>aJ x (by simp[hx])) (fun x hx=>iT x (by simp[hx]))) (trodAll_cons_mk (x_ laid (by kernel_rfl) (of_decide_eq_true (by kernel_rfl)) h2 hg (fun x hx=>aJ x (by simp[hx])) (fun x hx=>iT x (by simp[hx]))) trodAll_mk0)))) (fun _ _=>rfl) (by simp) hg
theorem both {a b:Bool} (h:a=true) (k:b=true):(a&&b)=true:=by rw[h,k];rfl
theorem called:Tryz.pinned.checked.prog.funcNamed Rows.affinPlaysRow.func=some 6:=by kernel_rfl
theorem part2:mapsRowed Tryz.prog=true:=by kernel_rfl
theorem part4:namedTie Tryz.prog Rows.affinPlaysRow.named Rows.affinPlaysSpec.vars=true:=by kernel_rfl
theorem part9:(Rows.affinPlaysRow.inPlace==Tryz.prog.inPlace 6)=true:=by kernel_rfl
theorem part10:(Rows.affinPlaysRow.unfollowed==Tryz.prog.unfollowed 6)=true:=by kernel_rfl
theorem part11:(Rows.affinPlaysRow.recurses==Tryz.prog.recurses 6)=true:=by kernel_rfl
theorem part12:(Rows.affinPlaysRow.named==Tryz.prog.varsNamed 6)=true:=by kernel_rfl
theorem part22:(Rows.affinPlaysRow.plainKeys==Tryz.prog.plainKeys)=true:=by kernel_rfl
theorem part24:Tryz.prog.stopsHeard=true:=by kernel_rfl
theorem part25:Tryz.prog.mayEnter=true:=by kernel_rfl
theorem part26:(Rows.affinPlaysRow.lifted==Tryz.prog.liftsFinal)=true:=by kernel_rfl
theorem closed:joinedFacts Tryz.prog 6 Tryz.f6 Rows.affinPlaysSpec Rows.affinPlaysRow=true:=by
  unfold joinedFacts
  exact(both (both (both (both (both (both (both (both (both (both (both (both (both (both (both (both (both (both (both (both (both (both (both (both (both (both (both (both (both (both (both (by kernel_rfl) laid) part2) (by kernel_rfl)) part4) (by kernel_rfl)) (by kernel_rfl)) (by kernel_rfl)) (by kernel_rfl)) part9) part10) part11) part12) (by kernel_rfl)) (by kernel_rfl)) (by kernel_rfl)) (by kernel_rfl)) (by kernel_rfl)) (by kernel_rfl)) (by kernel_rfl)) (by kernel_rfl)) (by kernel_rfl)) part22) (by kernel_rfl)) part24) part25) part26) (by kernel_rfl)) (by kernel_rfl)) (by kernel_rfl)) (by kernel_rfl)) (by kernel_rfl))
theorem proved:Rows.AffinPlaysSaid:=
  OpenClaim.holds_of_wide 6 Tryz.f6 rfl rfl rfl rfl rfl rfl rfl ⟨rfl,rfl,rfl,rfl,rfl⟩ rfl rfl rfl rfl rfl called Tryz.func6 closed
    (of_decide_eq_true (by kernel_rfl)) (by unfold Func.isWrapper;first|(rw[if_pos (by decide+kernel)];kernel_rfl)|(rw[if_neg (by decide+kernel)];exact⟨rfl,rfl⟩))
    (fun os started H enc _=>lifted os started H enc)
end Go.Proofs.YtkdhdlfonmgheaaGreat.affinPlays
