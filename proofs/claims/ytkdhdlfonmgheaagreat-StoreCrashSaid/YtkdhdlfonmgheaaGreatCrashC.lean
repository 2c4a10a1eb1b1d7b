/- The statement StoreCrashSaid: the law returns true for every input and leaves it as it was. -/
import Derived.Test.YtkdhdlfonmgheaaGreatRows
import Derived.Test.YtkdhdlfonmgheaaGreatBCrash7
import Derived.WalkKit
import Derived.ProofKit
import Derived.OpenShut
namespace Go.Proofs.YtkdhdlfonmgheaaGreat.storeCrash
open Go a8 Go.ChangeShapes Go.WideShapes Go.ChangeAt Go.RowKit
theorem own:ownKnob Tryz.prog.godebug=none:=by kernel_rfl
theorem laid:laidOutB Tryz.prog=true:=by kernel_rfl
set_option maxRecDepth 100000 in
theorem contract (v0 v1 v2:Value) (w:World) (h0:lD Tryz.prog w 5 v0) (h1:lD Tryz.prog w 5 v1) (h2:lD Tryz.prog w 82 v2):aR Tryz.prog 8 #[v0,v1,v2] w (fun v w1=>v= .bool true∧Ext w w1):=by
  obtain⟨a0,rfl,I3,y_⟩:=z_.of h0 Tryz.underlying5
  obtain⟨a1,rfl,iD,r1⟩:=z_.of h1 Tryz.underlying5
  have:=wU I3 y_;have:=wU iD r1;obtain⟨a,rfl⟩:∃a:Nat,a0=(a:Int):=⟨a0.toNat,by omega⟩;obtain⟨b,rfl⟩:∃b:Nat,a1=(b:Int):=⟨a1.toNat,by omega⟩;obtain⟨l,A,rfl,ar⟩:=kN.of h2;exact I2 (by omega) (by omega) ar
set_option maxRecDepth 100000 in
theorem lifted (os:Os) (started:os.Started) (H:Type) (enc:TypeId×Value→H):
    ReturnsInHanded {} Tryz.checked os 8 .any (Rows.storeCrashSpec.pre6 enc Tryz.prog Tryz.f8 Rows.storeCrashRow.domain false) (Rows.storeCrashSpec.post enc Tryz.prog Tryz.f8 false true false false):=by
  refine returnsInHanded_of_change (C:=Tryz.checked) own started (by kernel_rfl) Tryz.func8
    (ChangeSpec.witness6 (enc:=enc) (C:=Tryz.checked) false ⟨#[], #[.int .u8 0, .int .u8 0, .slice none 0 0],[]⟩ 8 (by kernel_rfl) (by kernel_rfl) (by kernel_rfl) (by kernel_rfl)) ?_
  intro W base args ds gs before Dr cd I_ _
  have ik:∀ (j:Nat) t v,Tryz.f8.params[j]? =some t→args[j]? =some v→Value.okWide Tryz.prog W .any base t v:=Dr
  have za:=cd
  obtain⟨p,q,sg,dR,rfl,p8,c9⟩:=cd
  have ar:DataW.TrodAll enc Tryz.prog W 0 (fun _=>true) true Tryz.f8.params.toList args.toList ds p:=sg
  rw[Tryz.params8] at ar ik
  obtain⟨v0,Ja,d0,Jb,aG,iQ,sZ,rfl,rfl,h0,y_⟩:=trodAll_cons ar
  obtain⟨v1,xT,d1,Jc,bn,fN,rfl,rfl,rfl,h1,r1⟩:=trodAll_cons y_
  obtain⟨v2,xU,d2,Jd,bp,dG,rfl,rfl,rfl,h2,b3⟩:=trodAll_cons r1
  obtain⟨rfl,rfl,rfl⟩:=trodAll_nil b3
  obtain rfl:args= #[v0,v1,v2]:=by cases args;simp_all
  obtain⟨rfl,rfl⟩:=trodVars_none dR
  have mi:=wS (ik 0 5 v0 rfl rfl) h0
  have au:=wS (ik 1 5 v1 rfl rfl) h1
  have ay:=wS (ik 2 82 v2 rfl rfl) h2
  clear sg Dr
  simp only[List.append_nil] at za
  have aK:=fun x hx=>za.lt x hx
  refine(contract v0 v1 v2 W mi au ay).mono fun v W' ⟨he,hg⟩=>?_
  subst he
  exact D4 (pa:=_) (fj:=[]) za Tryz.underlying4 rfl rfl (fun sp gj=>(trodAll_cons_mk (wT laid (by kernel_rfl) (of_decide_eq_true (by kernel_rfl)) h0 hg (fun x hx=>aK x (by simp[hx])) (fun x hx=>gj x (by simp[hx]))) (trodAll_cons_mk (wT laid (by kernel_rfl) (of_decide_eq_true (by kernel_rfl)) h1 hg (fun x hx=>aK x (by simp[hx])) (fun x hx=>gj x (by simp[hx]))) (trodAll_cons_mk (wT laid (by kernel_rfl) (of_decide_eq_true (by kernel_rfl)) h2 hg (fun x hx=>aK x (by simp[hx])) (fun x hx=>gj x (by simp[hx]))) trodAll_mk0)))) (fun _ _=>rfl) (by simp) hg
theorem both {a b:Bool} (h:a=true) (k:b=true):(a&&b)=true:=by rw[h,k];rfl
theorem called:Tryz.pinned.checked.prog.funcNamed Rows.storeCrashRow.func=some 8:=by kernel_rfl
theorem part2:mapsRowed Tryz.prog=true:=by kernel_rfl
theorem part4:namedTie Tryz.prog Rows.storeCrashRow.named Rows.storeCrashSpec.vars=true:=by kernel_rfl
theorem part9:(Rows.storeCrashRow.inPlace==Tryz.prog.inPlace 8)=true:=by kernel_rfl
theorem part10:(Rows.storeCrashRow.unfollowed==Tryz.prog.unfollowed 8)=true:=by kernel_rfl
theorem part11:(Rows.storeCrashRow.recurses==Tryz.prog.recurses 8)=true:=by kernel_rfl
theorem part12:(Rows.storeCrashRow.named==Tryz.prog.varsNamed 8)=true:=by kernel_rfl
theorem part22:(Rows.storeCrashRow.plainKeys==Tryz.prog.plainKeys)=true:=by kernel_rfl
theorem part24:Tryz.prog.stopsHeard=true:=by kernel_rfl
theorem part25:Tryz.prog.mayEnter=true:=by kernel_rfl
theorem part26:(Rows.storeCrashRow.lifted==Tryz.prog.liftsFinal)=true:=by kernel_rfl
theorem closed:joinedFacts Tryz.prog 8 Tryz.f8 Rows.storeCrashSpec Rows.storeCrashRow=true:=by
  unfold joinedFacts
  exact(both (both (both (both (both (both (both (both (both (both (both (both (both (both (both (both (both (both (both (both (both (both (both (both (both (both (both (both (both (both (both (by kernel_rfl) laid) part2) (by kernel_rfl)) part4) (by kernel_rfl)) (by kernel_rfl)) (by kernel_rfl)) (by kernel_rfl)) part9) part10) part11) part12) (by kernel_rfl)) (by kernel_rfl)) (by kernel_rfl)) (by kernel_rfl)) (by kernel_rfl)) (by kernel_rfl)) (by kernel_rfl)) (by kernel_rfl)) (by kernel_rfl)) part22) (by kernel_rfl)) part24) part25) part26) (by kernel_rfl)) (by kernel_rfl)) (by kernel_rfl)) (by kernel_rfl)) (by kernel_rfl))
theorem proved:Rows.StoreCrashSaid:=
  OpenClaim.holds_of_wide 8 Tryz.f8 rfl rfl rfl rfl rfl rfl rfl ⟨rfl,rfl,rfl,rfl,rfl⟩ rfl rfl rfl rfl rfl called Tryz.func8 closed
    (of_decide_eq_true (by kernel_rfl)) (by unfold Func.isWrapper;first|(rw[if_pos (by decide+kernel)];kernel_rfl)|(rw[if_neg (by decide+kernel)];exact⟨rfl,rfl⟩))
    (fun os started H enc _=>lifted os started H enc)
end Go.Proofs.YtkdhdlfonmgheaaGreat.storeCrash
