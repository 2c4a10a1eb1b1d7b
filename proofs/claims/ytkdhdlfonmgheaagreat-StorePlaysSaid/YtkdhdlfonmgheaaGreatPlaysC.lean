/- The statement StorePlaysSaid: the law returns true for every input and leaves it as it was. -/
import Derived.Test.YtkdhdlfonmgheaaGreatRows
import Derived.Test.YtkdhdlfonmgheaaGreatBPlays7
import Derived.WalkKit
import Derived.ProofKit
import Derived.OpenShut
namespace Go.Proofs.YtkdhdlfonmgheaaGreat.storePlays
open Go a6 Go.ChangeShapes Go.WideShapes Go.ChangeAt Go.RowKit
theorem own:ownKnob Tryz.prog.godebug=none:=by kernel_rfl
theorem laid:laidOutB Tryz.prog=true:=by kernel_rfl
set_option maxRecDepth 100000 in
theorem contract (v0 v1 v2:Value) (w:World) (h0:lq Tryz.prog w 5 v0) (h1:lq Tryz.prog w 5 v1) (h2:lq Tryz.prog w 82 v2):aN Tryz.prog 10 #[v0,v1,v2] w (fun v w1=>v= .bool true∧Ext w w1):=by
  obtain⟨a0,rfl,IV,y4⟩:=zZ.of h0 Tryz.underlying5
  obtain⟨a1,rfl,iy,r1⟩:=zZ.of h1 Tryz.underlying5
  have:=wQ IV y4;have:=wQ iy r1;obtain⟨a,rfl⟩:∃a:Nat,a0=(a:Int):=⟨a0.toNat,by omega⟩;obtain⟨b,rfl⟩:∃b:Nat,a1=(b:Int):=⟨a1.toNat,by omega⟩;obtain⟨l,A,rfl,aq⟩:=kE.of h2;exact IU (by omega) (by omega) aq
set_option maxRecDepth 100000 in
theorem lifted (os:Os) (started:os.Started) (H:Type) (enc:TypeId×Value→H):
    ReturnsInHanded {} Tryz.checked os 10 .any (Rows.storePlaysSpec.pre6 enc Tryz.prog Tryz.f10 Rows.storePlaysRow.domain false) (Rows.storePlaysSpec.post enc Tryz.prog Tryz.f10 false true false false):=by
  refine returnsInHanded_of_change (C:=Tryz.checked) own started (by kernel_rfl) Tryz.func10
    (ChangeSpec.witness6 (enc:=enc) (C:=Tryz.checked) false ⟨#[], #[.int .u8 0, .int .u8 0, .slice none 0 0],[]⟩ 8 (by kernel_rfl) (by kernel_rfl) (by kernel_rfl) (by kernel_rfl)) ?_
  intro W base args ds gs before Df b8 I1 _
  have ia:∀ (j:Nat) t v,Tryz.f10.params[j]? =some t→args[j]? =some v→Value.okWide Tryz.prog W .any base t v:=Df
  have y5:=b8
  obtain⟨p,q,se,ed,rfl,p3,c1⟩:=b8
  have aq:DataW.TrodAll enc Tryz.prog W 0 (fun _=>true) true Tryz.f10.params.toList args.toList ds p:=se
  rw[Tryz.params10] at aq ia
  obtain⟨v0,I2,d0,I3,aI,ky,sW,rfl,rfl,h0,y4⟩:=trodAll_cons aq
  obtain⟨v1,xR,d1,I4,bw,fH,rfl,rfl,rfl,h1,r1⟩:=trodAll_cons y4
  obtain⟨v2,xS,d2,I5,br,dA,rfl,rfl,rfl,h2,bY⟩:=trodAll_cons r1
  obtain⟨rfl,rfl,rfl⟩:=trodAll_nil bY
  obtain rfl:args= #[v0,v1,v2]:=by cases args;simp_all
  obtain⟨rfl,rfl⟩:=trodVars_none ed
  have mg:=wO (ia 0 5 v0 rfl rfl) h0
  have au:=wO (ia 1 5 v1 rfl rfl) h1
  have aw:=wO (ia 2 82 v2 rfl rfl) h2
  clear se Df
  simp only[List.append_nil] at y5
  have aJ:=fun x hx=>y5.lt x hx
  refine(contract v0 v1 v2 W mg au aw).mono fun v W' ⟨he,hg⟩=>?_
  subst he
  exact DS (pa:=_) (fc:=[]) y5 Tryz.underlying4 rfl rfl (fun sp gd=>(trodAll_cons_mk (wP laid (by kernel_rfl) (of_decide_eq_true (by kernel_rfl)) h0 hg (fun x hx=>aJ x (by simp[hx])) (fun x hx=>gd x (by simp[hx]))) (trodAll_cons_mk (wP laid (by kernel_rfl) (of_decide_eq_true (by kernel_rfl)) h1 hg (fun x hx=>aJ x (by simp[hx])) (fun x hx=>gd x (by simp[hx]))) (trodAll_cons_mk (wP laid (by kernel_rfl) (of_decide_eq_true (by kernel_rfl)) h2 hg (fun x hx=>aJ x (by simp[hx])) (fun x hx=>gd x (by simp[hx]))) trodAll_mk0)))) (fun _ _=>rfl) (by simp) hg
theorem both {a b:Bool} (h:a=true) (k:b=true):(a&&b)=true:=by rw[h,k];rfl
theorem called:Tryz.pinned.checked.prog.funcNamed Rows.storePlaysRow.func=some 10:=by kernel_rfl
theorem part2:mapsRowed Tryz.prog=true:=by kernel_rfl
theorem part4:namedTie Tryz.prog Rows.storePlaysRow.named Rows.storePlaysSpec.vars=true:=by kernel_rfl
theorem part9:(Rows.storePlaysRow.inPlace==Tryz.prog.inPlace 10)=true:=by kernel_rfl
theorem part10:(Rows.storePlaysRow.unfollowed==Tryz.prog.unfollowed 10)=true:=by kernel_rfl
theorem part11:(Rows.storePlaysRow.recurses==Tryz.prog.recurses 10)=true:=by kernel_rfl
theorem part12:(Rows.storePlaysRow.named==Tryz.prog.varsNamed 10)=true:=by kernel_rfl
theorem part22:(Rows.storePlaysRow.plainKeys==Tryz.prog.plainKeys)=true:=by kernel_rfl
theorem part24:Tryz.prog.stopsHeard=true:=by kernel_rfl
theorem part25:Tryz.prog.mayEnter=true:=by kernel_rfl
theorem part26:(Rows.storePlaysRow.lifted==Tryz.prog.liftsFinal)=true:=by kernel_rfl
theorem closed:joinedFacts Tryz.prog 10 Tryz.f10 Rows.storePlaysSpec Rows.storePlaysRow=true:=by
  unfold joinedFacts
  exact(both (both (both (both (both (both (both (both (both (both (both (both (both (both (both (both (both (both (both (both (both (both (both (both (both (both (both (both (both (both (both (by kernel_rfl) laid) part2) (by kernel_rfl)) part4) (by kernel_rfl)) (by kernel_rfl)) (by kernel_rfl)) (by kernel_rfl)) part9) part10) part11) part12) (by kernel_rfl)) (by kernel_rfl)) (by kernel_rfl)) (by kernel_rfl)) (by kernel_rfl)) (by kernel_rfl)) (by kernel_rfl)) (by kernel_rfl)) (by kernel_rfl)) part22) (by kernel_rfl)) part24) part25) part26) (by kernel_rfl)) (by kernel_rfl)) (by kernel_rfl)) (by kernel_rfl)) (by kernel_rfl))
theorem proved:Rows.StorePlaysSaid:=
  OpenClaim.holds_of_wide 10 Tryz.f10 rfl rfl rfl rfl rfl rfl rfl ⟨rfl,rfl,rfl,rfl,rfl⟩ rfl rfl rfl rfl rfl called Tryz.func10 closed
    (of_decide_eq_true (by kernel_rfl)) (by unfold Func.isWrapper;first|(rw[if_pos (by decide+kernel)];kernel_rfl)|(rw[if_neg (by decide+kernel)];exact⟨rfl,rfl⟩))
    (fun os started H enc _=>lifted os started H enc)
end Go.Proofs.YtkdhdlfonmgheaaGreat.storePlays
