/- The statement StoreFailsSaid: the law returns true for every input and leaves it as it was. -/
import Derived.Test.YtkdhdlfonmgheaaGreatRows
import Derived.Test.YtkdhdlfonmgheaaGreatBFails7
import Derived.WalkKit
import Derived.ProofKit
import Derived.OpenShut
namespace Go.Proofs.YtkdhdlfonmgheaaGreat.storeFails
open Go a7 Go.ChangeShapes Go.WideShapes Go.ChangeAt Go.RowKit
theorem own:ownKnob Tryz.prog.godebug=none:=by kernel_rfl
theorem laid:laidOutB Tryz.prog=true:=by kernel_rfl
set_option maxRecDepth 100000 in
theorem contract (v0 v1 v2:Value) (w:World) (h0:ly Tryz.prog w 5 v0) (h1:ly Tryz.prog w 82 v1) (h2:ly Tryz.prog w 82 v2):aQ Tryz.prog 9 #[v0,v1,v2] w (fun v w1=>v= .bool true∧Ext w w1):=by
  obtain⟨a0,rfl,IV,y6⟩:=D5.of h0 Tryz.underlying5
  have:=z2 IV y6;obtain⟨a,rfl⟩:∃a:Nat,a0=(a:Int):=⟨a0.toNat,by omega⟩;obtain⟨l,A,rfl,ar⟩:=jP.of h1;obtain⟨ms,B,rfl,hB⟩:=jP.of h2;exact IU (by omega) ar hB
set_option maxRecDepth 100000 in
theorem lifted (os:Os) (started:os.Started) (H:Type) (enc:TypeId×Value→H):
    ReturnsInHanded {} Tryz.checked os 9 .any (Rows.storeFailsSpec.pre6 enc Tryz.prog Tryz.f9 Rows.storeFailsRow.domain false) (Rows.storeFailsSpec.post enc Tryz.prog Tryz.f9 false true false false):=by
  refine returnsInHanded_of_change (C:=Tryz.checked) own started (by kernel_rfl) Tryz.func9
    (ChangeSpec.witness6 (enc:=enc) (C:=Tryz.checked) false ⟨#[], #[.int .u8 0, .slice none 0 0, .slice none 0 0],[]⟩ 8 (by kernel_rfl) (by kernel_rfl) (by kernel_rfl) (by kernel_rfl)) ?_
  intro W base args ds gs before Dr cg I2 _
  have hL:∀ (j:Nat) t v,Tryz.f9.params[j]? =some t→args[j]? =some v→Value.okWide Tryz.prog W .any base t v:=Dr
  have y7:=cg
  obtain⟨p,q,sf,ei,rfl,nd,c7⟩:=cg
  have ar:DataW.TrodAll enc Tryz.prog W 0 (fun _=>true) true Tryz.f9.params.toList args.toList ds p:=sf
  rw[Tryz.params9] at ar hL
  obtain⟨v0,I3,d0,I4,aG,iQ,sY,rfl,rfl,h0,y6⟩:=trodAll_cons ar
  obtain⟨v1,xQ,d1,I5,bB,fL,rfl,rfl,rfl,h1,r1⟩:=trodAll_cons y6
  obtain⟨v2,xR,d2,I6,bq,dH,rfl,rfl,rfl,h2,b5⟩:=trodAll_cons r1
  obtain⟨rfl,rfl,rfl⟩:=trodAll_nil b5
  obtain rfl:args= #[v0,v1,v2]:=by cases args;simp_all
  obtain⟨rfl,rfl⟩:=trodVars_none ei
  have mj:=wO (hL 0 5 v0 rfl rfl) h0
  have av:=wO (hL 1 82 v1 rfl rfl) h1
  have ax:=wO (hL 2 82 v2 rfl rfl) h2
  clear sf Dr
  simp only[List.append_nil] at y7
  have aK:=fun x hx=>y7.lt x hx
  refine(contract v0 v1 v2 W mj av ax).mono fun v W' ⟨he,hg⟩=>?_
  subst he
  exact D4 (pa:=_) (fi:=[]) y7 Tryz.underlying4 rfl rfl (fun sp gf=>(trodAll_cons_mk (wP laid (by kernel_rfl) (of_decide_eq_true (by kernel_rfl)) h0 hg (fun x hx=>aK x (by simp[hx])) (fun x hx=>gf x (by simp[hx]))) (trodAll_cons_mk (wP laid (by kernel_rfl) (of_decide_eq_true (by kernel_rfl)) h1 hg (fun x hx=>aK x (by simp[hx])) (fun x hx=>gf x (by simp[hx]))) (trodAll_cons_mk (wP laid (by kernel_rfl) (of_decide_eq_true (by kernel_rfl)) h2 hg (fun x hx=>aK x (by simp[hx])) (fun x hx=>gf x (by simp[hx]))) trodAll_mk0)))) (fun _ _=>rfl) (by simp) hg
theorem both {a b:Bool} (h:a=true) (k:b=true):(a&&b)=true:=by rw[h,k];rfl
theorem called:Tryz.pinned.checked.prog.funcNamed Rows.storeFailsRow.func=some 9:=by kernel_rfl
theorem part2:mapsRowed Tryz.prog=true:=by kernel_rfl
theorem part4:namedTie Tryz.prog Rows.storeFailsRow.named Rows.storeFailsSpec.vars=true:=by kernel_rfl
theorem part9:(Rows.storeFailsRow.inPlace==Tryz.prog.inPlace 9)=true:=by kernel_rfl
theorem part10:(Rows.storeFailsRow.unfollowed==Tryz.prog.unfollowed 9)=true:=by kernel_rfl
theorem part11:(Rows.storeFailsRow.recurses==Tryz.prog.recurses 9)=true:=by kernel_rfl
theorem part12:(Rows.storeFailsRow.named==Tryz.prog.varsNamed 9)=true:=by kernel_rfl
theorem part22:(Rows.storeFailsRow.plainKeys==Tryz.prog.plainKeys)=true:=by kernel_rfl
theorem part24:Tryz.prog.stopsHeard=true:=by kernel_rfl
theorem part25:Tryz.prog.mayEnter=true:=by kernel_rfl
theorem part26:(Rows.storeFailsRow.lifted==Tryz.prog.liftsFinal)=true:=by kernel_rfl
theorem closed:joinedFacts Tryz.prog 9 Tryz.f9 Rows.storeFailsSpec Rows.storeFailsRow=true:=by
  unfold joinedFacts
  exact(both (both (both (both (both (both (both (both (both (both (both (both (both (both (both (both (both (both (both (both (both (both (both (both (both (both (both (both (both (both (both (by kernel_rfl) laid) part2) (by kernel_rfl)) part4) (by kernel_rfl)) (by kernel_rfl)) (by kernel_rfl)) (by kernel_rfl)) part9) part10) part11) part12) (by kernel_rfl)) (by kernel_rfl)) (by kernel_rfl)) (by kernel_rfl)) (by kernel_rfl)) (by kernel_rfl)) (by kernel_rfl)) (by kernel_rfl)) (by kernel_rfl)) part22) (by kernel_rfl)) part24) part25) part26) (by kernel_rfl)) (by kernel_rfl)) (by kernel_rfl)) (by kernel_rfl)) (by kernel_rfl))
theorem proved:Rows.StoreFailsSaid:=
  OpenClaim.holds_of_wide 9 Tryz.f9 rfl rfl rfl rfl rfl rfl rfl ⟨rfl,rfl,rfl,rfl,rfl⟩ rfl rfl rfl rfl rfl called Tryz.func9 closed
    (of_decide_eq_true (by kernel_rfl)) (by unfold Func.isWrapper;first|(rw[if_pos (by decide+kernel)];kernel_rfl)|(rw[if_neg (by decide+kernel)];exact⟨rfl,rfl⟩))
    (fun os started H enc _=>lifted os started H enc)
end Go.Proofs.YtkdhdlfonmgheaaGreat.storeFails
