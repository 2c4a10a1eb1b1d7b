/- The statement AffinFewSaid: the law returns true for every input and leaves it as it was. -/
import Derived.Test.YtkdhdlfonmgheaaGreatRows
import Derived.Test.YtkdhdlfonmgheaaGreatBAFew6
import Derived.WalkKit
import Derived.ProofKit
import Derived.OpenShut
namespace Go.Proofs.YtkdhdlfonmgheaaGreat.affinFew
open Go aR Go.ChangeShapes Go.WideShapes Go.ChangeAt Go.RowKit
theorem own:ownKnob Tryz.prog.godebug=none:=by kernel_rfl
theorem laid:laidOutB Tryz.prog=true:=by kernel_rfl
set_option maxRecDepth 100000 in
theorem contract (v0 v1:Value) (w:World) (h0:kO Tryz.prog w 5 v0) (h1:kO Tryz.prog w 29 v1):aL Tryz.prog 3 #[v0,v1] w (fun v w1=>v= .bool true∧Ext w w1):=by
  obtain⟨a0,rfl,Gz,w7⟩:=BO.of h0 Tryz.underlying5
  have:=x3 Gz w7;obtain⟨a,rfl⟩:∃a:Nat,a0=(a:Int):=⟨a0.toNat,by omega⟩;obtain⟨t,rfl,ht⟩:=Gx h1;exact Gy (by omega) ht w
set_option maxRecDepth 100000 in
theorem lifted (os:Os) (started:os.Started) (H:Type) (enc:TypeId×Value→H):
    ReturnsInHanded {} Tryz.checked os 3 .any (Rows.affinFewSpec.pre6 enc Tryz.prog Tryz.f3 Rows.affinFewRow.domain false) (Rows.affinFewSpec.post enc Tryz.prog Tryz.f3 false true false false):=by
  refine returnsInHanded_of_change (C:=Tryz.checked) own started (by kernel_rfl) Tryz.func3
    (ChangeSpec.witness6 (enc:=enc) (C:=Tryz.checked) false ⟨#[], #[.int .u8 0, .agg #[.int .i64 0, .bool false, .int .u8 0, .int .u8 0, .int .u8 0, .int .u8 0, .int .u8 0, .int .u8 0, .int .u8 0, .int .u8 0, .int .u8 0, .int .u8 0, .int .u8 0, .int .u8 0, .int .u8 0, .int .u8 0, .int .u8 0, .int .u8 0, .int .i64 0, .int .i64 0, .int .u64 0]],[]⟩ 8 (by kernel_rfl) (by kernel_rfl) (by kernel_rfl) (by kernel_rfl)) ?_
  intro W base args ds gs before Ba cD GG _
  have h_:∀ (j:Nat) t v,Tryz.f3.params[j]? =some t→args[j]? =some v→Value.okWide Tryz.prog W .any base t v:=Ba
  have w8:=cD
  obtain⟨p,q,Bb,e3,rfl,oM,ej⟩:=cD
  have aq:DataW.TrodAll enc Tryz.prog W 0 (fun _=>true) true Tryz.f3.params.toList args.toList ds p:=Bb
  rw[Tryz.params3] at aq h_
  obtain⟨v0,GH,d0,GI,aM,jF,ru,rfl,rfl,h0,w7⟩:=trodAll_cons aq
  obtain⟨v1,v7,d1,GJ,bo,gY,rfl,rfl,rfl,h1,r1⟩:=trodAll_cons w7
  obtain⟨rfl,rfl,rfl⟩:=trodAll_nil r1
  obtain rfl:args= #[v0,v1]:=by cases args;simp_all
  obtain⟨rfl,rfl⟩:=trodVars_none e3
  have vY:=x0 (h_ 0 5 v0 rfl rfl) h0
  have av:=x0 (h_ 1 29 v1 rfl rfl) h1
  clear Bb Ba
  simp only[List.append_nil] at w8
  have aI:=fun x hx=>w8.lt x hx
  refine(contract v0 v1 W vY av).mono fun v W' ⟨he,hg⟩=>?_
  subst he
  exact BN (pa:=_) (eG:=[]) w8 Tryz.underlying4 rfl rfl (fun sp hM=>(trodAll_cons_mk (x2 laid (by kernel_rfl) (of_decide_eq_true (by kernel_rfl)) h0 hg (fun x hx=>aI x (by simp[hx])) (fun x hx=>hM x (by simp[hx]))) (trodAll_cons_mk (x2 laid (by kernel_rfl) (of_decide_eq_true (by kernel_rfl)) h1 hg (fun x hx=>aI x (by simp[hx])) (fun x hx=>hM x (by simp[hx]))) trodAll_mk0))) (fun _ _=>rfl) (by simp) hg
theorem both {a b:Bool} (h:a=true) (k:b=true):(a&&b)=true:=by rw[h,k];rfl
theorem called:Tryz.pinned.checked.prog.funcNamed Rows.affinFewRow.func=some 3:=by kernel_rfl
theorem part2:mapsRowed Tryz.prog=true:=by kernel_rfl
theorem part4:namedTie Tryz.prog Rows.affinFewRow.named Rows.affinFewSpec.vars=true:=by kernel_rfl
theorem part9:(Rows.affinFewRow.inPlace==Tryz.prog.inPlace 3)=true:=by kernel_rfl
theorem part10:(Rows.affinFewRow.unfollowed==Tryz.prog.unfollowed 3)=true:=by kernel_rfl
theorem part11:(Rows.affinFewRow.recurses==Tryz.prog.recurses 3)=true:=by kernel_rfl
theorem part12:(Rows.affinFewRow.named==Tryz.prog.varsNamed 3)=true:=by kernel_rfl
theorem part22:(Rows.affinFewRow.plainKeys==Tryz.prog.plainKeys)=true:=by kernel_rfl
theorem part24:Tryz.prog.stopsHeard=true:=by kernel_rfl
theorem part25:Tryz.prog.mayEnter=true:=by kernel_rfl
theorem part26:(Rows.affinFewRow.lifted==Tryz.prog.liftsFinal)=true:=by kernel_rfl
theorem closed:joinedFacts Tryz.prog 3 Tryz.f3 Rows.affinFewSpec Rows.affinFewRow=true:=by
  unfold joinedFacts
  exact(both (both (both (both (both (both (both (both (both (both (both (both (both (both (both (both (both (both (both (both (both (both (both (both (both (both (both (both (both (both (both (by kernel_rfl) laid) part2) (by kernel_rfl)) part4) (by kernel_rfl)) (by kernel_rfl)) (by kernel_rfl)) (by kernel_rfl)) part9) part10) part11) part12) (by kernel_rfl)) (by kernel_rfl)) (by kernel_rfl)) (by kernel_rfl)) (by kernel_rfl)) (by kernel_rfl)) (by kernel_rfl)) (by kernel_rfl)) (by kernel_rfl)) part22) (by kernel_rfl)) part24) part25) part26) (by kernel_rfl)) (by kernel_rfl)) (by kernel_rfl)) (by kernel_rfl)) (by kernel_rfl))
theorem proved:Rows.AffinFewSaid:=
  OpenClaim.holds_of_wide 3 Tryz.f3 rfl rfl rfl rfl rfl rfl rfl ⟨rfl,rfl,rfl,rfl,rfl⟩ rfl rfl rfl rfl rfl called Tryz.func3 closed
    (of_decide_eq_true (by kernel_rfl)) (by unfold Func.isWrapper;first|(rw[if_pos (by decide+kernel)];kernel_rfl)|(rw[if_neg (by decide+kernel)];exact⟨rfl,rfl⟩))
    (fun os started H enc _=>lifted os started H enc)
end Go.Proofs.YtkdhdlfonmgheaaGreat.affinFew
