/- The statement StoreNoneSaid: the law returns true for every input and leaves it as it was. -/
import Derived.Test.YtkdhdlfonmgheaaGreatRows
import Derived.Test.YtkdhdlfonmgheaaGreatBNone6
import Derived.WalkKit
import Derived.ProofKit
import Derived.OpenShut
namespace Go.Proofs.YtkdhdlfonmgheaaGreat.storeNone
open Go aX Go.ChangeShapes Go.WideShapes Go.ChangeAt Go.RowKit
theorem own:ownKnob Tryz.prog.godebug=none:=by kernel_rfl
theorem laid:laidOutB Tryz.prog=true:=by kernel_rfl
set_option maxRecDepth 100000 in
theorem contract (v0 v1:Value) (w:World) (h0:lr Tryz.prog w 46 v0) (h1:lr Tryz.prog w 48 v1):aH Tryz.prog 11 #[v0,v1] w (fun v w1=>v= .bool true∧Ext w w1):=by
  obtain⟨a1,rfl,s1⟩:=nK.of h1 Tryz.underlying48 Tryz.underlying5 (by kernel_rfl)
  obtain⟨f,b,d,rfl⟩:=Gx.of h0;obtain⟨l,hl⟩:=FK s1;exact Gw hl s1.le
set_option maxRecDepth 100000 in
theorem lifted (os:Os) (started:os.Started) (H:Type) (enc:TypeId×Value→H):
    ReturnsInHanded {} Tryz.checked os 11 .any (Rows.storeNoneSpec.pre6 enc Tryz.prog Tryz.f11 Rows.storeNoneRow.domain false) (Rows.storeNoneSpec.post enc Tryz.prog Tryz.f11 false true false false):=by
  refine returnsInHanded_of_change (C:=Tryz.checked) own started (by kernel_rfl) Tryz.func11
    (ChangeSpec.witness6 (enc:=enc) (C:=Tryz.checked) false ⟨#[], #[.agg #[.int .i64 0, .int .i64 0, .int .u64 0], .slice none 0 0],[]⟩ 8 (by kernel_rfl) (by kernel_rfl) (by kernel_rfl) (by kernel_rfl)) ?_
  intro W base args ds gs before A0 cd GJ _
  have g3:∀ (j:Nat) t v,Tryz.f11.params[j]? =some t→args[j]? =some v→Value.okWide Tryz.prog W .any base t v:=A0
  have wZ:=cd
  obtain⟨p,q,A1,dC,rfl,oB,cS⟩:=cd
  have ar:DataW.TrodAll enc Tryz.prog W 0 (fun _=>true) true Tryz.f11.params.toList args.toList ds p:=A1
  rw[Tryz.params11] at ar g3
  obtain⟨v0,GK,d0,GL,aS,qj,ra,rfl,rfl,h0,Gy⟩:=trodAll_cons ar
  obtain⟨v1,vM,d1,GM,bo,gX,rfl,rfl,rfl,h1,r1⟩:=trodAll_cons Gy
  obtain⟨rfl,rfl,rfl⟩:=trodAll_nil r1
  obtain rfl:args= #[v0,v1]:=by cases args;simp_all
  obtain⟨rfl,rfl⟩:=trodVars_none dC
  have mX:=xT (g3 0 46 v0 rfl rfl) h0
  have av:=xT (g3 1 48 v1 rfl rfl) h1
  clear A1 A0
  simp only[List.append_nil] at wZ
  have aJ:=fun x hx=>wZ.lt x hx
  refine(contract v0 v1 W mX av).mono fun v W' ⟨he,hg⟩=>?_
  subst he
  exact BC (pa:=_) (eE:=[]) wZ Tryz.underlying4 rfl rfl (fun sp fv=>(trodAll_cons_mk (xV laid (by kernel_rfl) (of_decide_eq_true (by kernel_rfl)) h0 hg (fun x hx=>aJ x (by simp[hx])) (fun x hx=>fv x (by simp[hx]))) (trodAll_cons_mk (xV laid (by kernel_rfl) (of_decide_eq_true (by kernel_rfl)) h1 hg (fun x hx=>aJ x (by simp[hx])) (fun x hx=>fv x (by simp[hx]))) trodAll_mk0))) (fun _ _=>rfl) (by simp) hg
theorem both {a b:Bool} (h:a=true) (k:b=true):(a&&b)=true:=by rw[h,k];rfl
theorem called:Tryz.pinned.checked.prog.funcNamed Rows.storeNoneRow.func=some 11:=by kernel_rfl
theorem part2:mapsRowed Tryz.prog=true:=by kernel_rfl
theorem part4:namedTie Tryz.prog Rows.storeNoneRow.named Rows.storeNoneSpec.vars=true:=by kernel_rfl
theorem part9:(Rows.storeNoneRow.inPlace==Tryz.prog.inPlace 11)=true:=by kernel_rfl
theorem part10:(Rows.storeNoneRow.unfollowed==Tryz.prog.unfollowed 11)=true:=by kernel_rfl
theorem part11:(Rows.storeNoneRow.recurses==Tryz.prog.recurses 11)=true:=by kernel_rfl
theorem part12:(Rows.storeNoneRow.named==Tryz.prog.varsNamed 11)=true:=by kernel_rfl
theorem part22:(Rows.storeNoneRow.plainKeys==Tryz.prog.plainKeys)=true:=by kernel_rfl
theorem part24:Tryz.prog.stopsHeard=true:=by kernel_rfl
theorem part25:Tryz.prog.mayEnter=true:=by kernel_rfl
theorem part26:(Rows.storeNoneRow.lifted==Tryz.prog.liftsFinal)=true:=by kernel_rfl
theorem closed:joinedFacts Tryz.prog 11 Tryz.f11 Rows.storeNoneSpec Rows.storeNoneRow=true:=by
  unfold joinedFacts
  exact(both (both (both (both (both (both (both (both (both (both (both (both (both (both (both (both (both (both (both (both (both (both (both (both (both (both (both (both (both (both (both (by kernel_rfl) laid) part2) (by kernel_rfl)) part4) (by kernel_rfl)) (by kernel_rfl)) (by kernel_rfl)) (by kernel_rfl)) part9) part10) part11) part12) (by kernel_rfl)) (by kernel_rfl)) (by kernel_rfl)) (by kernel_rfl)) (by kernel_rfl)) (by kernel_rfl)) (by kernel_rfl)) (by kernel_rfl)) (by kernel_rfl)) part22) (by kernel_rfl)) part24) part25) part26) (by kernel_rfl)) (by kernel_rfl)) (by kernel_rfl)) (by kernel_rfl)) (by kernel_rfl))
theorem proved:Rows.StoreNoneSaid:=
  OpenClaim.holds_of_wide 11 Tryz.f11 rfl rfl rfl rfl rfl rfl rfl ⟨rfl,rfl,rfl,rfl,rfl⟩ rfl rfl rfl rfl rfl called Tryz.func11 closed
    (of_decide_eq_true (by kernel_rfl)) (by unfold Func.isWrapper;first|(rw[if_pos (by decide+kernel)];kernel_rfl)|(rw[if_neg (by decide+kernel)];exact⟨rfl,rfl⟩))
    (fun os started H enc _=>lifted os started H enc)
end Go.Proofs.YtkdhdlfonmgheaaGreat.storeNone
