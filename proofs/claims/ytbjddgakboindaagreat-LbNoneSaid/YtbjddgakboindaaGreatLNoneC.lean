/- The statement LbNoneSaid: the law returns true for every input and leaves it as it was. -/
import Derived.Test.YtbjddgakboindaaGreatRows
import Derived.Test.YtbjddgakboindaaGreatBLNone7
import Derived.WalkKit
import Derived.ProofKit
import Derived.OpenShut
namespace Go.Proofs.YtbjddgakboindaaGreat.lbNone
open Go aQ Go.ChangeShapes Go.WideShapes Go.ChangeAt Go.RowKit
theorem own:ownKnob Tryz.prog.godebug=none:=by kernel_rfl
theorem laid:laidOutB Tryz.prog=true:=by kernel_rfl
set_option maxRecDepth 100000 in
theorem contract (v0 v1:Value) (w:World) (h0:nF Tryz.prog w 24 v0) (h1:nF Tryz.prog w 40 v1):aC Tryz.prog 3 #[v0,v1] w (fun v w1=>v= .bool true∧Ext w w1):=by
  obtain⟨e2,bt,fh,dn,c7,c1,rfl⟩:=Py h0;obtain⟨vs,s,L,n,rfl,ar⟩:=Ai.of h1;exact Pz e2 bt fh dn c7 c1 ar
set_option maxRecDepth 100000 in
theorem lifted (os:Os) (started:os.Started) (H:Type) (enc:TypeId×Value→H):
    ReturnsInHanded {} Tryz.checked os 3 .any (Rows.lbNoneSpec.pre6 enc Tryz.prog Tryz.f3 Rows.lbNoneRow.domain false) (Rows.lbNoneSpec.post enc Tryz.prog Tryz.f3 false true false false):=by
  refine returnsInHanded_of_change (C:=Tryz.checked) own started (by kernel_rfl) Tryz.func3
    (ChangeSpec.witness6 (enc:=enc) (C:=Tryz.checked) false ⟨#[], #[.agg #[.int .u64 0, .int .i64 0, .int .i64 0, .int .i64 0, .int .i64 0, .int .i64 0], .agg #[.int .i64 0, .bool false, .int .u8 0, .int .u8 0, .int .u8 0, .int .u8 0, .int .u8 0, .int .u8 0, .int .u8 0, .int .u8 0, .int .u8 0, .int .u8 0, .int .u8 0, .int .u8 0, .int .u8 0, .int .u8 0, .int .u8 0, .int .u8 0, .bool false, .int .u8 0, .int .u8 0, .int .u8 0, .int .u8 0, .int .u8 0, .int .u8 0, .int .u8 0, .int .u8 0, .int .u8 0, .int .u8 0, .int .u8 0, .int .u8 0, .int .u8 0, .int .u8 0, .int .u8 0, .int .u8 0, .int .u16 0, .int .u16 0, .int .u8 0, .int .u8 0, .slice none 0 0, .int .u64 0, .int .i64 0, .int .i64 0, .int .i64 0, .int .i64 0, .int .i64 0, .bool false, .int .u8 0, .int .u8 0, .int .u8 0, .int .u8 0, .int .u8 0, .int .u8 0, .int .u8 0, .int .u8 0, .int .u8 0, .int .u8 0, .int .u8 0, .int .u8 0, .int .u8 0, .int .u8 0, .int .u8 0, .int .u8 0, .int .u16 0, .int .u8 0, .int .i64 0, .int .u64 0, .slice none 0 0, .int .i64 0, .bool false, .int .u8 0, .int .u8 0, .int .u8 0, .int .u8 0, .int .u8 0, .int .u8 0, .int .u8 0, .int .u8 0, .int .u8 0, .int .u8 0, .int .u8 0, .int .u8 0, .int .u8 0, .int .u8 0, .int .u8 0, .int .u8 0, .int .u16 0, .int .i64 0, .bool false]],[]⟩ 8 (by kernel_rfl) (by kernel_rfl) (by kernel_rfl) (by kernel_rfl)) ?_
  intro W base args ds gs before HX cU PM _
  have j4:∀ (j:Nat) t v,Tryz.f3.params[j]? =some t→args[j]? =some v→Value.okWide Tryz.prog W .any base t v:=HX
  have De:=cU
  obtain⟨p,q,HY,gp,rfl,s9,eY⟩:=cU
  have ar:DataW.TrodAll enc Tryz.prog W 0 (fun _=>true) true Tryz.f3.params.toList args.toList ds p:=HY
  rw[Tryz.params3] at ar j4
  obtain⟨v0,PN,d0,PO,a6,lZ,wL,rfl,rfl,h0,PA⟩:=trodAll_cons ar
  obtain⟨v1,Cg,d1,PQ,bS,js,rfl,rfl,rfl,h1,r1⟩:=trodAll_cons PA
  obtain⟨rfl,rfl,rfl⟩:=trodAll_nil r1
  obtain rfl:args= #[v0,v1]:=by cases args;simp_all
  obtain⟨rfl,rfl⟩:=trodVars_none gp
  have jQ:=D8 (j4 0 24 v0 rfl rfl) h0
  have aA:=D8 (j4 1 40 v1 rfl rfl) h1
  clear HY HX
  simp only[List.append_nil] at De
  have aJ:=fun x hx=>De.lt x hx
  refine(contract v0 v1 W jQ aA).mono fun v W' ⟨he,hg⟩=>?_
  subst he
  exact ID (pa:=_) (fu:=[]) De Tryz.underlying4 rfl rfl (fun sp jF=>(trodAll_cons_mk (D_ laid (by kernel_rfl) (of_decide_eq_true (by kernel_rfl)) h0 hg (fun x hx=>aJ x (by simp[hx])) (fun x hx=>jF x (by simp[hx]))) (trodAll_cons_mk (D_ laid (by kernel_rfl) (of_decide_eq_true (by kernel_rfl)) h1 hg (fun x hx=>aJ x (by simp[hx])) (fun x hx=>jF x (by simp[hx]))) trodAll_mk0))) (fun _ _=>rfl) (by simp) hg
theorem both {a b:Bool} (h:a=true) (k:b=true):(a&&b)=true:=by rw[h,k];rfl
theorem called:Tryz.pinned.checked.prog.funcNamed Rows.lbNoneRow.func=some 3:=by kernel_rfl
theorem part2:mapsRowed Tryz.prog=true:=by kernel_rfl
theorem part4:namedTie Tryz.prog Rows.lbNoneRow.named Rows.lbNoneSpec.vars=true:=by kernel_rfl
theorem part9:(Rows.lbNoneRow.inPlace==Tryz.prog.inPlace 3)=true:=by kernel_rfl
theorem part10:(Rows.lbNoneRow.unfollowed==Tryz.prog.unfollowed 3)=true:=by kernel_rfl
theorem part11:(Rows.lbNoneRow.recurses==Tryz.prog.recurses 3)=true:=by kernel_rfl
theorem part12:(Rows.lbNoneRow.named==Tryz.prog.varsNamed 3)=true:=by kernel_rfl
theorem part22:(Rows.lbNoneRow.plainKeys==Tryz.prog.plainKeys)=true:=by kernel_rfl
theorem part24:Tryz.prog.stopsHeard=true:=by kernel_rfl
theorem part25:Tryz.prog.mayEnter=true:=by kernel_rfl
theorem part26:(Rows.lbNoneRow.lifted==Tryz.prog.liftsFinal)=true:=by kernel_rfl
theorem closed:joinedFacts Tryz.prog 3 Tryz.f3 Rows.lbNoneSpec Rows.lbNoneRow=true:=by
  unfold joinedFacts
  exact(both (both (both (both (both (both (both (both (both (both (both (both (both (both (both (both (both (both (both (both (both (both (both (both (both (both (both (both (both (both (both (by kernel_rfl) laid) part2) (by kernel_rfl)) part4) (by kernel_rfl)) (by kernel_rfl)) (by kernel_rfl)) (by kernel_rfl)) part9) part10) part11) part12) (by kernel_rfl)) (by kernel_rfl)) (by kernel_rfl)) (by kernel_rfl)) (by kernel_rfl)) (by kernel_rfl)) (by kernel_rfl)) (by kernel_rfl)) (by kernel_rfl)) part22) (by kernel_rfl)) part24) part25) part26) (by kernel_rfl)) (by kernel_rfl)) (by kernel_rfl)) (by kernel_rfl)) (by kernel_rfl))
theorem proved:Rows.LbNoneSaid:=
  OpenClaim.holds_of_wide 3 Tryz.f3 rfl rfl rfl rfl rfl rfl rfl ⟨rfl,rfl,rfl,rfl,rfl⟩ rfl rfl rfl rfl rfl called Tryz.func3 closed
    (of_decide_eq_true (by kernel_rfl)) (by unfold Func.isWrapper;first|(rw[if_pos (by decide+kernel)];kernel_rfl)|(rw[if_neg (by decide+kernel)];exact⟨rfl,rfl⟩))
    (fun os started H enc _=>lifted os started H enc)
end Go.Proofs.YtbjddgakboindaaGreat.lbNone
