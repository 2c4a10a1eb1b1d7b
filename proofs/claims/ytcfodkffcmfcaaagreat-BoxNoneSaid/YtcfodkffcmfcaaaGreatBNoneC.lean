/- The statement BoxNoneSaid: the law returns true for every input and leaves it as it was. -/
import Derived.Test.YtcfodkffcmfcaaaGreatRows
import Derived.Test.YtcfodkffcmfcaaaGreatBBNone6
import Derived.WalkKit
import Derived.ProofKit
import Derived.OpenShut
namespace Go.Proofs.YtcfodkffcmfcaaaGreat.boxNone
open Go aO Go.ChangeShapes Go.WideShapes Go.ChangeAt Go.RowKit
theorem own:ownKnob Tryz.prog.godebug=none:=by kernel_rfl
theorem laid:laidOutB Tryz.prog=true:=by kernel_rfl
set_option maxRecDepth 100000 in
theorem contract (v0 v1 v2:Value) (w:World) (h0:k8 Tryz.prog w 3 v0) (h1:k8 Tryz.prog w 24 v1) (h2:k8 Tryz.prog w 26 v2):az Tryz.prog 3 #[v0,v1,v2] w (fun v w1=>v= .bool true∧Ext w w1):=by
  obtain⟨a0,rfl,oT,GF⟩:=Hl.of h0 Tryz.underlying3
  obtain⟨f,b,d,rfl⟩:=Me.of h1;obtain⟨c0,a7,cl,cc,b1,bT,rfl⟩:=N7 h2;exact Oo a0 f b d c0 a7 cl cc b1 bT w
set_option maxRecDepth 100000 in
theorem lifted (os:Os) (started:os.Started) (H:Type) (enc:TypeId×Value→H):
    ReturnsInHanded {} Tryz.checked os 3 .any (Rows.boxNoneSpec.pre6 enc Tryz.prog Tryz.f3 Rows.boxNoneRow.domain false) (Rows.boxNoneSpec.post enc Tryz.prog Tryz.f3 false true false false):=by
  refine returnsInHanded_of_change (C:=Tryz.checked) own started (by kernel_rfl) Tryz.func3
    (ChangeSpec.witness6 (enc:=enc) (C:=Tryz.checked) false ⟨#[], #[.int .i64 0, .agg #[.int .i64 0, .int .i64 0, .int .u64 0], .agg #[.int .u64 0, .int .i64 0, .int .i64 0, .int .i64 0, .int .i64 0, .int .i64 0]],[]⟩ 8 (by kernel_rfl) (by kernel_rfl) (by kernel_rfl) (by kernel_rfl)) ?_
  intro W base args ds gs before GG b4 OA _
  have iE:∀ (j:Nat) t v,Tryz.f3.params[j]? =some t→args[j]? =some v→Value.okWide Tryz.prog W .any base t v:=GG
  have BG:=b4
  obtain⟨p,q,GH,dr,rfl,sm,dJ⟩:=b4
  have au:DataW.TrodAll enc Tryz.prog W 0 (fun _=>true) true Tryz.f3.params.toList args.toList ds p:=GH
  rw[Tryz.params3] at au iE
  obtain⟨v0,OB,d0,OC,a8,mw,vz,rfl,rfl,h0,GF⟩:=trodAll_cons au
  obtain⟨v1,OD,d1,OE,gh,ni,rfl,rfl,rfl,h1,r1⟩:=trodAll_cons GF
  obtain⟨v2,OF,d2,OG,df,lS,rfl,rfl,rfl,h2,b8⟩:=trodAll_cons r1
  obtain⟨rfl,rfl,rfl⟩:=trodAll_nil b8
  obtain rfl:args= #[v0,v1,v2]:=by cases args;simp_all
  obtain⟨rfl,rfl⟩:=trodVars_none dr
  have iV:=zF (iE 0 3 v0 rfl rfl) h0
  have aJ:=zF (iE 1 24 v1 rfl rfl) h1
  have aW:=zF (iE 2 26 v2 rfl rfl) h2
  clear GH GG
  simp only[List.append_nil] at BG
  have aI:=fun x hx=>BG.lt x hx
  refine(contract v0 v1 v2 W iV aJ aW).mono fun v W' ⟨he,hg⟩=>?_
  subst he
  exact Hj (pa:=_) (fJ:=[]) BG Tryz.underlying4 rfl rfl (fun sp gY=>(trodAll_cons_mk (zG laid (by kernel_rfl) (of_decide_eq_true (by kernel_rfl)) h0 hg (fun x hx=>aI x (by simp[hx])) (fun x hx=>gY x (by simp[hx]))) (trodAll_cons_mk (zG laid (by kernel_rfl) (of_decide_eq_true (by kernel_rfl)) h1 hg (fun x hx=>aI x (by simp[hx])) (fun x hx=>gY x (by simp[hx]))) (trodAll_cons_mk (zG laid (by kernel_rfl) (of_decide_eq_true (by kernel_rfl)) h2 hg (fun x hx=>aI x (by simp[hx])) (fun x hx=>gY x (by simp[hx]))) trodAll_mk0)))) (fun _ _=>rfl) (by simp) hg
theorem both {a b:Bool} (h:a=true) (k:b=true):(a&&b)=true:=by rw[h,k];rfl
theorem called:Tryz.pinned.checked.prog.funcNamed Rows.boxNoneRow.func=some 3:=by kernel_rfl
theorem part2:mapsRowed Tryz.prog=true:=by kernel_rfl
theorem part4:namedTie Tryz.prog Rows.boxNoneRow.named Rows.boxNoneSpec.vars=true:=by kernel_rfl
theorem part9:(Rows.boxNoneRow.inPlace==Tryz.prog.inPlace 3)=true:=by kernel_rfl
theorem part10:(Rows.boxNoneRow.unfollowed==Tryz.prog.unfollowed 3)=true:=by kernel_rfl
theorem part11:(Rows.boxNoneRow.recurses==Tryz.prog.recurses 3)=true:=by kernel_rfl
theorem part12:(Rows.boxNoneRow.named==Tryz.prog.varsNamed 3)=true:=by kernel_rfl
theorem part22:(Rows.boxNoneRow.plainKeys==Tryz.prog.plainKeys)=true:=by kernel_rfl
theorem part24:Tryz.prog.stopsHeard=true:=by kernel_rfl
theorem part25:Tryz.prog.mayEnter=true:=by kernel_rfl
theorem part26:(Rows.boxNoneRow.lifted==Tryz.prog.liftsFinal)=true:=by kernel_rfl
theorem closed:joinedFacts Tryz.prog 3 Tryz.f3 Rows.boxNoneSpec Rows.boxNoneRow=true:=by
  unfold joinedFacts
  exact(both (both (both (both (both (both (both (both (both (both (both (both (both (both (both (both (both (both (both (both (both (both (both (both (both (both (both (both (both (both (both (by kernel_rfl) laid) part2) (by kernel_rfl)) part4) (by kernel_rfl)) (by kernel_rfl)) (by kernel_rfl)) (by kernel_rfl)) part9) part10) part11) part12) (by kernel_rfl)) (by kernel_rfl)) (by kernel_rfl)) (by kernel_rfl)) (by kernel_rfl)) (by kernel_rfl)) (by kernel_rfl)) (by kernel_rfl)) (by kernel_rfl)) part22) (by kernel_rfl)) part24) part25) part26) (by kernel_rfl)) (by kernel_rfl)) (by kernel_rfl)) (by kernel_rfl)) (by kernel_rfl))
theorem proved:Rows.BoxNoneSaid:=
  OpenClaim.holds_of_wide 3 Tryz.f3 rfl rfl rfl rfl rfl rfl rfl ⟨rfl,rfl,rfl,rfl,rfl⟩ rfl rfl rfl rfl rfl called Tryz.func3 closed
    (of_decide_eq_true (by kernel_rfl)) (by unfold Func.isWrapper;first|(rw[if_pos (by decide+kernel)];kernel_rfl)|(rw[if_neg (by decide+kernel)];exact⟨rfl,rfl⟩))
    (fun os started H enc _=>lifted os started H enc)
end Go.Proofs.YtcfodkffcmfcaaaGreat.boxNone
