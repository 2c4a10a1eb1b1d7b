/- The statement StoreSpoiltSaid: the law returns true for every input and leaves it as it was. -/
import Derived.Test.YtkdhdlfonmgheaaGreatRows
import Derived.Test.YtkdhdlfonmgheaaGreatBSpoilt7
import Derived.WalkKit
import Derived.ProofKit
import Derived.OpenShut
namespace Go.Proofs.YtkdhdlfonmgheaaGreat.storeSpoilt
open Go a_ Go.ChangeShapes Go.WideShapes Go.ChangeAt Go.RowKit
theorem own:ownKnob Tryz.prog.godebug=none:=by kernel_rfl
theorem laid:laidOutB Tryz.prog=true:=by kernel_rfl
set_option maxRecDepth 100000 in
theorem contract (v0 v1:Value) (w:World) (h0:l_ Tryz.prog w 82 v0) (h1:l_ Tryz.prog w 84 v1):aP Tryz.prog 7 #[v0,v1] w (fun v w1=>v= .bool true∧Ext w w1):=by
  obtain⟨i,a,c,rfl⟩:=Jf.of h1;obtain⟨l,A,rfl,ar⟩:=kQ.of h0;exact Jg ar
set_option maxRecDepth 100000 in
theorem lifted (os:Os) (started:os.Started) (H:Type) (enc:TypeId×Value→H):
    ReturnsInHanded {} Tryz.checked os 7 .any (Rows.storeSpoiltSpec.pre6 enc Tryz.prog Tryz.f7 Rows.storeSpoiltRow.domain false) (Rows.storeSpoiltSpec.post enc Tryz.prog Tryz.f7 false true false false):=by
  refine returnsInHanded_of_change (C:=Tryz.checked) own started (by kernel_rfl) Tryz.func7
    (ChangeSpec.witness6 (enc:=enc) (C:=Tryz.checked) false ⟨#[], #[.slice none 0 0, .agg #[.int .i64 0, .int .i64 0, .int .u8 0]],[]⟩ 8 (by kernel_rfl) (by kernel_rfl) (by kernel_rfl) (by kernel_rfl)) ?_
  intro W base args ds gs before Ds cd Jn _
  have iE:∀ (j:Nat) t v,Tryz.f7.params[j]? =some t→args[j]? =some v→Value.okWide Tryz.prog W .any base t v:=Ds
  have zi:=cd
  obtain⟨p,q,sy,dR,rfl,qg,c6⟩:=cd
  have ar:DataW.TrodAll enc Tryz.prog W 0 (fun _=>true) true Tryz.f7.params.toList args.toList ds p:=sy
  rw[Tryz.params7] at ar iE
  obtain⟨v0,Jo,d0,Jp,aL,kK,tb,rfl,rfl,h0,Jh⟩:=trodAll_cons ar
  obtain⟨v1,x0,d1,Jq,br,fJ,rfl,rfl,rfl,h1,r1⟩:=trodAll_cons Jh
  obtain⟨rfl,rfl,rfl⟩:=trodAll_nil r1
  obtain rfl:args= #[v0,v1]:=by cases args;simp_all
  obtain⟨rfl,rfl⟩:=trodVars_none dR
  have jc:=Ag (iE 0 82 v0 rfl rfl) h0
  have au:=Ag (iE 1 84 v1 rfl rfl) h1
  clear sy Ds
  simp only[List.append_nil] at zi
  have aH:=fun x hx=>zi.lt x hx
  refine(contract v0 v1 W jc au).mono fun v W' ⟨he,hg⟩=>?_
  subst he
  exact D5 (pa:=_) (ff:=[]) zi Tryz.underlying4 rfl rfl (fun sp fR=>(trodAll_cons_mk (Ai laid (by kernel_rfl) (of_decide_eq_true (by kernel_rfl)) h0 hg (fun x hx=>aH x (by simp[hx])) (fun x hx=>fR x (by simp[hx]))) (trodAll_cons_mk (Ai laid (by kernel_rfl) (of_decide_eq_true (by kernel_rfl)) h1 hg (fun x hx=>aH x (by simp[hx])) (fun x hx=>fR x (by simp[hx]))) trodAll_mk0))) (fun _ _=>rfl) (by simp) hg
theorem both {a b:Bool} (h:a=true) (k:b=true):(a&&b)=true:=by rw[h,k];rfl
theorem called:Tryz.pinned.checked.prog.funcNamed Rows.storeSpoiltRow.func=some 7:=by kernel_rfl
theorem part2:mapsRowed Tryz.prog=true:=by kernel_rfl
theorem part4:namedTie Tryz.prog Rows.storeSpoiltRow.named Rows.storeSpoiltSpec.vars=true:=by kernel_rfl
theorem part9:(Rows.storeSpoiltRow.inPlace==Tryz.prog.inPlace 7)=true:=by kernel_rfl
theorem part10:(Rows.storeSpoiltRow.unfollowed==Tryz.prog.unfollowed 7)=true:=by kernel_rfl
theorem part11:(Rows.storeSpoiltRow.recurses==Tryz.prog.recurses 7)=true:=by kernel_rfl
theorem part12:(Rows.storeSpoiltRow.named==Tryz.prog.varsNamed 7)=true:=by kernel_rfl
theorem part22:(Rows.storeSpoiltRow.plainKeys==Tryz.prog.plainKeys)=true:=by kernel_rfl
theorem part24:Tryz.prog.stopsHeard=true:=by kernel_rfl
theorem part25:Tryz.prog.mayEnter=true:=by kernel_rfl
theorem part26:(Rows.storeSpoiltRow.lifted==Tryz.prog.liftsFinal)=true:=by kernel_rfl
theorem closed:joinedFacts Tryz.prog 7 Tryz.f7 Rows.storeSpoiltSpec Rows.storeSpoiltRow=true:=by
  unfold joinedFacts
  exact(both (both (both (both (both (both (both (both (both (both (both (both (both (both (both (both (both (both (both (both (both (both (both (both (both (both (both (both (both (both (both (by kernel_rfl) laid) part2) (by kernel_rfl)) part4) (by kernel_rfl)) (by kernel_rfl)) (by kernel_rfl)) (by kernel_rfl)) part9) part10) part11) part12) (by kernel_rfl)) (by kernel_rfl)) (by kernel_rfl)) (by kernel_rfl)) (by kernel_rfl)) (by kernel_rfl)) (by kernel_rfl)) (by kernel_rfl)) (by kernel_rfl)) part22) (by kernel_rfl)) part24) part25) part26) (by kernel_rfl)) (by kernel_rfl)) (by kernel_rfl)) (by kernel_rfl)) (by kernel_rfl))
theorem proved:Rows.StoreSpoiltSaid:=
  OpenClaim.holds_of_wide 7 Tryz.f7 rfl rfl rfl rfl rfl rfl rfl ⟨rfl,rfl,rfl,rfl,rfl⟩ rfl rfl rfl rfl rfl called Tryz.func7 closed
    (of_decide_eq_true (by kernel_rfl)) (by unfold Func.isWrapper;first|(rw[if_pos (by decide+kernel)];kernel_rfl)|(rw[if_neg (by decide+kernel)];exact⟨rfl,rfl⟩))
    (fun os started H enc _=>lifted os started H enc)
end Go.Proofs.YtkdhdlfonmgheaaGreat.storeSpoilt
