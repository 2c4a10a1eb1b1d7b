/- The statement AffinNoneSaid: the law returns true for every input and leaves it as it was. -/
import Derived.Test.YtkdhdlfonmgheaaGreatRows
import Derived.Test.YtkdhdlfonmgheaaGreatBANone6
import Derived.WalkKit
import Derived.ProofKit
import Derived.OpenShut
namespace Go.Proofs.YtkdhdlfonmgheaaGreat.affinNone
open Go aQ Go.ChangeShapes Go.WideShapes Go.ChangeAt Go.RowKit
theorem own:ownKnob Tryz.prog.godebug=none:=by kernel_rfl
theorem laid:laidOutB Tryz.prog=true:=by kernel_rfl
set_option maxRecDepth 100000 in
theorem contract (v0 v1:Value) (w:World) (h0:lC Tryz.prog w 60 v0) (h1:lC Tryz.prog w 3 v1):aH Tryz.prog 5 #[v0,v1] w (fun v w1=>v= .bool true∧Ext w w1):=by
  obtain⟨a1,rfl,kk,r1⟩:=B_.of h1 Tryz.underlying3
  obtain⟨X,rfl,cE⟩:=q5.of h0;exact G5 a1 cE
set_option maxRecDepth 100000 in
theorem lifted (os:Os) (started:os.Started) (H:Type) (enc:TypeId×Value→H):
    ReturnsInHanded {} Tryz.checked os 5 .any (Rows.affinNoneSpec.pre6 enc Tryz.prog Tryz.f5 Rows.affinNoneRow.domain false) (Rows.affinNoneSpec.post enc Tryz.prog Tryz.f5 false true false false):=by
  refine returnsInHanded_of_change (C:=Tryz.checked) own started (by kernel_rfl) Tryz.func5
    (ChangeSpec.witness6 (enc:=enc) (C:=Tryz.checked) false ⟨#[], #[.agg #[.int .i64 0, .int .i64 0, .bool false, .int .u8 0, .int .u8 0, .int .u8 0, .int .u8 0, .int .u8 0, .int .u8 0, .int .u8 0, .int .u8 0, .int .u8 0, .int .u8 0, .int .u8 0, .int .u8 0, .int .u8 0, .int .u8 0, .int .u8 0, .int .u8 0, .int .i64 0, .int .i64 0, .int .u64 0, .slice none 0 0, .int .u64 0, .int .i64 0, .slice none 0 0], .int .i64 0],[]⟩ 8 (by kernel_rfl) (by kernel_rfl) (by kernel_rfl) (by kernel_rfl)) ?_
  intro W base args ds gs before Bw cF Hd _
  have ib:∀ (j:Nat) t v,Tryz.f5.params[j]? =some t→args[j]? =some v→Value.okWide Tryz.prog W .any base t v:=Bw
  have xo:=cF
  obtain⟨p,q,Bx,e5,rfl,oY,ep⟩:=cF
  have ar:DataW.TrodAll enc Tryz.prog W 0 (fun _=>true) true Tryz.f5.params.toList args.toList ds p:=Bx
  rw[Tryz.params5] at ar ib
  obtain⟨v0,He,d0,Hf,aM,jJ,rQ,rfl,rfl,h0,G6⟩:=trodAll_cons ar
  obtain⟨v1,wy,d1,Hg,br,g1,rfl,rfl,rfl,h1,r1⟩:=trodAll_cons G6
  obtain⟨rfl,rfl,rfl⟩:=trodAll_nil r1
  obtain rfl:args= #[v0,v1]:=by cases args;simp_all
  obtain⟨rfl,rfl⟩:=trodVars_none e5
  have wv:=yg (ib 0 60 v0 rfl rfl) h0
  have av:=yg (ib 1 3 v1 rfl rfl) h1
  clear Bx Bw
  simp only[List.append_nil] at xo
  have aK:=fun x hx=>xo.lt x hx
  refine(contract v0 v1 W wv av).mono fun v W' ⟨he,hg⟩=>?_
  subst he
  exact B9 (pa:=_) (eG:=[]) xo Tryz.underlying4 rfl rfl (fun sp hV=>(trodAll_cons_mk (yi laid (by kernel_rfl) (of_decide_eq_true (by kernel_rfl)) h0 hg (fun x hx=>aK x (by simp[hx])) (fun x hx=>hV x (by simp[hx]))) (trodAll_cons_mk (yi laid (by kernel_rfl) (of_decide_eq_true (by kernel_rfl)) h1 hg (fun x hx=>aK x (by simp[hx])) (fun x hx=>hV x (by simp[hx]))) trodAll_mk0))) (fun _ _=>rfl) (by simp) hg
theorem both {a b:Bool} (h:a=true) (k:b=true):(a&&b)=true:=by rw[h,k];rfl
theorem called:Tryz.pinned.checked.prog.funcNamed Rows.affinNoneRow.func=some 5:=by kernel_rfl
theorem part2:mapsRowed Tryz.prog=true:=by kernel_rfl
theorem part4:namedTie Tryz.prog Rows.affinNoneRow.named Rows.affinNoneSpec.vars=true:=by kernel_rfl
theorem part9:(Rows.affinNoneRow.inPlace==Tryz.prog.inPlace 5)=true:=by kernel_rfl
theorem part10:(Rows.affinNoneRow.unfollowed==Tryz.prog.unfollowed 5)=true:=by kernel_rfl
theorem part11:(Rows.affinNoneRow.recurses==Tryz.prog.recurses 5)=true:=by kernel_rfl
theorem part12:(Rows.affinNoneRow.named==Tryz.prog.varsNamed 5)=true:=by kernel_rfl
theorem part22:(Rows.affinNoneRow.plainKeys==Tryz.prog.plainKeys)=true:=by kernel_rfl
theorem part24:Tryz.prog.stopsHeard=true:=by kernel_rfl
theorem part25:Tryz.prog.mayEnter=true:=by kernel_rfl
theorem part26:(Rows.affinNoneRow.lifted==Tryz.prog.liftsFinal)=true:=by kernel_rfl
theorem closed:joinedFacts Tryz.prog 5 Tryz.f5 Rows.affinNoneSpec Rows.affinNoneRow=true:=by
  unfold joinedFacts
  exact(both (both (both (both (both (both (both (both (both (both (both (both (both (both (both (both (both (both (both (both (both (both (both (both (both (both (both (both (both (both (both (by kernel_rfl) laid) part2) (by kernel_rfl)) part4) (by kernel_rfl)) (by kernel_rfl)) (by kernel_rfl)) (by kernel_rfl)) part9) part10) part11) part12) (by kernel_rfl)) (by kernel_rfl)) (by kernel_rfl)) (by kernel_rfl)) (by kernel_rfl)) (by kernel_rfl)) (by kernel_rfl)) (by kernel_rfl)) (by kernel_rfl)) part22) (by kernel_rfl)) part24) part25) part26) (by kernel_rfl)) (by kernel_rfl)) (by kernel_rfl)) (by kernel_rfl)) (by kernel_rfl))
theorem proved:Rows.AffinNoneSaid:=
  OpenClaim.holds_of_wide 5 Tryz.f5 rfl rfl rfl rfl rfl rfl rfl ⟨rfl,rfl,rfl,rfl,rfl⟩ rfl rfl rfl rfl rfl called Tryz.func5 closed
    (of_decide_eq_true (by kernel_rfl)) (by unfold Func.isWrapper;first|(rw[if_pos (by decide+kernel)];kernel_rfl)|(rw[if_neg (by decide+kernel)];exact⟨rfl,rfl⟩))
    (fun os started H enc _=>lifted os started H enc)
end Go.Proofs.YtkdhdlfonmgheaaGreat.affinNone
