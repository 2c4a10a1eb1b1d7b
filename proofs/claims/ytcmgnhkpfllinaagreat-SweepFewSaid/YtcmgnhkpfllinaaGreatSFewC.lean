/- The statement SweepFewSaid: the law returns true for every input and leaves it as it was. -/
import Derived.Test.YtcmgnhkpfllinaaGreatRows
import Derived.Test.YtcmgnhkpfllinaaGreatBSFew6
import Derived.WalkKit
import Derived.ProofKit
import Derived.OpenShut
namespace Go.Proofs.YtcmgnhkpfllinaaGreat.sweepFew
open Go aQ Go.ChangeShapes Go.WideShapes Go.ChangeAt Go.RowKit
theorem own:ownKnob Tryz.prog.godebug=none:=by kernel_rfl
theorem laid:laidOutB Tryz.prog=true:=by kernel_rfl
set_option maxRecDepth 100000 in
theorem contract (v0 v1 v2:Value) (w:World) (h0:j4 Tryz.prog w 5 v0) (h1:j4 Tryz.prog w 22 v1) (h2:j4 Tryz.prog w 25 v2):aJ Tryz.prog 3 #[v0,v1,v2] w (fun v w1=>v= .bool true∧Ext w w1):=by
  obtain⟨a0,rfl,Kh,zv⟩:=Ep.of h0 Tryz.underlying5
  have:=Au Kh zv;obtain⟨a,rfl⟩:∃a:Nat,a0=(a:Int):=⟨a0.toNat,by omega⟩;obtain⟨l,L,rfl,cS,hu⟩:=Kg.of h1;obtain⟨X,rfl⟩:=mK.of h2;exact Kf (by omega) cS hu _ _ _
set_option maxRecDepth 100000 in
theorem lifted (os:Os) (started:os.Started) (H:Type) (enc:TypeId×Value→H):
    ReturnsInHanded {} Tryz.checked os 3 .any (Rows.sweepFewSpec.pre6 enc Tryz.prog Tryz.f3 Rows.sweepFewRow.domain false) (Rows.sweepFewSpec.post enc Tryz.prog Tryz.f3 false true false false):=by
  refine returnsInHanded_of_change (C:=Tryz.checked) own started (by kernel_rfl) Tryz.func3
    (ChangeSpec.witness6 (enc:=enc) (C:=Tryz.checked) false ⟨#[], #[.int .u8 0, .slice none 0 0, .agg #[.int .i64 0, .int .u64 0, .bool false]],[]⟩ 8 (by kernel_rfl) (by kernel_rfl) (by kernel_rfl) (by kernel_rfl)) ?_
  intro W base args ds gs before DL cw Ko _
  have jA:∀ (j:Nat) t v,Tryz.f3.params[j]? =some t→args[j]? =some v→Value.okWide Tryz.prog W .any base t v:=DL
  have zw:=cw
  obtain⟨p,q,DM,gd,rfl,qT,eg⟩:=cw
  have au:DataW.TrodAll enc Tryz.prog W 0 (fun _=>true) true Tryz.f3.params.toList args.toList ds p:=DM
  rw[Tryz.params3] at au jA
  obtain⟨v0,Kp,d0,Kq,aO,kN,tG,rfl,rfl,h0,zv⟩:=trodAll_cons au
  obtain⟨v1,yA,d1,Kr,bk,hM,rfl,rfl,rfl,h1,r1⟩:=trodAll_cons zv
  obtain⟨v2,yB,d2,Ks,bh,eo,rfl,rfl,rfl,h2,aF⟩:=trodAll_cons r1
  obtain⟨rfl,rfl,rfl⟩:=trodAll_nil aF
  obtain rfl:args= #[v0,v1,v2]:=by cases args;simp_all
  obtain⟨rfl,rfl⟩:=trodVars_none gd
  have sF:=xf (jA 0 5 v0 rfl rfl) h0
  have aw:=xf (jA 1 22 v1 rfl rfl) h1
  have ay:=xf (jA 2 25 v2 rfl rfl) h2
  clear DM DL
  simp only[List.append_nil] at zw
  have aH:=fun x hx=>zw.lt x hx
  refine(contract v0 v1 v2 W sF aw ay).mono fun v W' ⟨he,hg⟩=>?_
  subst he
  exact Eo (pa:=_) (eW:=[]) zw Tryz.underlying4 rfl rfl (fun sp im=>(trodAll_cons_mk (xg laid (by kernel_rfl) (of_decide_eq_true (by kernel_rfl)) h0 hg (fun x hx=>aH x (by simp[hx])) (fun x hx=>im x (by simp[hx]))) (trodAll_cons_mk (xg laid (by kernel_rfl) (of_decide_eq_true (by kernel_rfl)) h1 hg (fun x hx=>aH x (by simp[hx])) (fun x hx=>im x (by simp[hx]))) (trodAll_cons_mk (xg laid (by kernel_rfl) (of_decide_eq_true (by kernel_rfl)) h2 hg (fun x hx=>aH x (by simp[hx])) (fun x hx=>im x (by simp[hx]))) trodAll_mk0)))) (fun _ _=>rfl) (by simp) hg
theorem both {a b:Bool} (h:a=true) (k:b=true):(a&&b)=true:=by rw[h,k];rfl
theorem called:Tryz.pinned.checked.prog.funcNamed Rows.sweepFewRow.func=some 3:=by kernel_rfl
theorem part2:mapsRowed Tryz.prog=true:=by kernel_rfl
theorem part4:namedTie Tryz.prog Rows.sweepFewRow.named Rows.sweepFewSpec.vars=true:=by kernel_rfl
theorem part9:(Rows.sweepFewRow.inPlace==Tryz.prog.inPlace 3)=true:=by kernel_rfl
theorem part10:(Rows.sweepFewRow.unfollowed==Tryz.prog.unfollowed 3)=true:=by kernel_rfl
theorem part11:(Rows.sweepFewRow.recurses==Tryz.prog.recurses 3)=true:=by kernel_rfl
theorem part12:(Rows.sweepFewRow.named==Tryz.prog.varsNamed 3)=true:=by kernel_rfl
theorem part22:(Rows.sweepFewRow.plainKeys==Tryz.prog.plainKeys)=true:=by kernel_rfl
theorem part24:Tryz.prog.stopsHeard=true:=by kernel_rfl
theorem part25:Tryz.prog.mayEnter=true:=by kernel_rfl
theorem part26:(Rows.sweepFewRow.lifted==Tryz.prog.liftsFinal)=true:=by kernel_rfl
theorem closed:joinedFacts Tryz.prog 3 Tryz.f3 Rows.sweepFewSpec Rows.sweepFewRow=true:=by
  unfold joinedFacts
  exact(both (both (both (both (both (both (both (both (both (both (both (both (both (both (both (both (both (both (both (both (both (both (both (both (both (both (both (both (both (both (both (by kernel_rfl) laid) part2) (by kernel_rfl)) part4) (by kernel_rfl)) (by kernel_rfl)) (by kernel_rfl)) (by kernel_rfl)) part9) part10) part11) part12) (by kernel_rfl)) (by kernel_rfl)) (by kernel_rfl)) (by kernel_rfl)) (by kernel_rfl)) (by kernel_rfl)) (by kernel_rfl)) (by kernel_rfl)) (by kernel_rfl)) part22) (by kernel_rfl)) part24) part25) part26) (by kernel_rfl)) (by kernel_rfl)) (by kernel_rfl)) (by kernel_rfl)) (by kernel_rfl))
theorem proved:Rows.SweepFewSaid:=
  OpenClaim.holds_of_wide 3 Tryz.f3 rfl rfl rfl rfl rfl rfl rfl ⟨rfl,rfl,rfl,rfl,rfl⟩ rfl rfl rfl rfl rfl called Tryz.func3 closed
    (of_decide_eq_true (by kernel_rfl)) (by unfold Func.isWrapper;first|(rw[if_pos (by decide+kernel)];kernel_rfl)|(rw[if_neg (by decide+kernel)];exact⟨rfl,rfl⟩))
    (fun os started H enc _=>lifted os started H enc)
end Go.Proofs.YtcmgnhkpfllinaaGreat.sweepFew
