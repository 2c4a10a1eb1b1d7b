/- The statement StoreRoomSaid: the law returns true for every input and leaves it as it was. -/
import Derived.Test.YtkdhdlfonmgheaaGreatRows
import Derived.Test.YtkdhdlfonmgheaaGreatBRoom6
import Derived.WalkKit
import Derived.ProofKit
import Derived.OpenShut
namespace Go.Proofs.YtkdhdlfonmgheaaGreat.storeRoom
open Go a6 Go.ChangeShapes Go.WideShapes Go.ChangeAt Go.RowKit
theorem own:ownKnob Tryz.prog.godebug=none:=by kernel_rfl
theorem laid:laidOutB Tryz.prog=true:=by kernel_rfl
set_option maxRecDepth 100000 in
theorem contract (v0 v1 v2:Value) (w:World) (h0:kr Tryz.prog w 5 v0) (h1:kr Tryz.prog w 5 v1) (h2:kr Tryz.prog w 39 v2):aP Tryz.prog 4 #[v0,v1,v2] w (fun v w1=>v= .bool true∧Ext w w1):=by
  obtain⟨a0,rfl,Gw,xl⟩:=yg.of h0 Tryz.underlying5
  obtain⟨a1,rfl,jc,r1⟩:=yg.of h1 Tryz.underlying5
  have:=u3 Gw xl;have:=u3 jc r1;obtain⟨a,rfl⟩:∃a:Nat,a0=(a:Int):=⟨a0.toNat,by omega⟩;obtain⟨b,rfl⟩:∃b:Nat,a1=(b:Int):=⟨a1.toNat,by omega⟩;obtain⟨l,A,rfl,ar⟩:=kc.of h2;exact Gv (by omega) (by omega) ar
set_option maxRecDepth 100000 in
theorem lifted (os:Os) (started:os.Started) (H:Type) (enc:TypeId×Value→H):
    ReturnsInHanded {} Tryz.checked os 4 .any (Rows.storeRoomSpec.pre6 enc Tryz.prog Tryz.f4 Rows.storeRoomRow.domain false) (Rows.storeRoomSpec.post enc Tryz.prog Tryz.f4 false true false false):=by
  refine returnsInHanded_of_change (C:=Tryz.checked) own started (by kernel_rfl) Tryz.func4
    (ChangeSpec.witness6 (enc:=enc) (C:=Tryz.checked) false ⟨#[], #[.int .u8 0, .int .u8 0, .slice none 0 0],[]⟩ 8 (by kernel_rfl) (by kernel_rfl) (by kernel_rfl) (by kernel_rfl)) ?_
  intro W base args ds gs before Bh cj GH _
  have g0:∀ (j:Nat) t v,Tryz.f4.params[j]? =some t→args[j]? =some v→Value.okWide Tryz.prog W .any base t v:=Bh
  have xm:=cj
  obtain⟨p,q,ny,dJ,rfl,oS,cT⟩:=cj
  have ar:DataW.TrodAll enc Tryz.prog W 0 (fun _=>true) true Tryz.f4.params.toList args.toList ds p:=ny
  rw[Tryz.params4] at ar g0
  obtain⟨v0,GI,d0,GJ,aN,qG,rC,rfl,rfl,h0,xl⟩:=trodAll_cons ar
  obtain⟨v1,wa,d1,GK,bB,gG,rfl,rfl,rfl,h1,r1⟩:=trodAll_cons xl
  obtain⟨v2,wb,d2,GL,bx,dZ,rfl,rfl,rfl,h2,bW⟩:=trodAll_cons r1
  obtain⟨rfl,rfl,rfl⟩:=trodAll_nil bW
  obtain rfl:args= #[v0,v1,v2]:=by cases args;simp_all
  obtain⟨rfl,rfl⟩:=trodVars_none dJ
  have lg:=uZ (g0 0 5 v0 rfl rfl) h0
  have av:=uZ (g0 1 5 v1 rfl rfl) h1
  have ax:=uZ (g0 2 39 v2 rfl rfl) h2
  clear ny Bh
  simp only[List.append_nil] at xm
  have aK:=fun x hx=>xm.lt x hx
  refine(contract v0 v1 v2 W lg av ax).mono fun v W' ⟨he,hg⟩=>?_
  subst he
  exact BT (pa:=_) (eM:=[]) xm Tryz.underlying4 rfl rfl (fun sp fA=>(trodAll_cons_mk (u0 laid (by kernel_rfl) (of_decide_eq_true (by kernel_rfl)) h0 hg (fun x hx=>aK x (by simp[hx])) (fun x hx=>fA x (by simp[hx]))) (trodAll_cons_mk (u0 laid (by kernel_rfl) (of_decide_eq_true (by kernel_rfl)) h1 hg (fun x hx=>aK x (by simp[hx])) (fun x hx=>fA x (by simp[hx]))) (trodAll_cons_mk (u0 laid (by kernel_rfl) (of_decide_eq_true (by kernel_rfl)) h2 hg (fun x hx=>aK x (by simp[hx])) (fun x hx=>fA x (by simp[hx]))) trodAll_mk0)))) (fun _ _=>rfl) (by simp) hg
theorem both {a b:Bool} (h:a=true) (k:b=true):(a&&b)=true:=by rw[h,k];rfl
theorem called:Tryz.pinned.checked.prog.funcNamed Rows.storeRoomRow.func=some 4:=by kernel_rfl
theorem part2:mapsRowed Tryz.prog=true:=by kernel_rfl
theorem part4:namedTie Tryz.prog Rows.storeRoomRow.named Rows.storeRoomSpec.vars=true:=by kernel_rfl
theorem part9:(Rows.storeRoomRow.inPlace==Tryz.prog.inPlace 4)=true:=by kernel_rfl
theorem part10:(Rows.storeRoomRow.unfollowed==Tryz.prog.unfollowed 4)=true:=by kernel_rfl
theorem part11:(Rows.storeRoomRow.recurses==Tryz.prog.recurses 4)=true:=by kernel_rfl
theorem part12:(Rows.storeRoomRow.named==Tryz.prog.varsNamed 4)=true:=by kernel_rfl
theorem part22:(Rows.storeRoomRow.plainKeys==Tryz.prog.plainKeys)=true:=by kernel_rfl
theorem part24:Tryz.prog.stopsHeard=true:=by kernel_rfl
theorem part25:Tryz.prog.mayEnter=true:=by kernel_rfl
theorem part26:(Rows.storeRoomRow.lifted==Tryz.prog.liftsFinal)=true:=by kernel_rfl
theorem closed:joinedFacts Tryz.prog 4 Tryz.f4 Rows.storeRoomSpec Rows.storeRoomRow=true:=by
  unfold joinedFacts
  exact(both (both (both (both (both (both (both (both (both (both (both (both (both (both (both (both (both (both (both (both (both (both (both (both (both (both (both (both (both (both (both (by kernel_rfl) laid) part2) (by kernel_rfl)) part4) (by kernel_rfl)) (by kernel_rfl)) (by kernel_rfl)) (by kernel_rfl)) part9) part10) part11) part12) (by kernel_rfl)) (by kernel_rfl)) (by kernel_rfl)) (by kernel_rfl)) (by kernel_rfl)) (by kernel_rfl)) (by kernel_rfl)) (by kernel_rfl)) (by kernel_rfl)) part22) (by kernel_rfl)) part24) part25) part26) (by kernel_rfl)) (by kernel_rfl)) (by kernel_rfl)) (by kernel_rfl)) (by kernel_rfl))
theorem proved:Rows.StoreRoomSaid:=
  OpenClaim.holds_of_wide 4 Tryz.f4 rfl rfl rfl rfl rfl rfl rfl ⟨rfl,rfl,rfl,rfl,rfl⟩ rfl rfl rfl rfl rfl called Tryz.func4 closed
    (of_decide_eq_true (by kernel_rfl)) (by unfold Func.isWrapper;first|(rw[if_pos (by decide+kernel)];kernel_rfl)|(rw[if_neg (by decide+kernel)];exact⟨rfl,rfl⟩))
    (fun os started H enc _=>lifted os started H enc)
end Go.Proofs.YtkdhdlfonmgheaaGreat.storeRoom
