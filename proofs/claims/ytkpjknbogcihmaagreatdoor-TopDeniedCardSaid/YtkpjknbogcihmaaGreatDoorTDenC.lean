/- The statement TopDeniedSaid: the law returns true for every input and leaves it as it was. -/
import Derived.Test.YtkpjknbogcihmaaGreatDoorRows
import Derived.Test.YtkpjknbogcihmaaGreatDoorBTDen6
import Derived.WalkKit
import Derived.ProofKit
import Derived.OpenShut
import Derived.LaidMore
import Derived.Lay
import Derived.SevenTiedAt
import Derived.Stop.Joined
import Derived.Test.YtkpjknbogcihmaaGreatDoorTie
import Derived.Test.YtkpjknbogcihmaaGreatDoorCards
namespace Go.Proofs.YtkpjknbogcihmaaGreatDoor.topDenied
open Go aQ Go.ChangeShapes Go.WideShapes Go.ChangeAt Go.RowKit
theorem own:ownKnob Tryz.prog.godebug=none:=by kernel_rfl
theorem laid:laidOutB Tryz.prog=true:=by kernel_rfl
set_option maxRecDepth 100000 in
theorem contract (v0 v1 v2:Value) (w:World) (h0:lE Tryz.prog w 27 v0) (h1:lE Tryz.prog w 28 v1) (h2:lE Tryz.prog w 5 v2) (fc:laidMetH Tryz.prog Rows.topDeniedRow.laid w):aA Tryz.prog 3 #[v0,v1,v2] w (fun v w1=>v= .bool true∧Ext w w1):=by
  obtain⟨a1,rfl,s1⟩:=rI.of h1 Tryz.underlying28 Tryz.underlying5 (by kernel_rfl)
  obtain⟨a2,rfl,cq,a_⟩:=Jg.of h2 Tryz.underlying5
  obtain⟨src,dst,sp,dp,an,rfl,gm,iq⟩:=Rq.of h0;obtain⟨l,hl⟩:=LI s1;obtain⟨c,rfl⟩:=IA (Bq cq a_);exact Rp gm iq hl s1.le (Rr fc (by kernel_rfl) (by kernel_rfl) (by kernel_rfl))
set_option maxRecDepth 100000 in
theorem lifted (os:Os) (started:os.Started) (H:Type) (enc:TypeId×Value→H):
    ReturnsInHanded {} Tryz.checked os 3 .any (fun w args=>(Rows.topDeniedSpec.pre enc Tryz.prog Tryz.f3 Rows.topDeniedRow.domain false w args∧laidMetH Tryz.prog Rows.topDeniedRow.laid w)∧sizedMet enc Tryz.prog Tryz.f3 (OpenSpec.ofChange Rows.topDeniedSpec) false w args) (Rows.topDeniedSpec.post enc Tryz.prog Tryz.f3 false true false false):=by
  refine returnsInHanded_of_change_and (C:=Tryz.checked) (X:=fun w _=>laidMetH Tryz.prog Rows.topDeniedRow.laid w) (fun _ _ _ hh h=>h.of_heap hh) own started (by kernel_rfl) Tryz.func3
    (ChangeSpec.witness_shaped (enc:=enc) (C:=Tryz.checked) (os:=os) (X:=fun w _=>laidMetH Tryz.prog Rows.topDeniedRow.laid w) false (World.laidAll Tryz.prog os Rows.topDeniedRow.laid) #[.agg #[.bool false, .int .u8 0, .int .u8 0, .int .u8 0, .int .u8 0, .int .u8 0, .int .u8 0, .int .u8 0, .int .u8 0, .int .u8 0, .int .u8 0, .int .u8 0, .int .u8 0, .int .u8 0, .int .u8 0, .int .u8 0, .int .u8 0, .bool false, .int .u8 0, .int .u8 0, .int .u8 0, .int .u8 0, .int .u8 0, .int .u8 0, .int .u8 0, .int .u8 0, .int .u8 0, .int .u8 0, .int .u8 0, .int .u8 0, .int .u8 0, .int .u8 0, .int .u8 0, .int .u8 0, .int .u16 0, .int .u16 0, .int .u8 0], .slice none 0 0, .int .u8 0] 8 (World.laidAll_os _ _ _)
      (World.shaped_of_ZipB (by kernel_rfl) (by kernel_rfl)) (by kernel_rfl) (by kernel_rfl) (by kernel_rfl)
      (by rw[MakeChecks.laidMetH_plain _ _ _ (by kernel_rfl)];exact laidMet_laidAll _ (by kernel_rfl) (by kernel_rfl))) ?_
  intro W base args ds gs before IB cu RD _ fc _
  have ku:∀ (j:Nat) t v,Tryz.f3.params[j]? =some t→args[j]? =some v→Value.okWide Tryz.prog W .any base t v:=IB
  have Di:=cu
  obtain⟨p,q,IC,fo,rfl,sR,ie⟩:=cu
  have ar:DataW.TrodAll enc Tryz.prog W 0 (fun _=>true) true Tryz.f3.params.toList args.toList ds p:=IC
  rw[Tryz.params3] at ar ku
  obtain⟨v0,RE,d0,RF,bm,ng,wA,rfl,rfl,h0,Rw⟩:=trodAll_cons ar
  obtain⟨v1,RG,d1,RH,iW,jx,rfl,rfl,rfl,h1,r1⟩:=trodAll_cons Rw
  obtain⟨v2,RI,d2,RJ,fH,iY,rfl,rfl,rfl,h2,a_⟩:=trodAll_cons r1
  obtain⟨rfl,rfl,rfl⟩:=trodAll_nil a_
  obtain rfl:args= #[v0,v1,v2]:=by cases args;simp_all
  obtain⟨rfl,rfl⟩:=trodVars_none fo
  have jP:=Bn (ku 0 27 v0 rfl rfl) h0
  have aS:=Bn (ku 1 28 v1 rfl rfl) h1
  have bf:=Bn (ku 2 5 v2 rfl rfl) h2
  clear IC IB
  simp only[List.append_nil] at Di
  have aK:=fun x hx=>Di.lt x hx
  refine(contract v0 v1 v2 W jP aS bf fc).mono fun v W' ⟨he,hg⟩=>?_
  subst he
  exact Je (pa:=_) (fS:=[]) Di Tryz.underlying4 rfl rfl (fun sp gm=>(trodAll_cons_mk (Bo laid (by kernel_rfl) (of_decide_eq_true (by kernel_rfl)) h0 hg (fun x hx=>aK x (by simp[hx])) (fun x hx=>gm x (by simp[hx]))) (trodAll_cons_mk (Bo laid (by kernel_rfl) (of_decide_eq_true (by kernel_rfl)) h1 hg (fun x hx=>aK x (by simp[hx])) (fun x hx=>gm x (by simp[hx]))) (trodAll_cons_mk (Bo laid (by kernel_rfl) (of_decide_eq_true (by kernel_rfl)) h2 hg (fun x hx=>aK x (by simp[hx])) (fun x hx=>gm x (by simp[hx]))) trodAll_mk0)))) (fun _ _=>rfl) (by simp) hg
theorem both {a b:Bool} (h:a=true) (k:b=true):(a&&b)=true:=by rw[h,k];rfl
theorem called:Tryz.pinned.checked.prog.funcNamed Rows.topDeniedRow.func=some 3:=by kernel_rfl
theorem part2:mapsRowed Tryz.prog=true:=by kernel_rfl
theorem part4:namedTie Tryz.prog Rows.topDeniedRow.named Rows.topDeniedSpec.vars=true:=by kernel_rfl
theorem part9:(Rows.topDeniedRow.inPlace==Tryz.prog.inPlace 3)=true:=by kernel_rfl
theorem part10:(Rows.topDeniedRow.unfollowed==Tryz.prog.unfollowed 3)=true:=by kernel_rfl
theorem part11:(Rows.topDeniedRow.recurses==Tryz.prog.recurses 3)=true:=by kernel_rfl
theorem part12:(Rows.topDeniedRow.named==Tryz.prog.varsNamed 3)=true:=by kernel_rfl
theorem part22:(Rows.topDeniedRow.plainKeys==Tryz.prog.plainKeys)=true:=by kernel_rfl
theorem part24:Tryz.prog.stopsHeard=true:=by kernel_rfl
theorem part25:Tryz.prog.mayEnter=true:=by kernel_rfl
theorem part26:(Rows.topDeniedRow.lifted==Tryz.prog.liftsFinal)=true:=by kernel_rfl
theorem closed:joinedFacts Tryz.prog 3 Tryz.f3 Rows.topDeniedSpec Rows.topDeniedRow=true:=by
  unfold joinedFacts
  exact(both (both (both (both (both (both (both (both (both (both (both (both (both (both (both (both (both (both (both (both (both (both (both (both (both (both (both (both (both (both (both (by kernel_rfl) laid) part2) (by kernel_rfl)) part4) (by kernel_rfl)) (by kernel_rfl)) (by kernel_rfl)) (by kernel_rfl)) part9) part10) part11) part12) (by kernel_rfl)) (by kernel_rfl)) (by kernel_rfl)) (by kernel_rfl)) (by kernel_rfl)) (by kernel_rfl)) (by kernel_rfl)) (by kernel_rfl)) (by kernel_rfl)) part22) (by kernel_rfl)) part24) part25) part26) (by kernel_rfl)) (by kernel_rfl)) (by kernel_rfl)) (by kernel_rfl)) (by kernel_rfl))
theorem proved:Rows.TopDeniedSaid:=
  OpenClaim.holds_of_wide 3 Tryz.f3 rfl rfl rfl rfl rfl rfl rfl ⟨rfl,rfl,rfl,rfl,rfl⟩ rfl rfl rfl rfl rfl called Tryz.func3 closed
    (of_decide_eq_true (by kernel_rfl)) (by unfold Func.isWrapper;first|(rw[if_pos (by decide+kernel)];kernel_rfl)|(rw[if_neg (by decide+kernel)];exact⟨rfl,rfl⟩))
    (fun os started H enc _=>lifted os started H enc)
theorem card:Rows.TopDeniedCardSaid:=
  Claim7.holds_tied_plain_at .later [] [.data, .data, .data] true (true, "9ea4e8db8d77d48e8d480e65d1df8dd1964e439778b8117c7250c65622f9ecb9") false proved (fun _ h=>by cases h) (by kernel_rfl) (fun _ h=>by cases h) topDenied_row_tie rfl ⟨rfl,rfl⟩ (by kernel_rfl) rfl
    (fun f fn hf kr=>by
      obtain rfl:f=3:=Option.some.inj ((show Tryz.prog.funcNamed "stanchion/stanchiontop.TopDenied" =some 3 by kernel_rfl).symm.trans hf)|>.symm
      obtain rfl:fn=Tryz.f3:=(Option.some.inj (Tryz.func3.symm.trans kr)).symm
      exact⟨by kernel_rfl,fun j t ht=>by
        rw[Tryz.params3] at ht
        have hm:t∈ [27,28,5]:=by simpa using Array.mem_of_getElem? ht
        have cW:([27,28,5].all fun u=> !Tryz.prog.wantsStandIn u)=true:=by kernel_rfl
        exact(show Tryz.prog.wantsStandIn t=false by simpa using List.all_eq_true.1 cW t hm)⟩)
    Rv
end Go.Proofs.YtkpjknbogcihmaaGreatDoor.topDenied
