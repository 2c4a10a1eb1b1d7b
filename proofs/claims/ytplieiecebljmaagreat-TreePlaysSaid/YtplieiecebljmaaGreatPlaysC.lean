/- The statement TreePlaysSaid: the law returns true for every input and leaves it as it was. -/
import Derived.Test.YtplieiecebljmaaGreatRows
import Derived.Test.YtplieiecebljmaaGreatBPlays6
import Derived.WalkKit
import Derived.ProofKit
import Derived.OpenShut
namespace Go.Proofs.YtplieiecebljmaaGreat.treePlays
open Go cd Go.ChangeShapes Go.WideShapes Go.ChangeAt Go.RowKit
theorem own:ownKnob Tryz.prog.godebug=none:=by kernel_rfl
theorem laid:laidOutB Tryz.prog=true:=by kernel_rfl
set_option maxRecDepth 100000 in
theorem contract (v0 v1:Value) (w:World) (b7:BT Tryz.prog w 5 v0) (U:BT Tryz.prog w 70 v1):aO Tryz.prog 9 #[v0,v1] w (fun v ag=>v= .bool true∧Ext w ag):=by
  obtain ⟨a0,rfl,atJ,WQ⟩:=atv.of b7 Tryz.underlying5
  obtain ⟨l,A,rfl,ax⟩:=v8.of U;exact asC (adZ atJ WQ) ax
set_option maxRecDepth 100000 in
theorem lifted (os:Os) (started:os.Started) (H:Type) (enc:TypeId×Value→H):
    ReturnsInHanded {} Tryz.checked os 9 .any (Rows.treePlaysSpec.pre6 enc Tryz.prog Tryz.f9 Rows.treePlaysRow.domain false) (Rows.treePlaysSpec.post enc Tryz.prog Tryz.f9 false true false false):=by
  refine returnsInHanded_of_change (C:=Tryz.checked) own started (by kernel_rfl) Tryz.func9
    (ChangeSpec.witness6 (enc:=enc) (C:=Tryz.checked) false ⟨#[], #[.int .u8 0, .slice none 0 0],[]⟩ 8 (by kernel_rfl) (by kernel_rfl) (by kernel_rfl) (by kernel_rfl)) ?_
  intro W base args ds gs before afm dk awR _
  have zO:∀ (j:Nat) t v,Tryz.f9.params[j]? =some t→args[j]? =some v→Value.okWide Tryz.prog W .any base t v:=afm
  have WR:=dk
  obtain ⟨p,q,afn,tX,rfl,YS,hU⟩:=dk
  have ax:DataW.TrodAll enc Tryz.prog W 0 (fun _=>true) true Tryz.f9.params.toList args.toList ds p:=afn
  rw[Tryz.params9] at ax zO
  obtain ⟨v0,awS,d0,awT,de,DD,QK,rfl,rfl,b7,WQ⟩:=trodAll_cons ax
  obtain ⟨v1,Sz,d1,awU,cp,pR,rfl,rfl,rfl,U,bK⟩:=trodAll_cons WQ
  obtain ⟨rfl,rfl,rfl⟩:=trodAll_nil bK
  obtain rfl:args= #[v0,v1]:=by cases args;simp_all
  obtain ⟨rfl,rfl⟩:=trodVars_none tX
  have Kw:=ae_ (zO 0 5 v0 rfl rfl) b7
  have aB:=ae_ (zO 1 70 v1 rfl rfl) U
  clear afn afm
  simp only[List.append_nil] at WR
  have ba:=fun x af=>WR.lt x af
  refine (contract v0 v1 W Kw aB).mono fun v x9 ⟨he,bg⟩=> ?_
  subst he
  exact att (pa:=_) (kH:=[]) WR Tryz.underlying4 rfl rfl (fun sp oY=>(trodAll_cons_mk (afb laid (by kernel_rfl) (of_decide_eq_true (by kernel_rfl)) b7 bg (fun x af=>ba x (by simp[af])) (fun x af=>oY x (by simp[af]))) (trodAll_cons_mk (afb laid (by kernel_rfl) (of_decide_eq_true (by kernel_rfl)) U bg (fun x af=>ba x (by simp[af])) (fun x af=>oY x (by simp[af]))) trodAll_mk0))) (fun _ _=>rfl) (by simp) bg
theorem proved:Rows.TreePlaysSaid:=
  OpenClaim.holds_of_wide 9 Tryz.f9 rfl rfl rfl rfl rfl rfl rfl ⟨rfl,rfl,rfl,rfl,rfl⟩ rfl rfl rfl rfl rfl (by kernel_rfl) Tryz.func9 (by kernel_rfl)
    (of_decide_eq_true (by kernel_rfl)) (by unfold Func.isWrapper;first|(rw[if_pos (by decide+kernel)];kernel_rfl)|(rw[if_neg (by decide+kernel)];exact ⟨rfl,rfl⟩))
    (fun os started H enc _=>lifted os started H enc)
end Go.Proofs.YtplieiecebljmaaGreat.treePlays
