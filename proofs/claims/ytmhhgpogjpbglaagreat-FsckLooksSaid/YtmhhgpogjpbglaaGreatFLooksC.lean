/- The statement FsckLooksSaid: the law returns true for every input and leaves it as it was. -/
import Derived.Test.YtmhhgpogjpbglaaGreatRows
import Derived.Test.YtmhhgpogjpbglaaGreatBFLooks4
import Derived.WalkKit
import Derived.ProofKit
import Derived.OpenShut
namespace Go.Proofs.YtmhhgpogjpbglaaGreat.fsckLooks
open Go bD Go.ChangeShapes Go.WideShapes Go.ChangeAt Go.RowKit
theorem own:ownKnob Tryz.prog.godebug=none:=by kernel_rfl
theorem laid:laidOutB Tryz.prog=true:=by kernel_rfl
set_option maxRecDepth 100000 in
theorem contract (v0 v1:Value) (w:World) (bP:tj Tryz.prog w 5 v0) (U:tj Tryz.prog w 22 v1):aM Tryz.prog 3 #[v0,v1] w (fun v af=>v= .bool true∧Ext w af):=by
  obtain ⟨a0,rfl,aer,Kb⟩:=aes.of bP Tryz.underlying5
  have:=OP aer Kb;obtain ⟨a,rfl⟩:∃a:Nat,a0=(a:Int):=⟨a0.toNat,by omega⟩;obtain ⟨l,A,rfl,an⟩:=ti.of U;exact aei (by omega) an
set_option maxRecDepth 100000 in
theorem lifted (os:Os) (started:os.Started) (H:Type) (enc:TypeId×Value→H):
    ReturnsInHanded {} Tryz.checked os 3 .any (Rows.fsckLooksSpec.pre6 enc Tryz.prog Tryz.f3 Rows.fsckLooksRow.domain false) (Rows.fsckLooksSpec.post enc Tryz.prog Tryz.f3 false true false false):=by
  refine returnsInHanded_of_change (C:=Tryz.checked) own started (by kernel_rfl) Tryz.func3
    (ChangeSpec.witness6 (enc:=enc) (C:=Tryz.checked) false ⟨#[], #[.int .u8 0, .slice none 0 0],[]⟩ 8 (by kernel_rfl) (by kernel_rfl) (by kernel_rfl) (by kernel_rfl)) ?_
  intro W base args bG gs before Ry fQ akr _
  have nT:∀ (j:Nat) t v,Tryz.f3.params[j]? =some t→args[j]? =some v→Value.okWide Tryz.prog W .any base t v:=Ry
  have Kc:=fQ
  obtain ⟨p,q,Rz,aet,rfl,EO,ib⟩:=fQ
  have an:DataW.TrodAll enc Tryz.prog W 0 (fun _=>true) true Tryz.f3.params.toList args.toList bG p:=Rz
  rw[Tryz.params3] at an nT
  obtain ⟨v0,aks,d0,akt,ZV,aku,RA,rfl,rfl,bP,Kb⟩:=trodAll_cons an
  obtain ⟨v1,akv,d1,akw,e9,ri,rfl,rfl,rfl,U,az⟩:=trodAll_cons Kb
  obtain ⟨rfl,rfl,rfl⟩:=trodAll_nil az
  obtain rfl:args= #[v0,v1]:=by cases args;simp_all
  obtain ⟨rfl,rfl⟩:=trodVars_none aet
  have pI:=RB (nT 0 5 v0 rfl rfl) bP
  have aZ:=RB (nT 1 22 v1 rfl rfl) U
  clear Rz Ry
  simp only[List.append_nil] at Kc
  have aR:=fun x ai=>Kc.lt x ai
  refine (contract v0 v1 W pI aZ).mono fun v p8 ⟨he,aW⟩=> ?_
  subst he
  exact aeu (pa:=_) (m8:=[]) Kc Tryz.underlying4 rfl rfl (fun sp rh=>(trodAll_cons_mk (RC laid (by kernel_rfl) (of_decide_eq_true (by kernel_rfl)) bP aW (fun x ai=>aR x (by simp[ai])) (fun x ai=>rh x (by simp[ai]))) (trodAll_cons_mk (RC laid (by kernel_rfl) (of_decide_eq_true (by kernel_rfl)) U aW (fun x ai=>aR x (by simp[ai])) (fun x ai=>rh x (by simp[ai]))) trodAll_mk0))) (fun _ _=>rfl) (by simp) aW
theorem proved:Rows.FsckLooksSaid:=
  OpenClaim.holds_of_wide 3 Tryz.f3 rfl rfl rfl rfl rfl rfl rfl ⟨rfl,rfl,rfl,rfl,rfl⟩ rfl rfl rfl rfl rfl (by kernel_rfl) Tryz.func3 (by kernel_rfl)
    (of_decide_eq_true (by kernel_rfl)) (by unfold Func.isWrapper;first|(rw[if_pos (by decide+kernel)];kernel_rfl)|(rw[if_neg (by decide+kernel)];exact ⟨rfl,rfl⟩))
    (fun os started H enc _=>lifted os started H enc)
end Go.Proofs.YtmhhgpogjpbglaaGreat.fsckLooks
