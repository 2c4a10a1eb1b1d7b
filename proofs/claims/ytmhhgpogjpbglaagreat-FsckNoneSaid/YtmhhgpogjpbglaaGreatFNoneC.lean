/- The statement FsckNoneSaid: the law returns true for every input and leaves it as it was. -/
import Derived.Test.YtmhhgpogjpbglaaGreatRows
import Derived.Test.YtmhhgpogjpbglaaGreatBFNone3
import Derived.WalkKit
import Derived.ProofKit
import Derived.OpenShut
namespace Go.Proofs.YtmhhgpogjpbglaaGreat.fsckNone
open Go bl Go.ChangeShapes Go.WideShapes Go.ChangeAt Go.RowKit
theorem own:ownKnob Tryz.prog.godebug=none:=by kernel_rfl
theorem laid:laidOutB Tryz.prog=true:=by kernel_rfl
set_option maxRecDepth 100000 in
theorem contract (v0:Value) (w:World) (bA:vK Tryz.prog w 5 v0):aN Tryz.prog 4 #[v0] w (fun v ae=>v= .bool true∧Ext w ae):=by
  obtain ⟨a0,rfl,RJ,B7⟩:=RK.of bA Tryz.underlying5
  have:=RL RJ B7;obtain ⟨a,rfl⟩:∃a:Nat,a0=(a:Int):=⟨a0.toNat,by omega⟩;exact RD (by omega) _
set_option maxRecDepth 100000 in
theorem lifted (os:Os) (started:os.Started) (H:Type) (enc:TypeId×Value→H):
    ReturnsInHanded {} Tryz.checked os 4 .any (Rows.fsckNoneSpec.pre6 enc Tryz.prog Tryz.f4 Rows.fsckNoneRow.domain false) (Rows.fsckNoneSpec.post enc Tryz.prog Tryz.f4 false true false false):=by
  refine returnsInHanded_of_change (C:=Tryz.checked) own started (by kernel_rfl) Tryz.func4
    (ChangeSpec.witness6 (enc:=enc) (C:=Tryz.checked) false ⟨#[], #[.int .u8 0],[]⟩ 8 (by kernel_rfl) (by kernel_rfl) (by kernel_rfl) (by kernel_rfl)) ?_
  intro W base args bc gs before Hw e0 Vf _
  have kS:∀ (j:Nat) t v,Tryz.f4.params[j]? =some t→args[j]? =some v→Value.okWide Tryz.prog W .any base t v:=Hw
  have B8:=e0
  obtain ⟨p,q,Hx,RM,rfl,G6,jH⟩:=e0
  have an:DataW.TrodAll enc Tryz.prog W 0 (fun _=>true) true Tryz.f4.params.toList args.toList bc p:=Hx
  rw[Tryz.params4] at an kS
  obtain ⟨v0,Vg,d0,Vh,OQ,Vi,Hy,rfl,rfl,bA,B7⟩:=trodAll_cons an
  obtain ⟨rfl,rfl,rfl⟩:=trodAll_nil B7
  obtain rfl:args= #[v0]:=by cases args;simp_all
  obtain ⟨rfl,rfl⟩:=trodVars_none RM
  have sR:=RN (kS 0 5 v0 rfl rfl) bA
  clear Hx Hw
  simp only[List.append_nil] at B8
  have aS:=fun x af=>B8.lt x af
  refine (contract v0 W sR).mono fun v l0 ⟨he,bu⟩=> ?_
  subst he
  exact RO (pa:=_) (jR:=[]) B8 Tryz.underlying4 rfl rfl (fun sp n1=>(trodAll_cons_mk (RP laid (by kernel_rfl) (of_decide_eq_true (by kernel_rfl)) bA bu (fun x af=>aS x (by simp[af])) (fun x af=>n1 x (by simp[af]))) trodAll_mk0)) (fun _ _=>rfl) (by simp) bu
theorem proved:Rows.FsckNoneSaid:=
  OpenClaim.holds_of_wide 4 Tryz.f4 rfl rfl rfl rfl rfl rfl rfl ⟨rfl,rfl,rfl,rfl,rfl⟩ rfl rfl rfl rfl rfl (by kernel_rfl) Tryz.func4 (by kernel_rfl)
    (of_decide_eq_true (by kernel_rfl)) (by unfold Func.isWrapper;first|(rw[if_pos (by decide+kernel)];kernel_rfl)|(rw[if_neg (by decide+kernel)];exact ⟨rfl,rfl⟩))
    (fun os started H enc _=>lifted os started H enc)
end Go.Proofs.YtmhhgpogjpbglaaGreat.fsckNone
