/- What a Go program of the model must show, as text that can be read; sound against the kit. -/
import Derived.Below
import Derived.KernelRfl
import Derived.Laws.BytesString
import Derived.OpenShut
import Derived.OrdersHeld
import Derived.ProofKit
import Derived.StillTail
import Derived.Tactics
import Derived.WalkKit
import Derived.WideKeyArgs
namespace Go
theorem br:type_of% @Nat.le_refl:=@Nat.le_refl
theorem cf:type_of% @of_decide_eq_true:=@of_decide_eq_true
theorem cm:type_of% @List.getElem_mem:=@List.getElem_mem
theorem cx:type_of% @of_decide_eq_false:=@of_decide_eq_false
theorem cC:type_of% @List.length_take:=@List.length_take
theorem cE:type_of% @List.length_append:=@List.length_append
theorem cG:type_of% @List.mem_append:=@List.mem_append
theorem cH:type_of% @Nat.zero_add:=@Nat.zero_add
theorem cI:type_of% @Nat.zero_le:=@Nat.zero_le
theorem cO:type_of% @decide_eq_true_eq:=@decide_eq_true_eq
theorem cR:type_of% @List.mem_cons:=@List.mem_cons
theorem cW:type_of% @List.append_assoc:=@List.append_assoc
theorem cX:type_of% @List.length_set:=@List.length_set
theorem c5:type_of% @List.length_drop:=@List.length_drop
theorem du:type_of% @Int.toNat_natCast:=@Int.toNat_natCast
theorem dv:type_of% @decide_eq_true:=@decide_eq_true
theorem dD:type_of% @List.getElem?_eq_getElem:=@List.getElem?_eq_getElem
theorem dE:type_of% @List.length_map:=@List.length_map
theorem dJ:type_of% @Nat.lt_or_ge:=@Nat.lt_or_ge
theorem dO:type_of% @Bool.and_eq_true:=@Bool.and_eq_true
theorem dT:type_of% @List.take_of_length_le:=@List.take_of_length_le
theorem dZ:type_of% @List.mem_map:=@List.mem_map
theorem eC:type_of% @Nat.le_trans:=@Nat.le_trans
theorem eD:type_of% @List.getElem_of_mem:=@List.getElem_of_mem
theorem eP:type_of% @List.mem_of_mem_drop:=@List.mem_of_mem_drop
theorem eQ:type_of% @List.mem_of_mem_take:=@List.mem_of_mem_take
theorem eR:type_of% @List.not_mem_nil:=@List.not_mem_nil
theorem eX:type_of% @List.mem_singleton:=@List.mem_singleton
theorem eY:type_of% @or_false:=@or_false
theorem eZ:type_of% @List.getElem_set_ne:=@List.getElem_set_ne
theorem e5:type_of% @Bool.not_eq_true:=@Bool.not_eq_true
theorem e6:type_of% @List.getD_eq_getElem?_getD:=@List.getD_eq_getElem?_getD
theorem fc:type_of% @Nat.lt_of_lt_of_le:=@Nat.lt_of_lt_of_le
theorem fe:type_of% @List.map_append:=@List.map_append
theorem fm:type_of% @Bool.eq_iff_iff:=@Bool.eq_iff_iff
theorem ft:type_of% @Bool.false_eq_true:=@Bool.false_eq_true
theorem fu:type_of% @Nat.mul_one:=@Nat.mul_one
theorem fD:type_of% @List.length_cons:=@List.length_cons
theorem fX:type_of% @List.append_nil:=@List.append_nil
theorem gJ:type_of% @List.take_append_drop:=@List.take_append_drop
theorem gK:type_of% @List.map_map:=@List.map_map
theorem gL:type_of% @List.mem_append_right:=@List.mem_append_right
theorem gM:type_of% @decide_eq_false:=@decide_eq_false
theorem gN:type_of% @List.getElem_set_self:=@List.getElem_set_self
theorem gZ:type_of% @Nat.eq_of_beq_eq_true:=@Nat.eq_of_beq_eq_true
theorem g0:type_of% @List.mem_filter:=@List.mem_filter
theorem g1:type_of% @Nat.mod_lt:=@Nat.mod_lt
theorem hW:type_of% @Bool.or_eq_true:=@Bool.or_eq_true
theorem hX:type_of% @List.length_singleton:=@List.length_singleton
theorem ij:type_of% @Bool.true_and:=@Bool.true_and
theorem ik:type_of% @List.mem_range:=@List.mem_range
theorem il:type_of% @List.take_length:=@List.take_length
theorem im:type_of% @List.mem_append_left:=@List.mem_append_left
theorem iq:type_of% @List.mem_of_find?_eq_some:=@List.mem_of_find?_eq_some
theorem ir:type_of% @Nat.mod_eq_of_lt:=@Nat.mod_eq_of_lt
theorem iL:type_of% @List.take_succ_eq_append_getElem:=@List.take_succ_eq_append_getElem
theorem iM:type_of% @List.map_cons:=@List.map_cons
theorem iN:type_of% @List.find?_eq_none:=@List.find?_eq_none
theorem iO:type_of% @List.count_pos_iff:=@List.count_pos_iff
theorem jb:type_of% @List.mem_cons_of_mem:=@List.mem_cons_of_mem
theorem jc:type_of% @beq_iff_eq:=@beq_iff_eq
theorem jd:type_of% @Nat.min_eq_left:=@Nat.min_eq_left
theorem je:type_of% @List.find?_some:=@List.find?_some
theorem jA:type_of% @List.getElem?_eq_some_iff:=@List.getElem?_eq_some_iff
theorem jB:type_of% @Nat.add_mul:=@Nat.add_mul
theorem jY:type_of% @Bool.not_eq_true':=@Bool.not_eq_true'
theorem jZ:type_of% @decide_eq_false_iff_not:=@decide_eq_false_iff_not
theorem j0:type_of% @Bool.false_or:=@Bool.false_or
theorem j1:type_of% @List.nil_append:=@List.nil_append
theorem j2:type_of% @List.filter_append:=@List.filter_append
theorem j3:type_of% @List.getElem?_map:=@List.getElem?_map
theorem j4:type_of% @List.length_nil:=@List.length_nil
theorem kq:type_of% @Array.getElem?_eq_some_iff:=@Array.getElem?_eq_some_iff
theorem kr:type_of% @Option.map_some:=@Option.map_some
theorem kt:type_of% @List.drop_zero:=@List.drop_zero
theorem ku:type_of% @List.filter_eq_self:=@List.filter_eq_self
theorem kx:type_of% @List.pairwise_cons:=@List.pairwise_cons
theorem ky:type_of% @Bool.false_and:=@Bool.false_and
theorem kz:type_of% @List.getElem?_eq_none:=@List.getElem?_eq_none
theorem kA:type_of% @List.getElem?_append_right:=@List.getElem?_append_right
theorem kB:type_of% @List.mem_or_eq_of_mem_set:=@List.mem_or_eq_of_mem_set
theorem k7:type_of% @List.all_eq_true:=@List.all_eq_true
theorem k8:type_of% @Nat.testBit_or:=@Nat.testBit_or
theorem k9:type_of% @Nat.le_of_ble_eq_true:=@Nat.le_of_ble_eq_true
theorem k_:type_of% @List.drop_eq_getElem_cons:=@List.drop_eq_getElem_cons
theorem ld:type_of% @List.drop_drop:=@List.drop_drop
theorem lf:type_of% @List.perm_middle:=@List.perm_middle
theorem lg:type_of% @List.sum_append:=@List.sum_append
theorem lh:type_of% @List.pairwise_iff_getElem:=@List.pairwise_iff_getElem
theorem lj:type_of% @List.length_replicate:=@List.length_replicate
theorem l0:type_of% @Nat.add_zero:=@Nat.add_zero
theorem l1:type_of% @List.getElem?_cons_zero:=@List.getElem?_cons_zero
theorem l2:type_of% @List.length_eq_zero_iff:=@List.length_eq_zero_iff
theorem l3:type_of% @Nat.eq_zero_or_pos:=@Nat.eq_zero_or_pos
theorem l4:type_of% @List.count_append:=@List.count_append
theorem nj:type_of% @Option.isSome_iff_exists:=@Option.isSome_iff_exists
theorem nk:type_of% @List.any_eq_false:=@List.any_eq_false
theorem nm:type_of% @Bool.or_eq_false_iff:=@Bool.or_eq_false_iff
theorem nn:type_of% @Nat.sub_self:=@Nat.sub_self
theorem np:type_of% @Nat.mul_le_mul_right:=@Nat.mul_le_mul_right
theorem nq:type_of% @List.nodup_append:=@List.nodup_append
theorem nr:type_of% @List.pairwise_append:=@List.pairwise_append
theorem nt:type_of% @List.length_zip:=@List.length_zip
theorem nu:type_of% @List.map_take:=@List.map_take
theorem nv:type_of% @List.count_cons:=@List.count_cons
theorem nw:type_of% @List.count_nil:=@List.count_nil
theorem oT:type_of% @List.cons_append:=@List.cons_append
theorem oU:type_of% @List.filterMap_cons:=@List.filterMap_cons
theorem oV:type_of% @List.filterMap_append:=@List.filterMap_append
theorem oW:type_of% @Nat.testBit_two_pow:=@Nat.testBit_two_pow
theorem oX:type_of% @Option.getD_some:=@Option.getD_some
theorem oY:type_of% @List.filter_eq_nil_iff:=@List.filter_eq_nil_iff
theorem oZ:type_of% @List.exists_mem_of_ne_nil:=@List.exists_mem_of_ne_nil
theorem o0:type_of% @List.map_drop:=@List.map_drop
theorem o1:type_of% @List.perm_append_comm:=@List.perm_append_comm
theorem o2:type_of% @List.getElem_take:=@List.getElem_take
theorem o3:type_of% @Decidable.byContradiction:=@Decidable.byContradiction
theorem o4:type_of% @List.getElem_append_left:=@List.getElem_append_left
theorem o5:type_of% @List.toList_toArray:=@List.toList_toArray
theorem o6:type_of% @Int.eq_ofNat_of_zero_le:=@Int.eq_ofNat_of_zero_le
theorem o7:type_of% @List.length_filter_le:=@List.length_filter_le
theorem qx:type_of% @Array.getElem?_modify:=@Array.getElem?_modify
theorem qy:type_of% @List.getElem?_drop:=@List.getElem?_drop
theorem qz:type_of% @List.range_eq_range':=@List.range_eq_range'
theorem qA:type_of% @List.getElem?_toArray:=@List.getElem?_toArray
theorem qB:type_of% @List.getElem?_take:=@List.getElem?_take
theorem qC:type_of% @List.length_pos_iff:=@List.length_pos_iff
theorem qD:type_of% @List.zipWith_append:=@List.zipWith_append
theorem qE:type_of% @List.getElem_drop:=@List.getElem_drop
theorem qF:type_of% @Nat.pow_le_pow_right:=@Nat.pow_le_pow_right
theorem qG:type_of% @List.map_congr_left:=@List.map_congr_left
theorem qH:type_of% @List.flatten_append:=@List.flatten_append
theorem qI:type_of% @List.eq_of_mem_replicate:=@List.eq_of_mem_replicate
theorem qJ:type_of% @List.getElem_append_right:=@List.getElem_append_right
theorem qK:type_of% @List.take_append_of_le_length:=@List.take_append_of_le_length
theorem qL:type_of% @List.getElem_set:=@List.getElem_set
theorem qM:type_of% @List.size_toArray:=@List.size_toArray
theorem qN:type_of% @Int.tmod_eq_emod_of_nonneg:=@Int.tmod_eq_emod_of_nonneg
theorem qO:type_of% @List.filter_cons:=@List.filter_cons
theorem ud:type_of% @List.getElem?_cons_succ:=@List.getElem?_cons_succ
theorem I{p:Prop}(h:p:=by omega):p:=h
abbrev J:=World
abbrev aa:=Value
abbrev an(α:Type):=Option α
abbrev O(α:Type):=List α
abbrev ab:=Addr
abbrev ag:=Bool
end Go
namespace aX
open Go
structure Y where
 a:an ab
 len:Nat
 cap:Nat
instance:Coe Y Value:=⟨λs=>.slice s.a s.len s.cap⟩
instance:Coe Int Value:=⟨λn=>.int .i64 n⟩
instance:Coe Nat Value:=⟨λn=>.int .i64 (n:Int)⟩
instance:Coe Bool Value:=⟨λb=>.bool b⟩
instance:Coe Nat Addr:=⟨λb=>⟨b,0,none⟩⟩
instance:Coe (Option Addr) Value:=⟨λp=>.pointer p⟩
instance:Coe Unit Value:=⟨λ_=>.slice none 0 0⟩
structure gO where
 f:FuncId
 pre:Array aa
 cap:Array aa
inductive c6 where
 |int (k:IntKind)|bool|str|ptr|slice|map|agg|fn|any
def c6.T:c6->Type
 | .int _=>Int
 | .bool=>ag
 | .str=>ByteArray
 | .ptr=>an ab
 | .slice=>Y
 | .map=>an Nat
 | .agg=>Array aa
 | .fn=>gO
 | .any=>aa
def c6.v:(l:c6)->l.T->aa
 | .int k,(n:Int)=>.int k n
 | .bool,(b:ag)=>.bool b
 | .str,(s:ByteArray)=>.string s
 | .ptr,(p:an ab)=>.pointer p
 | .slice,(s:Y)=>.slice s.a s.len s.cap
 | .map,(r:an Nat)=>.map r
 | .agg,(cs:Array aa)=>.agg cs
 | .fn,(F:gO)=>.func (.func F.f) F.pre F.cap
 | .any,(v:aa)=>v
inductive Kd where
 |one (l:c6)
 |flat (ls:O c6)
def l5(l:c6)(K:aa->Prop):Prop:=
 match l with
 | .int k=>∃n:Int,K (.int k n)
 | .bool=>∃b:ag,K (.bool b)
 | .str=>∃s:ByteArray,K (.string s)
 | .ptr=>∃p:an ab,K (.pointer p)
 | .slice=>∃s:Y,K (.slice s.a s.len s.cap)
 | .map=>∃r:an Nat,K (.map r)
 | .agg=>∃cs:Array aa,K (.agg cs)
 | .fn=>∃F:gO,K (.func (.func F.f) F.pre F.cap)
 | .any=>∃v:aa,K v
def ue:O c6->(O aa->Prop)->Prop
 | [],K=>K []
 |l::ls,K=>l5 l λv=>ue ls λvs=>K (v::vs)
def uf(k:Kd)(K:aa->Prop):Prop:=
 match k with
 | .one l=>l5 l K
 | .flat ls=>ue ls λvs=>K (.agg vs.toArray)
def qP:O Kd->(O aa->Prop)->Prop
 | [],K=>K []
 |k::ks,K=>uf k λv=>qP ks λvs=>K (v::vs)
theorem nx{l:c6}{K:aa->Prop}(h:l5 l K):∃v,K v:=by
 cases l<;>simp only[l5]at h<;>obtain⟨x,h⟩:=h<;>exact⟨_,h⟩
theorem w2:∀ {ls:O c6}{K:O aa->Prop},ue ls K->∃vs,K vs
 | [],_,h=>⟨_,h⟩
 |_::_,_,h=>let ⟨_,h⟩:=nx h;let ⟨_,h⟩:=w2 h;⟨_,h⟩
theorem w3{k:Kd}{K:aa->Prop}(h:uf k K):∃v,K v:=by
 cases k with
 |one l=>exact nx h
 |flat ls=>obtain⟨_,h⟩:=w2 h;exact⟨_,h⟩
theorem ug:∀ {ls:O Kd}{K:O aa->Prop},qP ls K->∃vs,K vs
 | [],_,h=>⟨_,h⟩
 |_::_,_,h=>let ⟨_,h⟩:=w3 h;let ⟨_,h⟩:=ug h;⟨_,h⟩
abbrev Env:=O (Nat×aa)
def Env.get:Env->Nat->an aa
 | [],_=>none
 |(k,v)::e,s=>bif Nat.beq k s then some v else Env.get e s
def ev(e:Env):Operand->an aa
 | .tmp t=>e.get t
 | .const v=>some v
 | .global g=>some (.pointer (some ⟨g,0,none⟩))
 | .func f=>some (.func (.func f) #[] #[])
def ro(e:Env)(x:Operand):aa:=(ev e x).getD undef
def known(e:Env)(xs:Array Operand):ag:=xs.toList.all λx=>(ev e x).isSome
structure c7(e:Env)(a:Act):Prop where
 get:∀s v,e.get s=some v->a.tmps[s]? =some v
theorem c7.ev{e:Env}{a:Act}(h:c7 e a){x:Operand}{v:aa}(hx:ev e x=some v):a.eval x=v:=by
 cases x with
 |tmp t=>
  have:=h.get t v hx;simp[Act.eval,Array.getD_eq_getD_getElem?,this]
 |const c=>simpa[aX.ev,Act.eval] using hx
 |global g=>simpa[aX.ev,Act.eval] using hx
 |func f=>simpa[aX.ev,Act.eval] using hx
theorem c7.ro{e:Env}{a:Act}(h:c7 e a){x:Operand}(hx:(aX.ev e x).isSome=true):a.eval x=ro e x:=by
 obtain⟨v,b⟩:=nj.1 hx;rw[h.ev b,aX.ro,b];rfl
def c0(d:an Nat)(v:aa)(e:Env):Env:=
 match d with
 |some d=>(d,v)::e
 |none=>e
theorem l6(d:Nat)(v:aa)(e:Env)(s:Nat):Env.get ((d,v)::e) s=if d=s then some v else e.get s:=by
 simp only[Env.get,cond_eq_ite];by_cases a:d=s
 .subst a;simp
 .have:Nat.beq d s=false:=by
   cases b:Nat.beq d s
   .rfl
   .exact absurd (gZ b) a
  simp[this,a]
theorem c7.put{e:Env}{a:Act}(h:c7 e a){d:an Nat}{v:aa}(hd:∀k,d=some k->k<a.tmps.size):c7 (c0 d v e) (a.put d v):=by
 cases d with
 |none=>exact h
 |some d=>
  constructor;intro s u hs;rw[c0,l6]at hs;simp only[Act.put];by_cases b:d=s
  .subst b
   simp only[if_true,Option.some.injEq]at hs;subst hs;simp[hd d rfl]
  .rw[if_neg b]at hs
   rw[Array.getElem?_setIfInBounds_ne b];exact h.get s u hs
inductive dn where
 |one (k:Kd)
 |eJ (ks:O Kd)
def gP(r:dn)(K:aa->Prop):Prop:=
 match r with
 | .one k=>uf k K
 | .eJ ks=>qP ks λvs=>K (.tuple vs.toArray)
theorem g2{r:dn}{K:aa->Prop}(h:gP r K):∃v,K v:=by
 cases r with
 |one k=>exact w3 h
 |eJ ks=>obtain⟨_,h⟩:=ug h;exact⟨_,h⟩
def cy(w:J)(A:ab):Nat->Nat->an (O aa)
 |_,0=>some []
 |i,n+1=>match w.cell? (A.add i),cy w A (i+1) n with
  |some v,some vs=>some (v::vs)
  |_,_=>none
def setCells(w:J)(A:ab):Nat->O aa->J
 |_,[]=>w
 |i,v::vs=>setCells (w.setCell (A.add i) v) A (i+1) vs
def Plain:aa->Prop
 | .agg _=>False
 | .tuple _=>False
 |_=>True
def bz(w:J)(A:ab)(vs:O aa):Prop:=
 (∀i,i<vs.length->(w.cell? (A.add i)).isSome=true/\w.frozen? (A.add i)=false)/\∀v∈vs,Plain v
def gw:TypeDesc->ag
 | .struct _=>true
 | .array _ _=>true
 |_=>false
def gq(P:Program)(elem:TypeId)(n:Nat):Array aa:=
 let zero:=if n*P.cellsOf elem=0 then #[] else (((P.info? elem).bind (·.zero)).getD undef).cells
 (Array.range (n*P.cellsOf elem)).map (zero[· %zero.size]!)
section
variable {P:Program}{w:J}
theorem cP{t:TypeId}{d:TypeDesc}(h:P.underlying t=some d):(underlying t).run P w=.ok d w:=by
 simp[underlying,program,Sem.run,bind,Sem.bind,h,pure]
theorem l7{t:TypeId}{d:TypeInfo}(h:P.info? t=some d):(typeInfo t).run P w=.ok d w:=by
 simp[typeInfo,program,Sem.run,bind,Sem.bind,h,pure]
theorem info_of_underlying{t:TypeId}{d:TypeDesc}(h:P.underlying t=some d):∃i,P.info? t=some i:=by
 unfold Program.underlying at h
 cases hi:P.info? t with
 |none=>simp[hi]at h
 |some i=>exact⟨i,rfl⟩
theorem gx{t:TypeId}{d:TypeDesc}(h:P.underlying t=some d):(Go.sizeOf t).run P w=.ok (P.cellsOf t) w:=by
 obtain⟨i,hi⟩:=info_of_underlying h;simp[Go.sizeOf,l7 hi,Program.cellsOf,hi]
theorem ny{t:TypeId}{d:TypeDesc}(h:P.underlying t=some d):(isAgg t).run P w=.ok (gw d) w:=by
 simp only[isAgg,Sem.run_bind,cP h,Result.andThen]
 cases d<;>rfl
theorem uh{A:ab}{v:aa}(h:w.cell? A=some v):(load A).run P w=.ok v w:=by
 simp[load,Sem.run,h]
theorem run_loadCellsFrom{A:ab}:∀ (n i:Nat) (acc:Array aa) (vs:O aa),cy w A i n=some vs->
 (loadCellsFrom A i n acc).run P w=.ok (acc++vs.toArray) w
 |0,i,acc,vs,h=>by
  simp only[cy,Option.some.injEq]at h
  subst h
  simp[loadCellsFrom]
 |n+1,i,acc,vs,h=>by
  simp only[cy]at h
  cases h1:w.cell? (A.add i) with
  |none=>simp[h1]at h
  |some v=>
   cases a:cy w A (i+1) n with
   |none=>simp[h1,a]at h
   |some us=>
    simp only[h1,a,Option.some.injEq]at h
    subst h
    simp only[loadCellsFrom,Sem.run_bind,uh h1,Result.andThen]
    rw[run_loadCellsFrom n (i+1) (acc.push v) us a]
    simp
theorem qQ{T:TypeId}{d:TypeDesc}(a:P.underlying T=some d)(hd:gw d=true){A:ab}{vs:O aa}(h:cy w A 0 (P.cellsOf T)=some vs):
 (loadVar T A).run P w=.ok (.agg vs.toArray) w:=by
 simp only[loadVar,Sem.run_bind,ny a,Result.andThen,hd,if_true,gx a,loadCells,run_loadCellsFrom _ _ _ _ h];simp
theorem w4{T:TypeId}{d:TypeDesc}(a:P.underlying T=some d)(hd:gw d=false){A:ab}{v:aa}(h:w.cell? A=some v):
 (loadVar T A).run P w=.ok v w:=by
 simp only[loadVar,Sem.run_bind,ny a,Result.andThen,hd,ft,if_false,uh h]
theorem A2{A:ab}{v u:aa}(a:Plain v)(h:w.cell? A=some u)(hf:w.frozen? A=false):(store A v).run P w=.ok () (w.setCell A v):=by
 cases v<;>simp_all [store,Sem.run,Plain]
theorem A3(w:J)(A B:ab)(v:aa):((w.setCell A v).cell? B).isSome=(w.cell? B).isSome:=by
 simp only[World.setCell,World.cell?,qx];by_cases a:A.block=B.block
 .simp only[a,if_true]
  cases w.heap[B.block]? with
  |none=>rfl
  |some o=>
   cases o<;>simp
   by_cases hs:B.spot.isSome<;>simp[hs]
   by_cases b:A.spot.isSome<;>simp[b]
   rw[fm];simp
 .simp[a]
theorem A4(w:J)(A B:ab)(v:aa):(w.setCell A v).frozen? B=w.frozen? B:=by
 simp only[World.setCell,World.frozen?,qx];by_cases a:A.block=B.block
 .simp only[a,if_true]
  cases w.heap[B.block]? with
  |none=>rfl
  |some o=>cases o<;>rfl
 .simp[a]
theorem o8{A:ab}:∀ (vs:O aa) (i:Nat) (w:J),(∀j,j<vs.length->(w.cell? (A.add (i+j))).isSome=true/\w.frozen? (A.add (i+j))=false)->(∀v∈vs,Plain v)->
 (storeCells A vs i).run P w=.ok () (setCells w A i vs)
 | [],i,w,_,_=>rfl
 |v::vs,i,w,h,a=>by
  have h0:=h 0 (by simp)
  simp only[l0]at h0
  obtain⟨u,hu⟩:=nj.1 h0.1
  simp only[storeCells,Sem.run_bind,A2 (P:=P) (a v (by simp)) hu h0.2,Result.andThen,setCells]
  refine o8 vs (i+1) (w.setCell (A.add i) v) (λj b=>?_) (λx hx=>a x (by simp[hx]))
  have:=h (j+1) (by simp;omega)
  rw[A3,A4,show i+1+j=i+(j+1) from I]
  exact this
theorem w5{T:TypeId}{d:TypeDesc}(a:P.underlying T=some d){A:ab}{v:aa}(hs:v.cells.size=P.cellsOf T)(h:bz w A v.cells.toList):
 (storeVar T A v).run P w=.ok () (setCells w A 0 v.cells.toList):=by
 simp only[storeVar,Sem.run_bind,gx a,Result.andThen,hs,ne_eq,not_true,if_false];simpa using o8 v.cells.toList 0 w (by simpa using h.1) h.2
end
def ui:O c6->ab->Nat->J->(O aa->Prop)->Prop
 | [],_,_,_,K=>K []
 |l::ls,A,i,w,K=>l5 l λv=>w.cell? (A.add i)=some v/\ui ls A (i+1) w λvs=>K (v::vs)
def nz(P:Program)(tk:TypeId->dn)(T:TypeId)(A:ab)(w:J)(K:aa->Prop):Prop:=
 match P.underlying T with
 |none=>False
 |some d=>
  bif gw d then
   match tk T with
   | .one (.flat ls)=>bif Nat.beq (P.cellsOf T) ls.length then ui ls A 0 w λvs=>K (.agg vs.toArray) else False
   |_=>∃cs:O aa,cy w A 0 (P.cellsOf T)=some cs/\K (.agg cs.toArray)
  else
   match tk T with
   | .one (.one l)=>l5 l λv=>w.cell? A=some v/\K v
   |_=>False
def uj(P:Program)(tk:TypeId->dn)(T:TypeId)(A:ab)(x:aa)(w:J)(K:J->Prop):Prop:=
 match P.underlying T with
 |none=>False
 |some d=>
  bif gw d then
   match x with
   | .agg cs=>bz w A cs.toList/\cs.size=P.cellsOf T/\K (setCells w A 0 cs.toList)
   |_=>False
  else bif Nat.beq (P.cellsOf T) 1 then
   match tk T with
   | .one (.one .any)=>Plain x/\(∃u,w.cell? A=some u)/\w.frozen? A=false/\K (w.setCell A x)
   |_=>match x with
    | .agg _=>False
    | .tuple _=>False
    |_=>(∃u,w.cell? A=some u)/\w.frozen? A=false/\K (w.setCell A x)
  else False
def l8(P:Program)(T:TypeId)(xs ys:Array aa)(b:ag):Prop:=
 P.eqGuardType P.depth T=false/\∀w,(Op.equal T (.agg xs) (.agg ys)).run P w=.ok b w
def l9:aa->an ag
 | .nilIface=>some true
 | .iface _ _=>some false
 |_=>none
def l_:an TypeDesc->ag
 |some (.interface _)=>true
 |_=>false
def kC:an TypeDesc->ag
 |some (.pointer _)=>true
 |_=>false
def lk:an TypeDesc->ag
 |some (.slice _)=>true
 |_=>false
def nA:an TypeDesc->ag
 |some (.map _ _)=>true
 |_=>false
def iP:IntKind->IntKind->ag:=λa b=>decide (a=b)
def qR(P:Program)(op:BinOp)(T:TypeId)(x y:aa)(K:aa->Prop)(G:Prop):Prop:=
 match y with
 | .nilIface=>bif l_ (P.underlying T) then
  match op with
  | .eql=>∃b,l9 x=some b/\K (.bool b)
  | .neq=>∃b,l9 x=some b/\K (.bool (!b))
  |_=>False
  else False
 | .pointer none=>bif kC (P.underlying T) then
  match op,x with
  | .eql,.pointer p=>K (.bool p.isNone)
  | .neq,.pointer p=>K (.bool (!p.isNone))
  |_,_=>False
  else False
 | .slice none _ _=>bif lk (P.underlying T) then
  match op,x with
  | .eql,.slice a _ _=>K (.bool a.isNone)
  | .neq,.slice a _ _=>K (.bool (!a.isNone))
  |_,_=>False
  else False
 | .map none=>bif nA (P.underlying T) then
  match op,x with
  | .eql,.map r=>K (.bool r.isNone)
  | .neq,.map r=>K (.bool (!r.isNone))
  |_,_=>False
  else False
 | .agg ys=>
  match op,x with
  | .eql,.agg xs=>∃b,l8 P T xs ys b/\K (.bool b)
  | .neq,.agg xs=>∃b,l8 P T xs ys b/\K (.bool (!b))
  |_,_=>False
 | .int c b=>
  match op,x with
  | .quo,.int k a=>bif iP k c then b≠0/\K (.int k (k.wrap (a.tdiv b))) else False
  | .rem,.int k a=>bif iP k c then b≠0/\K (.int k (a.tmod b)) else False
  | .shl,.int k a=>0<=b/\K (.int k (k.wrap (a*2^(min b.toNat k.bits))))
  | .shr,.int k a=>0<=b/\K (.int k (a.fdiv (2^(min b.toNat k.bits))))
  |_,_=>G
 | .bool b=>match P.underlying T with
  |some .bool=>match op,x with
   | .eql,.bool a=>K (.bool (a==b))
   | .neq,.bool a=>K (.bool (!(a==b)))
   |_,_=>False
  |_=>False
 | .string b=>
  match op,x with
  | .add,.string a=>((a.size+b.size:Nat):Int)<=9223372036854775807/\K (.string (a++b))
  |_,_=>G
 |_=>G
section
variable {P:Program}
theorem nB(T:TypeId)(x y:aa):Op.equal T x y=Op.equalIn (9999+1) T x y:=rfl
theorem A5(d:Nat){T:TypeId}{x:aa}{b:ag}(a:l_ (P.underlying T)=true)(h:l9 x=some b)(w:J):
 (Op.equalIn (d+1) T x .nilIface).run P w=.ok b w:=by
 cases hu:P.underlying T with
 |none=>simp[hu,l_]at a
 |some d=>
  cases d<;>simp only[hu,l_,ft]at a
  simp only[Op.equalIn,Sem.run_bind,cP hu,Result.andThen]
  cases x<;>simp only[l9,reduceCtorEq,Option.some.injEq]at h<;>subst h<;>rfl
theorem A6(d:Nat){T:TypeId}{p:an ab}(a:kC (P.underlying T)=true)(w:J):
 (Op.equalIn (d+1) T (.pointer p) (.pointer none)).run P w=.ok p.isNone w:=by
 cases hu:P.underlying T with
 |none=>simp[hu,kC]at a
 |some d=>
  cases d<;>simp only[hu,kC,ft]at a
  simp only[Op.equalIn,Sem.run_bind,cP hu,Result.andThen]
  cases p<;>rfl
theorem A7(d:Nat){T:TypeId}{a:an ab}{l c e c':Nat}(b:lk (P.underlying T)=true)(w:J):
 (Op.equalIn (d+1) T (.slice a l c) (.slice none e c')).run P w=.ok a.isNone w:=by
 cases hu:P.underlying T with
 |none=>simp[hu,lk]at b
 |some d=>
  cases d<;>simp only[hu,lk,ft]at b
  simp only[Op.equalIn,Sem.run_bind,cP hu,Result.andThen]
  cases a<;>rfl
theorem A8(d:Nat){T:TypeId}{r:an Nat}(a:nA (P.underlying T)=true)(w:J):
 (Op.equalIn (d+1) T (.map r) (.map none)).run P w=.ok r.isNone w:=by
 cases hu:P.underlying T with
 |none=>simp[hu,nA]at a
 |some d=>
  cases d<;>simp only[hu,nA,ft]at a
  simp only[Op.equalIn,Sem.run_bind,cP hu,Result.andThen]
  cases r<;>rfl
theorem w6{T:TypeId}{x:aa}{b:ag}(a:l_ (P.underlying T)=true)(h:l9 x=some b)(w:J):
 (Op.equal T x .nilIface).run P w=.ok b w:=by rw[nB];exact A5 _ a h w
theorem qS{T:TypeId}{p:an ab}(a:kC (P.underlying T)=true)(w:J):
 (Op.equal T (.pointer p) (.pointer none)).run P w=.ok p.isNone w:=by rw[nB];exact A6 _ a w
theorem qT{T:TypeId}{a:an ab}{l c b c':Nat}(d:lk (P.underlying T)=true)(w:J):
 (Op.equal T (.slice a l c) (.slice none b c')).run P w=.ok a.isNone w:=by rw[nB];exact A7 _ d w
theorem w7{T:TypeId}{r:an Nat}(a:nA (P.underlying T)=true)(w:J):
 (Op.equal T (.map r) (.map none)).run P w=.ok r.isNone w:=by rw[nB];exact A8 _ a w
theorem w8{T:TypeId}{xs ys:Array aa}(h:P.eqGuardType P.depth T=false)(op:BinOp)(x y:Operand)(w:J):
 (eqGuard op T x y (.agg xs) (.agg ys)).run P w=.ok () w:=by
 cases op<;>simp[eqGuard,program,Sem.run,bind,Sem.bind,h,pure]
theorem w9{T:TypeId}{a b:ag}(c:P.underlying T=some .bool)(w:J):(Op.equal T (.bool a) (.bool b)).run P w=.ok (a==b) w:=by
 have e:∀ (d:Nat) (w:J),(Op.equalIn (d+1) T (.bool a) (.bool b)).run P w=.ok (a==b) w:=by
  intro d w;simp[Op.equalIn,cP c]
 rw[nB];exact e _ w
theorem w_{op:BinOp}{T:TypeId}{x y:aa}{o9 nC:Operand}{K:aa->Prop}{G:Prop}
 (l:y=.nilIface->∃c,nC=.const c)
 (h:qR P op T x y K G):
 G\/∃v,(∀w,(do eqGuard op T o9 nC x y;binOp op T x y:Sem aa).run P w=.ok v w)/\K v:=by
 unfold qR at h;split at h
 case h_1=>
  obtain⟨c,hc⟩:=l rfl;by_cases d:l_ (P.underlying T)=true
  .rw[d]at h
   simp only[cond_true]at h;split at h
   .obtain⟨b,e,f⟩:=h
    refine .inr ⟨_,λw=>?_,f⟩;have:=w6 (P:=P) d e w
    cases x<;>simp only[l9,reduceCtorEq,Option.some.injEq]at e<;>subst hc e<;>simp[eqGuard,binOp,this]
   .obtain⟨b,e,f⟩:=h
    refine .inr ⟨_,λw=>?_,f⟩;have:=w6 (P:=P) d e w
    cases x<;>simp only[l9,reduceCtorEq,Option.some.injEq]at e<;>subst hc e<;>simp[eqGuard,binOp,this]
   .exact h.elim
  .simp only[e5]at d;rw[d]at h;exact h.elim
 case h_2=>
  by_cases d:kC (P.underlying T)=true
  .rw[d]at h
   simp only[cond_true]at h;split at h
   .exact .inr ⟨_,λw=>by simp[eqGuard,binOp,qS (P:=P) d],h⟩
   .exact .inr ⟨_,λw=>by simp[eqGuard,binOp,qS (P:=P) d],h⟩
   .exact h.elim
  .simp only[e5]at d;rw[d]at h;exact h.elim
 case h_3=>
  by_cases d:lk (P.underlying T)=true
  .rw[d]at h
   simp only[cond_true]at h;split at h
   .exact .inr ⟨_,λw=>by simp[eqGuard,binOp,qT (P:=P) d],h⟩
   .exact .inr ⟨_,λw=>by simp[eqGuard,binOp,qT (P:=P) d],h⟩
   .exact h.elim
  .simp only[e5]at d;rw[d]at h;exact h.elim
 case h_4=>
  by_cases d:nA (P.underlying T)=true
  .rw[d]at h
   simp only[cond_true]at h;split at h
   .exact .inr ⟨_,λw=>by simp[eqGuard,binOp,w7 (P:=P) d],h⟩
   .exact .inr ⟨_,λw=>by simp[eqGuard,binOp,w7 (P:=P) d],h⟩
   .exact h.elim
  .simp only[e5]at d;rw[d]at h;exact h.elim
 case h_5=>
  split at h
  .obtain⟨b,⟨h1,i⟩,f⟩:=h
   exact .inr ⟨_,λw=>by simp[w8 h1,binOp,i],f⟩
  .obtain⟨b,⟨h1,i⟩,f⟩:=h
   exact .inr ⟨_,λw=>by simp[w8 h1,binOp,i],f⟩
  .exact h.elim
 case h_6 j b=>
  split at h
  .rename_i k a
   by_cases g:k=j
   .subst g
    simp only[iP,decide_true,cond_true]at h;exact .inr ⟨_,λw=>by simp[eqGuard,binOp,Op.intDiv,h.1],h.2⟩
   .simp[iP,g]at h
  .rename_i k a
   by_cases g:k=j
   .subst g
    simp only[iP,decide_true,cond_true]at h;exact .inr ⟨_,λw=>by simp[eqGuard,binOp,Op.intDiv,h.1],h.2⟩
   .simp[iP,g]at h
  .exact .inr ⟨_,λw=>by simp[eqGuard,binOp,Op.shift,show¬b<0 from I],h.2⟩
  .exact .inr ⟨_,λw=>by simp[eqGuard,binOp,Op.shift,show¬b<0 from I],h.2⟩
  .exact .inl h
 case h_7 b=>
  split at h
  .rename_i d
   split at h
   .exact .inr ⟨_,λw=>by simp[eqGuard,binOp,w9 d],h⟩
   .exact .inr ⟨_,λw=>by simp[eqGuard,binOp,w9 d],h⟩
   .exact h.elim
  .exact h.elim
 case h_8 b=>
  split at h
  .rename_i a
   refine .inr ⟨_,λw=>?_,h.2⟩;have h1:=h.1;simp[eqGuard,binOp,Op.stringOp,IntKind.max,IntKind.signed,IntKind.bits];omega
  .exact .inl h
 case h_9=>exact .inl h
end
def qU(P:Program)(T:TypeId)(x:aa)(K:aa->Prop):Prop:=
 match P.underlying T with
 |some (.array n _)=>match x with
  | .slice a len _=>n<=len/\∃A,a=some A/\K (.pointer (some A))
  |_=>False
 |_=>False
def qV(P:Program)(T:TypeId)(x i:aa)(K:aa->Prop):Prop:=
 match i with
 | .int _ n=>
  match P.underlying T with
  |some (.slice elem)=>bif (P.underlying elem).isSome then
   match x with
   | .slice a len _=>∃A,a=some A/\(0<=n/\n<(len:Int))/\K (.pointer (some (A.add (n.toNat*P.cellsOf elem))))
   |_=>False
   else False
  |some (.array len elem)=>bif (P.underlying elem).isSome then
   match x with
   | .pointer (some A)=>(0<=n/\n<(len:Int))/\K (.pointer (some (A.add (n.toNat*P.cellsOf elem))))
   |_=>False
   else False
  |_=>False
 |_=>False
def o_(P:Program)(tk:TypeId->dn)(T:TypeId)(cs:Array aa)(off:Nat)(K:aa->Prop):Prop:=
 match P.underlying T with
 |none=>False
 |some d=>
  bif gw d then K (.agg (cs.extract off (off+P.cellsOf T)))
  else match tk T with
   | .one (.one l)=>l5 l λv=>cs[off]? =some v/\K v
   |_=>False
def qW(P:Program)(tk:TypeId->dn)(T:TypeId)(x i:aa)(K:aa->Prop):Prop:=
 match i with
 | .int _ n=>
  match P.underlying T with
  |some (.array len elem)=>match x with
   | .agg cs=>(0<=n/\n<(len:Int))/\o_ P tk elem cs (n.toNat*P.cellsOf elem) K
   |_=>False
  |some .string=>match x with
   | .string s=>0<=n/\∃b:UInt8,s.data.toList[n.toNat]? =some b/\K (.int .u8 b.toNat)
   |_=>False
  |_=>False
 |_=>False
def qX(P:Program)(tk:TypeId->dn)(T:TypeId)(x:aa)(i:Nat)(K:aa->Prop):Prop:=
 match P.underlying T with
 |some (.struct fs)=>match fs[i]? with
  |some f=>match x with
   | .agg cs=>o_ P tk f.type cs f.offset K
   |_=>False
  |none=>False
 |_=>False
def jC(v:an aa)(y d:Nat)(K:Nat->Prop):Prop:=
 match v with
 |none=>K d
 |some (.int _ i)=>(0<=i/\i<=(y:Int))/\K i.toNat
 |_=>False
def aL(a:an ab)(sz l m:Nat):an ab:=if m=l then a else a.map (·.add (l*sz))
def qY(P:Program)(T:TypeId)(x:aa)(lo hi b:an aa)(K:aa->Prop):Prop:=
 match P.underlying T with
 |some .string=>match b,x with
  |none,.string s=>jC hi s.size s.size λh=>jC lo h 0 λl=>K (.string (s.extract l h))
  |_,_=>False
 |some (.slice elem)=>bif (P.underlying elem).isSome then
  match x with
  | .slice a len cap=>match b with
   |none=>jC hi cap len λh=>jC lo h 0 λl=>K (.slice (aL a (P.cellsOf elem) l cap) (h-l) (cap-l))
   |some c=>match hi with
    |none=>False
    |some d=>jC (some c) cap 0 λm=>jC (some d) m 0 λh=>jC lo h 0 λl=>K (.slice (aL a (P.cellsOf elem) l m) (h-l) (m-l))
  |_=>False
  else False
 |some (.array n elem)=>bif (P.underlying elem).isSome then
  match b,x with
  |none,.pointer (some A)=>jC hi n n λh=>jC lo h 0 λl=>K (.slice (aL (some A) (P.cellsOf elem) l n) (h-l) (n-l))
  |_,_=>False
  else False
 |_=>False
def uk(P:Program)(T:TypeId)(l c:aa)(w:J)(K:aa->J->Prop):Prop:=
 match P.underlying T with
 |some (.slice elem)=>bif (P.underlying elem).isSome then
  bif ((P.info? elem).bind (·.zero)).isSome then
  match l,c with
  | .int _ n,.int _ m=>(0<=n/\n<=m/\m<=9223372036854775807/\(P.bytesOf elem:Int)*m<=140737488355328)/\
   K (.slice (some ⟨w.heap.size,0,none⟩) n.toNat m.toNat) {w with heap:=w.heap.push (.cells (gq P elem m.toNat) elem)}
  |_,_=>False
  else False
  else False
 |_=>False
section
variable {P:Program}{w:J}
theorem jf(o:an TypeDesc)(h:o.isSome=true):∃d,o=some d:=nj.1 h
theorem xa{T:TypeId}{x:aa}{K:aa->Prop}(h:qU P T x K):∃v,(∀w,(Instr.arrayAt T x).run P w=.ok v w)/\K v:=by
 unfold qU at h;split at h
 .rename_i n e b
  split at h
  .rename_i a len cap
   obtain⟨h1,A,rfl,c⟩:=h;exact⟨_,λw=>by simp[Instr.arrayAt,cP b,Nat.not_lt.2 h1],c⟩
  .exact h.elim
 .exact h.elim
theorem xb{T:TypeId}{x i:aa}{K:aa->Prop}(h:qV P T x i K):∃v,(∀w,(Instr.indexAt T x i).run P w=.ok v w)/\K v:=by
 unfold qV at h;split at h
 .rename_i k n
  split at h
  .rename_i elem a
   by_cases he:(P.underlying elem).isSome=true
   .rw[he]at h
    simp only[cond_true]at h;split at h
    .obtain⟨A,rfl,b,c⟩:=h
     obtain⟨d,hd⟩:=jf _ he;exact⟨_,λw=>by simp[Instr.indexAt,asIntOf,cP a,b,gx hd],c⟩
    .exact h.elim
   .simp only[e5]at he;rw[he]at h;exact h.elim
  .rename_i len elem a
   by_cases he:(P.underlying elem).isSome=true
   .rw[he]at h
    simp only[cond_true]at h;split at h
    .obtain⟨b,c⟩:=h
     obtain⟨d,hd⟩:=jf _ he;exact⟨_,λw=>by simp[Instr.indexAt,asIntOf,Instr.sureAddr,cP a,b,gx hd],c⟩
    .exact h.elim
   .simp only[e5]at he;rw[he]at h;exact h.elim
  .exact h.elim
 .exact h.elim
theorem xc{tk:TypeId->dn}{T:TypeId}{cs:Array aa}{off:Nat}{K:aa->Prop}(h:o_ P tk T cs off K):∃v,(∀w,(part T cs off).run P w=.ok v w)/\K v:=by
 unfold o_ at h;split at h
 .exact h.elim
 .rename_i d a
  cases hd:gw d with
  |true=>
   rw[hd]at h;exact⟨_,λw=>by simp[part,ny a,hd,gx a],h⟩
  |false=>
   rw[hd]at h;simp only[cond_false]at h;split at h
   .obtain⟨v,b,c⟩:=nx h
    exact⟨v,λw=>by simp[part,ny a,hd,b],c⟩
   .exact h.elim
theorem xd{tk:TypeId->dn}{T:TypeId}{x i:aa}{K:aa->Prop}(h:qW P tk T x i K):∃v,(∀w,(Instr.index T x i).run P w=.ok v w)/\K v:=by
 unfold qW at h;split at h
 .rename_i k n
  split at h
  .rename_i len elem a
   split at h
   .obtain⟨c,h⟩:=h
    obtain⟨v,f,e⟩:=xc h;refine⟨v,λw=>?_,e⟩;have hs:(Go.sizeOf elem).run P w=.ok (P.cellsOf elem) w:=by
     unfold o_ at h
     cases he:P.underlying elem with
     |none=>simp[he]at h
     |some d=>exact gx he
    simp[Instr.index,asIntOf,cP a,c,hs,f]
   .exact h.elim
  .rename_i a
   split at h
   .rename_i s
    obtain⟨c,b,hs,e⟩:=h;have g:s[n.toNat]? =some b:=by
     obtain⟨h1,j⟩:=jA.1 hs;have l:n.toNat<s.size:=by simpa using h1
     rw[getElem?_pos s n.toNat l];simp only[Option.some.injEq];rw[←j];rfl
    exact⟨_,λw=>by simp[Instr.index,asIntOf,cP a,c,g],e⟩
   .exact h.elim
  .exact h.elim
 .exact h.elim
theorem xe{tk:TypeId->dn}{T:TypeId}{x:aa}{i:Nat}{K:aa->Prop}(h:qX P tk T x i K):∃v,(∀w,(Instr.field T x i).run P w=.ok v w)/\K v:=by
 unfold qX at h;split at h
 .rename_i fs a
  split at h
  .rename_i f hf
   split at h
   .obtain⟨v,b,c⟩:=xc h
    exact⟨v,λw=>by simp[Instr.field,cP a,hf,asAgg,b],c⟩
   .exact h.elim
  .exact h.elim
 .exact h.elim
theorem jg{v:an aa}{y d:Nat}{c:BoundsCode}{K:Nat->Prop}(h:jC v y d K):
 (v=none/\K d)\/∃u n,v=some u/\(∀w,(Instr.sliceBound u y c).run P w=.ok n w)/\K n:=by
 unfold jC at h;split at h
 .exact .inl ⟨rfl,h⟩
 .exact .inr ⟨_,_,rfl,λw=>by simp[Instr.sliceBound,asIntOf,h.1],h.2⟩
 .exact h.elim
theorem xf{T:TypeId}{x:aa}{lo hi p:an aa}{K:aa->Prop}(h:qY P T x lo hi p K):
 ∃v,(∀w,(Instr.sliceAt T x lo hi p).run P w=.ok v w)/\K v:=by
 unfold qY at h;split at h
 .rename_i g
  split at h
  .rename_i s
   rcases jg (P:=P) (c:=.sliceAlen) h with ⟨f,h1⟩|⟨u,n,f,j,h1⟩
   .rcases jg (P:=P) (c:=.sliceB) h1 with ⟨b,e⟩|⟨m,bc,b,i,e⟩
    .exact⟨_,λw=>by simp[Instr.sliceAt,Instr.slice,cP g,Instr.sliceBounds,f,b],e⟩
    .exact⟨_,λw=>by simp[Instr.sliceAt,Instr.slice,cP g,Instr.sliceBounds,f,b,i],e⟩
   .rcases jg (P:=P) (c:=.sliceB) h1 with ⟨b,e⟩|⟨m,bc,b,i,e⟩
    .exact⟨_,λw=>by simp[Instr.sliceAt,Instr.slice,cP g,Instr.sliceBounds,f,b,j],e⟩
    .exact⟨_,λw=>by simp[Instr.sliceAt,Instr.slice,cP g,Instr.sliceBounds,f,b,j,i],e⟩
  .exact h.elim
 .rename_i elem g
  by_cases he:(P.underlying elem).isSome=true
  .rw[he]at h
   simp only[cond_true]at h;obtain⟨d,hd⟩:=jf _ he;have k:=λw:J=>gx (w:=w) hd;split at h
   .rename_i a len cap
    split at h
    .rcases jg (P:=P) (c:=.sliceAcap) h with ⟨f,h1⟩|⟨u,n,f,j,h1⟩
     .rcases jg (P:=P) (c:=.sliceB) h1 with ⟨b,e⟩|⟨m,bc,b,i,e⟩
      .exact⟨_,λw=>by simp[Instr.sliceAt,Instr.slice,cP g,Instr.sliceBounds,k,aL,f,b],e⟩
      .exact⟨_,λw=>by simp[Instr.sliceAt,Instr.slice,cP g,Instr.sliceBounds,i,k,aL,f,b],e⟩
     .rcases jg (P:=P) (c:=.sliceB) h1 with ⟨b,e⟩|⟨m,bc,b,i,e⟩
      .exact⟨_,λw=>by simp[Instr.sliceAt,Instr.slice,cP g,Instr.sliceBounds,j,k,aL,f,b],e⟩
      .exact⟨_,λw=>by simp[Instr.sliceAt,Instr.slice,cP g,Instr.sliceBounds,j,i,k,aL,f,b],e⟩
    .split at h
     .exact h.elim
     .rcases jg (P:=P) (c:=.slice3Acap) h with ⟨l,h1⟩|⟨u,n,l,j,h1⟩
      .cases l
      .cases l
       rcases jg (P:=P) (c:=.slice3B) h1 with ⟨l,e⟩|⟨r,bG,l,q,e⟩
       .cases l
       .cases l
        rcases jg (P:=P) (c:=.slice3C) e with ⟨b,o⟩|⟨m,bc,b,i,o⟩
        .exact⟨_,λw=>by simp[Instr.sliceAt,Instr.slice,cP g,Instr.sliceBounds,j,q,k,aL,b],o⟩
        .exact⟨_,λw=>by simp[Instr.sliceAt,Instr.slice,cP g,Instr.sliceBounds,j,q,i,k,aL,b],o⟩
   .exact h.elim
  .simp only[e5]at he;rw[he]at h;exact h.elim
 .rename_i n elem g
  by_cases he:(P.underlying elem).isSome=true
  .rw[he]at h
   simp only[cond_true]at h;obtain⟨d,hd⟩:=jf _ he;have k:=λw:J=>gx (w:=w) hd;split at h
   .rename_i A
    rcases jg (P:=P) (c:=.sliceAlen) h with ⟨f,h1⟩|⟨u,bG,f,j,h1⟩
    .rcases jg (P:=P) (c:=.sliceB) h1 with ⟨b,e⟩|⟨m,bc,b,i,e⟩
     .refine⟨_,λw=>?_,e⟩
      simp[Instr.sliceAt,cP g,Instr.sureAddr,Instr.sliceBounds,k,aL,f,b];try (split<;>rfl)
     .refine⟨_,λw=>?_,e⟩
      simp[Instr.sliceAt,cP g,Instr.sureAddr,Instr.sliceBounds,i,k,aL,f,b];try (split<;>rfl)
    .rcases jg (P:=P) (c:=.sliceB) h1 with ⟨b,e⟩|⟨m,bc,b,i,e⟩
     .refine⟨_,λw=>?_,e⟩
      simp[Instr.sliceAt,cP g,Instr.sureAddr,Instr.sliceBounds,j,k,aL,f,b];try (split<;>rfl)
     .refine⟨_,λw=>?_,e⟩
      simp[Instr.sliceAt,cP g,Instr.sureAddr,Instr.sliceBounds,j,i,k,aL,f,b];try (split<;>rfl)
   .exact h.elim
  .simp only[e5]at he;rw[he]at h;exact h.elim
 .exact h.elim
theorem um{n:Int}(h0:0<=n)(h1:n<=9223372036854775807):IntKind.i64.wrap n=n:=by
 have e:n%18446744073709551616=n:=Int.emod_eq_of_lt h0 I;simp[IntKind.wrap,IntKind.signed,IntKind.bits,e];omega
theorem A9{T:TypeId}{l c:aa}{K:aa->J->Prop}(h:uk P T l c w K):
 ∃v w',(Instr.makeSlice T l c).run P w=.ok v w'/\K v w':=by
 unfold uk at h;split at h
 .rename_i elem e
  by_cases he:(P.underlying elem).isSome=true
  .rw[he]at h
   simp only[cond_true]at h;by_cases a:((P.info? elem).bind (·.zero)).isSome=true
   .rw[a]at h
    simp only[cond_true]at h;split at h
    .rename_i k n t m
     obtain⟨⟨h0,h1,f,g⟩,j⟩:=h;obtain⟨d,hd⟩:=jf _ he;obtain⟨i,hi⟩:=info_of_underlying hd;obtain⟨z,b⟩:=nj.1 a;simp only[hi,Option.bind_some]at b;have o:P.bytesOf elem=i.bytes:=by simp[Program.bytesOf,hi]
     have hc:P.cellsOf elem=i.size:=by simp[Program.cellsOf,hi]
     rw[o]at g;have p:=um h0 I;have q:=um (n:=m) I f;refine⟨_,_,?_,j⟩;have r:¬(m<0):=by omega
     have s:¬(281474976710656<(i.bytes:Int)*m):=by omega
     simp[Instr.makeSlice,cP e,asInt,asIntOf,l7 hi,p,q,r,s,gx hd,show¬n<0 from I,show¬m<n from I];by_cases hs:m.toNat*P.cellsOf elem=0
     .simp[hs,newRow,newObj,Sem.run,gq]
     .simp[zeroValue,l7 hi,b,newRow,newObj,Sem.run,gq,hs,hi]
    .exact h.elim
   .simp only[e5]at a;rw[a]at h;exact h.elim
  .simp only[e5]at he;rw[he]at h;exact h.elim
 .exact h.elim
end
def ao(w:J)(K:J->Prop):Prop:=K w
def uo(s:ByteArray)(n:Nat):an UInt8:=s.data.toList[n]?
def cellAt(cs:Array aa)(n:Nat):an aa:=cs[n]?
def iQ(k:IntKind)(a b:Int):Int:=k.wrap ((BitVec.ofInt k.bits a&&&BitVec.ofInt k.bits b).toNat:Int)
def ll(k:IntKind)(a b:Int):Int:=k.wrap ((BitVec.ofInt k.bits a|||BitVec.ofInt k.bits b).toNat:Int)
def mb(k:IntKind)(a b:Int):Int:=k.wrap ((BitVec.ofInt k.bits a^^^BitVec.ofInt k.bits b).toNat:Int)
def xg(k:IntKind)(a b:Int):Int:=k.wrap ((BitVec.ofInt k.bits a&&&~~~BitVec.ofInt k.bits b).toNat:Int)
def pb(P:Program)(o:Oper)(K:aa->J->Prop)(e:Env)(w:J):Prop:=
 bif known e o.op.operands then
  match (execOp (ro e) o).run P w with
  | .ok (.value v) w'=>ao w' λw1=>K v w1
  |_=>False
 else False
def xh(P:Program)(tk:TypeId->dn)(T:TypeId):dn:=
 match P.underlying T with
 |some (.slice e)=>tk e
 |_=>.one (.one .agg)
def c6.A_:c6->ag
 | .slice=>true
 |_=>false
def xi:dn->ag
 | .one (.one .agg)=>true
 | .one (.flat ls)=>ls.any c6.A_
 |_=>false
def gen(P:Program)(tk:TypeId->dn)(o:Oper)(K:aa->J->Prop)(e:Env)(w:J):Prop:=
 bif known e o.op.operands then
  match (execOp (ro e) o).run P w with
  | .ok (.value v) w'=>K v w'
  | .ok .skip w'=>K undef w'
  | .ok (.enter f args) w'=>Calls P f args w' λa b=>gP (tk o.type) λv=>a=.returned v/\K v b
  |_=>False
 else False
def hY(P:Program)(f:FuncId):Prop:=∃fn,P.funcs[f]? =some fn/\(fn.name== "runtime.NumGoroutine")=false/\fn.body.isNone=false
theorem xj{P:Program}{f:FuncId}(h:hY P f)(args:Array aa)(w:J):(callFunc f args).run P w=.ok (.enter f args) w:=by
 obtain⟨fn,h1,b,a⟩:=h;have c:¬fn.name= "runtime.NumGoroutine" :=by simpa using b
 have d:¬fn.body=none:=by
  intro h;rw[h]at a;cases a
 simp[callFunc,program,Sem.run,bind,Sem.bind,h1,c,d,pure]
def uq:Op->ag
 | .select _ _=>true
 |_=>false
def xk(P:Program)(T:TypeId):Operand->ag
 | .const _=>false
 |_=>l_ (P.underlying T)||kC (P.underlying T)
def Ba(P:Program)(op:BinOp)(T:TypeId)(o9 nC:Operand)(x y:aa)(b:ag):Prop:=
 ∀w,Sem.run P (do eqGuard op T o9 nC x y;binOp op T x y:Sem aa) w=.ok (.bool b) w
def nD:Operand->aa->ag
 | .const _,_=>true
 |_,.nilIface=>false
 |_,_=>true
def iu(P:Program)(tk:TypeId->dn)(o:Oper)(K:aa->J->Prop)(e:Env)(w:J):Prop:=
 match o.op with
 | .nilCheck x=>match ev e x with
  |some (.pointer p)=>∃A,p=some A/\K (.pointer (some A)) w
  |_=>False
 | .load T x=>match ev e x with
  |some (.pointer (some A))=>nz P tk T A w λv=>K v w
  |_=>False
 | .store T x y=>match ev e x,ev e y with
  |some (.pointer (some A)),some v=>uj P tk T A v w λw'=>ao w' λw1=>K undef w1
  |_,_=>False
 | .binOp op T x y _=>match ev e x,ev e y with
  |some a,some u=>bif xk P T y then (∃b:ag,Ba P op T x y a u b/\K (.bool b) w) else
   bif nD y u then qR P op T a u (λv=>K v w) (gen P tk o K e w) else False
  |_,_=>False
 | .indexAddr T x i=>match ev e x,ev e i with
  |some a,some g=>qV P T a g λv=>K v w
  |_,_=>False
 | .index T x i=>match ev e x,ev e i with
  |some a,some g=>qW P tk T a g λv=>K v w
  |_,_=>False
 | .field T x i=>match ev e x with
  |some a=>qX P tk T a i λv=>K v w
  |_=>False
 | .alloc _=>pb P o K e w
 | .box _ _=>pb P o K e w
 | .buildSlice T n ps=>bif xi (xh P tk T) then
  (bif known e o.op.operands then
    gP (tk o.type) λr=>∃w1,(Instr.buildSlice T n (ps.map λp=>(p.1,ro e p.2))).run P w=.ok r w1/\K r w1
  else False)
  else pb P o K e w
 | .slice T x lo hi z=>bif known e o.op.operands then
  qY P T (ro e x) (lo.map (ro e)) (hi.map (ro e)) (z.map (ro e)) λv=>K v w
  else False
 | .makeSlice T l c=>match ev e l,ev e c with
  |some B,some C=>uk P T B C w λv w'=>ao w' λw1=>K v w1
  |_,_=>False
 | .convert s d x=>match ev e x with
  |some (.int j n)=>bif (P.underlying s).isSome then
   match P.underlying d with
   |some (.int k)=>K (.int k (k.wrap n)) w
   |_=>gP (tk o.type) λr=>∃w1,(convert s d (.int j n)).run P w=.ok r w1/\K r w1
   else False
  |some v=>gP (tk o.type) λr=>∃w1,(convert s d v).run P w=.ok r w1/\K r w1
  |none=>False
 | .build t ps=>match tk t with
  | .one (.flat _)=>gen P tk o K e w
  |_=>bif known e o.op.operands then
   ∃cs:Array aa,(Instr.build t (ps.map λp=>(p.1,ro e p.2))).run P w=.ok (.agg cs) w/\K (.agg cs) w
   else False
 | .lookup T m i ok=>match ev e m,ev e i with
  |some h,some g=>gP (tk o.type) λr=>∃w1,(Instr.lookup T h g ok).run P w=.ok r w1/\K r w1
  |_,_=>False
 | .mapUpdate T m i x=>match ev e m,ev e i,ev e x with
  |some h,some g,some a=>∃w1,(Instr.mapUpdate T h g a).run P w=.ok () w1/\K undef w1
  |_,_,_=>False
 | .makeMap T r=>bif known e o.op.operands then gP (tk o.type) λv=>∃w1,(Instr.makeMap T (r.map (ro e))).run P w=.ok v w1/\K v w1 else False
 | .range T x=>match ev e x with
  |some a=>∃v w1,(Instr.range T a).run P w=.ok v w1/\K v w1
  |_=>False
 | .next it q=>match ev e it with
  |some a=>(bif q then ∃ (n:Int) (c:Int) (w1:J),(Instr.next a q o.type).run P w=.ok (.tuple #[.bool true,.int .i64 n,.int .i32 c]) w1/\K (.tuple #[.bool true,.int .i64 n,.int .i32 c]) w1
   else ∃ (k:aa) (v:aa) (w1:J),(Instr.next a q o.type).run P w=.ok (.tuple #[.bool true,k,v]) w1/\K (.tuple #[.bool true,k,v]) w1)\/
   (∃w1:J,(Instr.next a q o.type).run P w=.ok (.tuple #[.bool false]) w1/\K (.tuple #[.bool false]) w1)
  |_=>False
 | .call c=>match c.callee with
  | .value (.tmp k)=>match e.get k with
   |some (.func (.func f) pre cap)=>bif known e o.op.operands then
    hY P f/\Calls P f (pre++c.args.map (ro e)++cap) w λD w1=>gP (tk o.type) λv=>D=.returned v/\K v w1
    else False
   |_=>gen P tk o K e w
  | .builtin .append=>bif known e o.op.operands then gP (tk o.type) λr=>∃w1,(Builtin.append_ c.argTypes o.type (c.args.map (ro e))).run P w=.ok r w1/\K r w1 else False
  | .builtin .copy=>bif known e o.op.operands then gP (tk o.type) λr=>∃w1,(Builtin.copy_ c.argTypes o.type (c.args.map (ro e))).run P w=.ok r w1/\K r w1 else False
  | .builtin .min=>bif known e o.op.operands then gP (tk o.type) λr=>∃w1,(Builtin.min_ c.argTypes o.type (c.args.map (ro e))).run P w=.ok r w1/\K r w1 else False
  | .builtin .max=>bif known e o.op.operands then gP (tk o.type) λr=>∃w1,(Builtin.max_ c.argTypes o.type (c.args.map (ro e))).run P w=.ok r w1/\K r w1 else False
  | .builtin .delete=>bif known e o.op.operands then ∃r w1,(Builtin.delete_ c.argTypes o.type (c.args.map (ro e))).run P w=.ok r w1/\K r w1 else False
  | .value (.func f)=>match P.funcs[f]? with
   |some fn=>match fn.body with
    |some _=>gen P tk o K e w
    |none=>bif known e o.op.operands then gP (tk o.type) λr=>∃w1,(callFunc f (c.args.map (ro e))).run P w=.ok (.value r) w1/\K r w1 else False
   |none=>False
  | .builtin .unsafeString=>bif known e o.op.operands then gP (tk o.type) λr=>∃w1,(Builtin.unsafeString_ c.argTypes o.type (c.args.map (ro e))).run P w=.ok r w1/\K r w1 else False
  | .builtin .unsafeSliceData=>bif known e o.op.operands then gP (tk o.type) λr=>∃w1,(Builtin.unsafeSliceData_ c.argTypes o.type (c.args.map (ro e))).run P w=.ok r w1/\K r w1 else False
  | .builtin .clear=>bif known e o.op.operands then ∃r w1,(Builtin.clear_ c.argTypes o.type (c.args.map (ro e))).run P w=.ok r w1/\K r w1 else False
  | .builtin .len=>match ((c.args.map (ro e))[0]? :an aa) with
   |some (Value.map _)=>bif known e o.op.operands then gP (tk o.type) λr=>∃w1,(Builtin.len_ c.argTypes o.type (c.args.map (ro e))).run P w=.ok r w1/\K r w1 else False
   |_=>gen P tk o K e w
  |_=>gen P tk o K e w
 | .sliceToArrayPointer T x=>match ev e x with
  |some a=>qU P T a λv=>K v w
  |_=>False
 | .mapEntry T m i=>match ev e m,ev e i with
  |some h,some g=>∃ (v0:aa) (st:Int) (w1:J),(Instr.mapEntry T h g).run P w=.ok (.tuple #[v0,.int .i64 st]) w1/\K (.tuple #[v0,.int .i64 st]) w1
  |_,_=>False
 | .entryStore T m s x=>match ev e m,ev e s,ev e x with
  |some h,some vs,some a=>∃w1,(Instr.entryStore T h vs a).run P w=.ok () w1/\K undef w1
  |_,_,_=>False
 | .entry it=>match ev e it with
  |some a=>gP (tk o.type) λv=>∃w1,(Instr.entry a).run P w=.ok v w1/\K v w1
  |_=>False
 | .select _ _=>False
 |_=>gen P tk o K e w
def kD(P:Program)(o:Oper)(a:Act)(w:J)(K:aa->J->Prop):Prop:=
 (∃v w',(execOp a.eval o).run P w=.ok (.value v) w'/\K v w')\/
 (∃w',(execOp a.eval o).run P w=.ok .skip w'/\K undef w')\/
 (∃f args w',(execOp a.eval o).run P w=.ok (.enter f args) w'/\Calls P f args w' λb c=>∃v,b=.returned v/\K v c)
theorem kD.wp{P:Program}{o:Oper}{a:Act}{w:J}{K:aa->J->Prop}{next:Act->J->Prop}{Q:Exit->Act->J->Prop}
 (h:kD P o a w K) (c:∀v w',K v w'->next (a.put o.dst v) w'):o.wp P a w next Q:=by
 unfold Oper.wp;rcases h with ⟨v,w',h,b⟩|⟨w',h,b⟩|⟨f,args,w',h,hc⟩
 .rw[h];exact c _ _ b
 .rw[h];exact c _ _ b
 .rw[h]
  exact hc.mono λe g ⟨v,d,b⟩=>by subst d;exact c _ _ b
section
variable {P:Program}{tk:TypeId->dn}{o:Oper}{K:aa->J->Prop}{e:Env}{a:Act}{w:J}
theorem Bb(ar:c7 e a){xs:Array Operand}(h:known e xs=true):∀x∈xs,a.eval x=ro e x:=by
 intro x hx;exact ar.ro (k7.1 h x (by simpa using hx))
theorem jh(ar:c7 e a)(hs:uq o.op=false)(h:known e o.op.operands=true):execOp a.eval o=execOp (ro e) o:=
 execOp_congr o (λcs b hc=>by rw[hc]at hs;cases hs) (Bb ar h)
theorem mc(ar:c7 e a)(hs:uq o.op=false)(h:gen P tk o K e w):kD P o a w K:=by
 unfold gen at h;by_cases c:known e o.op.operands=true
 .rw[c]at h
  simp only[cond_true]at h;have hc:=jh ar hs c;unfold kD;rw[hc];split at h
  .rename_i v w' b
   exact .inl ⟨v,w',b,h⟩
  .rename_i w' b
   exact .inr (.inl ⟨w',b,h⟩)
  .rename_i f args w' b
   refine .inr (.inr ⟨f,args,w',b,h.mono λg i d=>?_⟩);exact g2 d
  .exact h.elim
 .simp only[e5]at c
  rw[c]at h;exact h.elim
theorem ur(ar:c7 e a)(hs:uq o.op=false)(h:pb P o K e w):kD P o a w K:=by
 unfold pb at h;by_cases b:known e o.op.operands=true
 .rw[b]at h
  simp only[cond_true]at h;have hc:=jh ar hs b;unfold kD;rw[hc];split at h
  .rename_i v w' c
   exact .inl ⟨v,w',c,h⟩
  .exact h.elim
 .simp only[e5]at b
  rw[b]at h;exact h.elim
theorem uu:∀ {ls:O c6}{A:ab}{i:Nat}{K:O aa->Prop},ui ls A i w K->∃vs,cy w A i ls.length=some vs/\K vs
 | [],_,_,_,h=>⟨[],rfl,h⟩
 |l::ls,A,i,K,h=>by
  obtain⟨v,a,h⟩:=nx h
  obtain⟨vs,b,h⟩:=uu h
  exact⟨v::vs,by simp[cy,a,b],h⟩
theorem xl{T:TypeId}{A:ab}{K:aa->Prop}(h:nz P tk T A w K):∃v,(Instr.loadAt T (.pointer (some A))).run P w=.ok v w/\K v:=by
 have e:(Instr.loadAt T (.pointer (some A))).run P w=(loadVar T A).run P w:=by simp[Instr.loadAt,Instr.sureAddr]
 rw[e];unfold nz at h;split at h
 .exact h.elim
 .rename_i d b
  cases hd:gw d with
  |true=>
   rw[hd]at h;simp only[cond_true]at h;split at h
   .rename_i ls _
    by_cases a:Nat.beq (P.cellsOf T) ls.length=true
    .rw[a]at h
     simp only[cond_true]at h;obtain⟨vs,c,h⟩:=uu h;rw[←gZ a]at c;exact⟨_,qQ b hd c,h⟩
    .simp only[e5]at a;rw[a]at h;exact h.elim
   .obtain⟨cs,hc,h⟩:=h
    exact⟨_,qQ b hd hc,h⟩
  |false=>
   rw[hd]at h;simp only[cond_false]at h;split at h
   .obtain⟨v,f,h⟩:=nx h
    exact⟨v,w4 b hd f,h⟩
   .exact h.elim
theorem uv{v:aa}(h:Plain v):v.cells= #[v]:=by cases v<;>first|rfl|exact h.elim
theorem add_zero'(A:ab):A.add 0=A:=rfl
theorem Bc{T:TypeId}{A:ab}{x:aa}{K:J->Prop}(h:uj P tk T A x w K):
 ∃w',(Instr.storeAt T (.pointer (some A)) x).run P w=.ok () w'/\K w':=by
 have f:(Instr.storeAt T (.pointer (some A)) x).run P w=(storeVar T A x).run P w:=by simp[Instr.storeAt,Instr.sureAddr]
 rw[f];unfold uj at h;split at h
 .exact h.elim
 .rename_i d c
  cases hd:gw d with
  |true=>
   rw[hd]at h;simp only[cond_true]at h;split at h
   .rename_i cs
    exact⟨_,w5 (v:=.agg cs) c h.2.1 h.1,h.2.2⟩
   .exact h.elim
  |false=>
   rw[hd]at h;simp only[cond_false]at h;have one:∀ (b:Plain x) (a:Nat.beq (P.cellsOf T) 1=true),((∃u,w.cell? A=some u)/\w.frozen? A=false/\K (w.setCell A x))->∃w',(storeVar T A x).run P w=.ok () w'/\K w':=by
    intro b a ⟨⟨u,hu⟩,hf,g⟩;refine⟨_,w5 (v:=x) c ?_ ?_,?_⟩
    .rw[uv b,gZ a];rfl
    .rw[uv b]
     refine⟨λi hi=>?_,λv j=>?_⟩
     .have:i=0:=by simpa using hi
      subst this;rw[add_zero',hu];exact⟨rfl,hf⟩
     .have:v=x:=by simpa using j
      subst this;exact b
    .rw[uv b]
     exact g
   by_cases a:Nat.beq (P.cellsOf T) 1=true
   .have e:=a
    rw[a]at h;simp only[cond_true]at h;split at h
    .exact one h.1 e h.2
    .split at h
     .exact h.elim
     .exact h.elim
     .rename_i h1 k
      refine one ?_ e h
      cases x<;>first|exact trivial|(exact absurd rfl (h1 _))|(exact absurd rfl (k _))
   .simp only[e5]at a;rw[a]at h;exact h.elim
theorem qZ(ar:c7 e a)(h:iu P tk o K e w):kD P o a w K:=by
 unfold iu at h;split at h
 case h_1 x j=>
  split at h
  .rename_i p hx
   obtain⟨A,rfl,g⟩:=h;exact .inl ⟨_,_,by simp[execOp,j,ar.ev hx],g⟩
  .exact h.elim
 case h_2 T x j=>
  split at h
  .rename_i A hx
   obtain⟨v,B,g⟩:=xl h;exact .inl ⟨v,w,by simp[execOp,j,ar.ev hx,B],g⟩
  .exact h.elim
 case h_3 T x y j=>
  split at h
  .rename_i A v hx H
   obtain⟨w',U,g⟩:=Bc h;exact .inr (.inl ⟨w',by simp[execOp,j,ar.ev hx,ar.ev H,U],g⟩)
  .exact h.elim
 case h_4 op T x y ab j=>
  split at h
  .rename_i D R hx H
   by_cases N:xk P T y=true
   .rw[N]at h
    simp only[cond_true]at h;obtain⟨b,z,g⟩:=h;exact .inl ⟨_,w,by
     simp only[execOp,j,ar.ev hx,ar.ev H];have G:=z w;simp only[Sem.run_bind]at G⊢;rw[G];rfl,g⟩
   simp only[e5]at N;rw[N]at h;simp only[cond_false]at h;by_cases I:nD y R=true
   .rw[I]at h
    simp only[cond_true]at h;have V:R=.nilIface->∃c,y=.const c:=by
     intro B;subst B
     cases y<;>simp[nD]at I⊢
    rcases w_ (o9:=x) (nC:=y) V h with hg|⟨v,B,g⟩
    .exact mc ar (by rw[j];rfl) hg
    .exact .inl ⟨v,w,by
      simp only[execOp,j,ar.ev hx,ar.ev H];have G:=B w;simp only[Sem.run_bind]at G⊢;rw[G];rfl,g⟩
   .simp only[e5]at I;rw[I]at h;exact h.elim
  .exact h.elim
 case h_5 T x i j=>
  split at h
  .rename_i D L hx hi
   obtain⟨v,B,g⟩:=xb h;exact .inl ⟨v,w,by simp[execOp,j,ar.ev hx,ar.ev hi,B],g⟩
  .exact h.elim
 case h_6 T x i j=>
  split at h
  .rename_i D L hx hi
   obtain⟨v,B,g⟩:=xd h;exact .inl ⟨v,w,by simp[execOp,j,ar.ev hx,ar.ev hi,B],g⟩
  .exact h.elim
 case h_7 T x i j=>
  split at h
  .rename_i D hx
   obtain⟨v,B,g⟩:=xe h;exact .inl ⟨v,w,by simp[execOp,j,ar.ev hx,B],g⟩
  .exact h.elim
 case h_8 T j=>exact ur ar (by rw[j];rfl) h
 case h_9 T x j=>exact ur ar (by rw[j];rfl) h
 case h_10 T n ps j=>
  cases S:xi (xh P tk T) with
  |true=>
   rw[S]at h;simp only[cond_true]at h;by_cases u:known e o.op.operands=true
   .rw[u]at h
    simp only[cond_true]at h;have hc:=jh ar (by rw[j];rfl) u;obtain⟨r,w1,q,g⟩:=g2 h;exact .inl ⟨r,w1,by rw[hc];simp[execOp,j];rw[q];rfl,g⟩
   .simp only[e5]at u;rw[u]at h;exact h.elim
  |false=>
   rw[S]at h;exact ur ar (by rw[j];rfl) h
 case h_11 T x lo hi ac j=>
  by_cases u:known e o.op.operands=true
  .rw[u]at h
   simp only[cond_true]at h;have hc:=jh ar (by rw[j];rfl) u;obtain⟨v,B,g⟩:=xf h;exact .inl ⟨v,w,by rw[hc];simp[execOp,j,B],g⟩
  .simp only[e5]at u;rw[u]at h;exact h.elim
 case h_12 T l c j=>
  split at h
  .rename_i ad ae hl hc
   obtain⟨v,w',B,g⟩:=A9 h;exact .inl ⟨v,w',by simp[execOp,j,ar.ev hl,ar.ev hc,B],g⟩
  .exact h.elim
 case h_13 s d x j=>
  split at h
  .rename_i k n hx
   by_cases hs:(P.underlying s).isSome=true
   .rw[hs]at h
    simp only[cond_true]at h;obtain⟨ds,W⟩:=jf _ hs;split at h
    .rename_i af hd
     exact .inl ⟨_,_,by simp[execOp,j,ar.ev hx,convert,cP W,cP hd,Conv.intToInt],h⟩
    .obtain⟨r,w1,q,g⟩:=g2 h
     exact .inl ⟨r,w1,by simp[execOp,j,ar.ev hx,q],g⟩
   .simp only[e5]at hs;rw[hs]at h;exact h.elim
  .rename_i v _ hx
   obtain⟨r,w1,q,g⟩:=g2 h;exact .inl ⟨r,w1,by simp[execOp,j,ar.ev hx,q],g⟩
  .exact h.elim
 case h_14 t ps j=>
  split at h
  .exact mc ar (by rw[j];rfl) h
  .by_cases u:known e o.op.operands=true
   .rw[u]at h
    simp only[cond_true]at h;have hc:=jh ar (by rw[j];rfl) u;obtain⟨cs,q,g⟩:=h;exact .inl ⟨_,_,by rw[hc];simp[execOp,j];rw[q];rfl,g⟩
   .simp only[e5]at u;rw[u]at h;exact h.elim
 case h_15 T m i ok j=>
  split at h
  .rename_i O L F hi
   obtain⟨r,w1,q,g⟩:=g2 h;exact .inl ⟨r,w1,by simp[execOp,j,ar.ev F,ar.ev hi,q],g⟩
  .exact h.elim
 case h_16 T m i x j=>
  split at h
  .rename_i O L D F hi hx
   obtain⟨w1,q,g⟩:=h;exact .inr (.inl ⟨w1,by simp[execOp,j,ar.ev F,ar.ev hi,ar.ev hx,q],g⟩)
  .exact h.elim
 case h_17 T r j=>
  by_cases u:known e o.op.operands=true
  .rw[u]at h
   simp only[cond_true]at h;have hc:=jh ar (by rw[j];rfl) u;obtain⟨v,w1,q,g⟩:=g2 h;exact .inl ⟨v,w1,by rw[hc];simp[execOp,j,q],g⟩
  .simp only[e5]at u;rw[u]at h;exact h.elim
 case h_18 T x j=>
  split at h
  .rename_i D hx
   obtain⟨v,w1,q,g⟩:=h;exact .inl ⟨v,w1,by simp[execOp,j,ar.ev hx,q],g⟩
  .exact h.elim
 case h_19 it Y j=>
  split at h
  .rename_i D hx
   rcases h with h|⟨w1,q,g⟩
   .cases Y with
    |true=>
     obtain⟨n,c,w1,q,g⟩:=h;exact .inl ⟨_,w1,by simp[execOp,j,ar.ev hx,q],g⟩
    |false=>
     obtain⟨k,v,w1,q,g⟩:=h;exact .inl ⟨_,w1,by simp[execOp,j,ar.ev hx,q],g⟩
   .exact .inl ⟨_,w1,by simp[execOp,j,ar.ev hx,q],g⟩
  .exact h.elim
 case h_20 c j=>
  have E:∀ (b:Builtin) (r:aa) (w1:J),c.callee=.builtin b->known e o.op.operands=true->
   (∀cs,(Go.builtin b c.argTypes o.type cs (c.args.map (ro e))).run P w=.ok (.value r) w1)->K r w1->kD P o a w K:=by
   intro b r w1 z u q g;have hc:=jh ar (by rw[j];rfl) u;exact .inl ⟨r,w1,by rw[hc];simp[execOp,j,resolve,z,invoke,q],g⟩
  have C:∀ {X:Prop},(bif known e o.op.operands then X else False)->known e o.op.operands=true/\X:=by
   intro X M;by_cases u:known e o.op.operands=true
   .rw[u]at M;exact⟨u,M⟩
   .simp only[e5]at u;rw[u]at M;exact M.elim
  split at h
  .rename_i k z
   split at h
   .rename_i f pre cap hg
    obtain⟨u,Z,h⟩:=C h;have hc:=jh ar (by rw[j];rfl) u;refine .inr (.inr ⟨f,pre++c.args.map (ro e)++cap,w,?_,h.mono λag w1 h1=>?_⟩)
    .have Q:ro e (.tmp k)=.func (.func f) pre cap:=by simp[ro,ev,hg]
     rw[hc];simp[execOp,j,resolve,z,Q,Deferred.ofValue,invoke,xj Z]
    .obtain⟨v,B,g⟩:=g2 h1
     exact⟨v,B,g⟩
   .exact mc ar (by rw[j];rfl) h
  .rename_i z
   obtain⟨u,h⟩:=C h;obtain⟨r,w1,q,g⟩:=g2 h;exact E _ r w1 z u (λ_=>by simp[Go.builtin,q]) g
  .rename_i z
   obtain⟨u,h⟩:=C h;obtain⟨r,w1,q,g⟩:=g2 h;exact E _ r w1 z u (λ_=>by simp[Go.builtin,q]) g
  .rename_i z
   obtain⟨u,h⟩:=C h;obtain⟨r,w1,q,g⟩:=g2 h;exact E _ r w1 z u (λ_=>by simp[Go.builtin,q]) g
  .rename_i z
   obtain⟨u,h⟩:=C h;obtain⟨r,w1,q,g⟩:=g2 h;exact E _ r w1 z u (λ_=>by simp[Go.builtin,q]) g
  .rename_i z
   obtain⟨u,r,w1,q,g⟩:=C h;exact E _ r w1 z u (λ_=>by simp[Go.builtin,q]) g
  .rename_i f z
   split at h
   .rename_i fn ah
    split at h
    .exact mc ar (by rw[j];rfl) h
    .obtain⟨u,h⟩:=C h
     obtain⟨r,w1,q,g⟩:=g2 h;have hc:=jh ar (by rw[j];rfl) u;refine .inl ⟨r,w1,?_,g⟩;rw[hc];have Q:ro e (.func f)=.func (.func f) #[] #[]:=by simp[ro,ev]
     simp[execOp,j,resolve,z,Q,Deferred.ofValue,invoke,q]
   .exact h.elim
  .rename_i z
   obtain⟨u,h⟩:=C h;obtain⟨r,w1,q,g⟩:=g2 h;exact E _ r w1 z u (λ_=>by simp[Go.builtin,q]) g
  .rename_i z
   obtain⟨u,h⟩:=C h;obtain⟨r,w1,q,g⟩:=g2 h;exact E _ r w1 z u (λ_=>by simp[Go.builtin,q]) g
  .rename_i z
   obtain⟨u,r,w1,q,g⟩:=C h;exact E _ r w1 z u (λ_=>by simp[Go.builtin,q]) g
  .rename_i z
   split at h
   .obtain⟨u,h⟩:=C h
    obtain⟨r,w1,q,g⟩:=g2 h;exact E _ r w1 z u (λ_=>by simp[Go.builtin,q]) g
   .exact mc ar (by rw[j];rfl) h
  .exact mc ar (by rw[j];rfl) h
 case h_21 T x j=>
  split at h
  .rename_i D hx
   obtain⟨v,B,g⟩:=xa h;exact .inl ⟨v,w,by simp[execOp,j,ar.ev hx,B],g⟩
  .exact h.elim
 case h_22 T m i j=>
  split at h
  .rename_i O L F hi
   obtain⟨v0,st,w1,q,g⟩:=h;exact .inl ⟨_,w1,by simp[execOp,j,ar.ev F,ar.ev hi,q],g⟩
  .exact h.elim
 case h_23 T m s x j=>
  split at h
  .rename_i O vs D F hs hx
   obtain⟨w1,q,g⟩:=h;exact .inr (.inl ⟨w1,by simp[execOp,j,ar.ev F,ar.ev hs,ar.ev hx,q],g⟩)
  .exact h.elim
 case h_24 it j=>
  split at h
  .rename_i D hx
   obtain⟨v,w1,q,g⟩:=g2 h;exact .inl ⟨v,w1,by simp[execOp,j,ar.ev hx,q],g⟩
  .exact h.elim
 case h_25=>exact h.elim
 case h_26=>
  refine mc ar ?_ h
  cases j:o.op<;>first|rfl|simp_all
end
end aX
namespace aX
open Go
inductive jD where
 |run
 |split (n:Nat)
 |pure (n:Nat)
 |q0 (ks:O Kd)
def eE(P:Program)(o:Oper)(e:Env):an aa:=
 match o.op with
 | .move x=>ev e x
 | .assign x=>ev e x
 | .unOp .not _ x=>match ev e x with
  |some (.bool b)=>some (.bool (!b))
  |_=>none
 | .binOp op T x y _=>match ev e y with
  |some (.int f b)=>match ev e x with
   |some (.int k a)=>bif iP k f then
    match op with
    | .add=>some (.int k (k.wrap (a+b)))
    | .sub=>some (.int k (k.wrap (a-b)))
    | .mul=>some (.int k (k.wrap (a*b)))
    | .quo=>match b with
     | .ofNat (.succ m)=>some (.int k (k.wrap (a.tdiv (.ofNat (.succ m)))))
     |_=>none
    | .rem=>match b with
     | .ofNat (.succ m)=>some (.int k (a.tmod (.ofNat (.succ m))))
     |_=>none
    | .and=>some (.int k (k.wrap (BitVec.ofInt k.bits a&&&BitVec.ofInt k.bits b).toNat))
    | .or=>some (.int k (k.wrap (BitVec.ofInt k.bits a|||BitVec.ofInt k.bits b).toNat))
    | .xor=>some (.int k (k.wrap (BitVec.ofInt k.bits a^^^BitVec.ofInt k.bits b).toNat))
    | .eql=>some (.bool (a==b))
    | .neq=>some (.bool (a !=b))
    | .lss=>some (.bool (a<b))
    | .leq=>some (.bool (a<=b))
    | .gtr=>some (.bool (a>b))
    | .geq=>some (.bool (a>=b))
    |_=>none
    else none
   |_=>none
  |some (.bool b)=>match ev e x with
   |some (.bool a)=>match P.underlying T with
    |some .bool=>match op with
     | .eql=>some (.bool (a==b))
     | .neq=>some (.bool (!(a==b)))
     |_=>none
    |_=>none
   |_=>none
  |some (.string b)=>match ev e x with
   |some (.string a)=>match op with
    | .eql=>some (.bool (a.toList==b.toList))
    | .neq=>some (.bool (!(a.toList==b.toList)))
    |_=>none
   |_=>none
  |some (.pointer none)=>match ev e x with
   |some (.pointer p)=>bif kC (P.underlying T) then match op with
    | .eql=>some (.bool p.isNone)
    | .neq=>some (.bool (!p.isNone))
    |_=>none
    else none
   |_=>none
  |some (.slice none _ _)=>match ev e x with
   |some (.slice p _ _)=>bif lk (P.underlying T) then match op with
    | .eql=>some (.bool p.isNone)
    | .neq=>some (.bool (!p.isNone))
    |_=>none
    else none
   |_=>none
  |_=>none
 | .convert s d x=>match ev e x with
  |some (.int _ n)=>match P.underlying d with
   |some (.int k)=>bif (P.underlying s).isSome then some (.int k (k.wrap n)) else none
   |_=>none
  |_=>none
 | .call {callee:=.builtin .len,args:=args,argTypes:=fN}=>match args[0]?,fN[0]? with
  |some x,some T=>match ev e x,P.underlying T with
   |some (.slice _ n _),some (.slice _)=>some (.int .i64 n)
   |some (.string s),some .string=>some (.int .i64 s.size)
   |_,_=>none
  |_,_=>none
 | .call {callee:=.builtin .cap,args:=args,argTypes:=fN}=>match args[0]?,fN[0]? with
  |some x,some T=>match ev e x,P.underlying T with
   |some (.slice _ _ c),some (.slice _)=>some (.int .i64 c)
   |_,_=>none
  |_,_=>none
 |_=>none
def pc(ops:Array Oper)(e:Env)(j:Nat):an aa:=((ops[j]?).bind (·.dst)).bind e.get
def Bd(ops:Array Oper)(j:Nat):an Nat:=(ops[j]?).bind (·.dst)
def Gz(o:Oper)(e:Env)(K:ag->Prop):Prop:=
 match o.guard with
 |none=>match o.op with
  | .pick x y z=>match ev e x with
   |some (.bool b)=>match ev e (bif b then y else z) with
    |some (.bool r)=>K r
    |_=>False
   |_=>False
  |_=>False
 |some _=>False
def gh(ops:Array Oper)(o:Oper)(e:Env)(run skip:Prop):Prop:=
 match o.guard with
 |none=>run
 |some (j,want)=>match pc ops e j with
  |none=>False
  |some (.bool b)=>bif Bool.xor b want then skip else run
  |some _=>skip
def j5{α:Type}(ops:Array Oper)(o:Oper)(e:Env)(run skip:an α):an α:=
 match o.guard with
 |none=>run
 |some (j,want)=>match pc ops e j with
  |none=>none
  |some (.bool b)=>bif Bool.xor b want then skip else run
  |some _=>skip
def jE(o:Oper)(e:Env):an ag:=
 match o.op with
 | .pick x y z=>match ev e x with
  |some (.bool b)=>match ev e (bif b then y else z) with
   |some (.bool r)=>some r
   |_=>none
  |_=>none
 |_=>none
def pd(ops:Array Oper)(o:Oper)(e:Env):an (Nat×ag):=
 match o.guard with
 |none=>none
 |some (j,_)=>match Bd ops j with
  |none=>none
  |some s=>match e.get s with
   |some (.bool c)=>some (s,c)
   |_=>none
def kE(ops:Array Oper)(o:Oper)(e:Env):ag:=
 match o.guard with
 |none=>true
 |some (j,want)=>match pc ops e j with
  |some (.bool b)=> !(Bool.xor b want)
  |_=>false
def ln(e:Env)(ds:O Nat):ag:=e.all λp=> !(ds.any λd=>Nat.beq d p.1)
def bE(l:O Oper):O Nat:=l.filterMap (·.dst)
def hD(P:Program)(ops:Array Oper):Nat->O Oper->O jD->Env->an Env
 |0,_,_,_=>none
 |_+1,[],_,e=>some e
 |n+1,o::rest,.pure m::as,e=>
  match pd ops o e,rest.drop (m-1) with
  |none,_=>
   match j5 ops o e none (some undef) with
   |some v=>hD P ops n rest as (c0 o.dst v e)
   |none=>none
  |some (s,c),a::b=>
   match hD P ops n (o::rest.take (m-1)) (.run::as.take (m-1)) ((s,.bool true)::e),hD P ops n (o::rest.take (m-1)) (.run::as.take (m-1)) ((s,.bool false)::e) with
   |some d,some f=>
    match jE a d,jE a f with
    |some r1,some b4=>bif kE ops a e&&ln e (bE (o::rest.take (m-1))) then hD P ops n b (as.drop m) (c0 a.dst (.bool (cond c r1 b4)) e) else none
    |_,_=>none
   |_,_=>none
  |_,_=>none
 |n+1,o::rest,_::as,e=>
  match j5 ops o e (eE P o e) (some undef) with
  |some v=>hD P ops n rest as (c0 o.dst v e)
  |none=>none
 |n+1,o::rest,[],e=>
  match j5 ops o e (eE P o e) (some undef) with
  |some v=>hD P ops n rest [] (c0 o.dst v e)
  |none=>none
inductive bq {α:Type} (B:α->Prop) (k:α):Prop where
 |mk (h:B k)
theorem bq.out{α:Type}{B:α->Prop}{k:α}(h:bq B k):B k:=by cases h with|mk h=>exact h
def q1(P:Program)(ks:O Kd)(o:Oper)(K:aa->J->Prop)(e:Env)(w:J):Prop:=
 match o.op with
 | .entry it=>match ev e it with
  |some a=>qP ks λvs=>∃w1,(Instr.entry a).run P w=.ok (.tuple vs.toArray) w1/\K (.tuple vs.toArray) w1
  |_=>False
 |_=>False
theorem Be{P:Program}{ks:O Kd}{o:Oper}{K:aa->J->Prop}{e:Env}{w:J}{a:Act}(ar:c7 e a)(h:q1 P ks o K e w):kD P o a w K:=by
 unfold q1 at h;split at h
 .rename_i it b
  split at h
  .rename_i f hx
   obtain⟨v,w1,c,d⟩:=ug h;exact .inl ⟨_,w1,by simp[execOp,b,ar.ev hx,c],d⟩
  .exact h.elim
 .exact h.elim
def ff(P:Program)(tk:TypeId->dn)(ops:Array Oper):Nat->O Oper->O jD->(Env->J->Prop)->Env->J->Prop
 |0,_,_,_,_,_=>False
 |_+1,[],_,K,e,w=>K e w
 |n+1,o::rest,.q0 ks::as,K,e,w=>
  gh ops o e (q1 P ks o (λv w'=>ff P tk ops n rest as K (c0 o.dst v e) w') e w) (ff P tk ops n rest as K (c0 o.dst undef e) w)
 |n+1,o::rest,.pure m::as,K,e,w=>
  match pd ops o e,rest.drop (m-1) with
  |none,_=>gh ops o e False (ff P tk ops n rest as K (c0 o.dst undef e) w)
  |some (s,c),a::b=>
   match hD P ops n (o::rest.take (m-1)) (.run::as.take (m-1)) ((s,.bool true)::e),hD P ops n (o::rest.take (m-1)) (.run::as.take (m-1)) ((s,.bool false)::e) with
   |some f,some g=>
    match jE a f,jE a g with
    |some r1,some b4=>bif kE ops a e&&ln e (bE (o::rest.take (m-1))) then ff P tk ops n b (as.drop m) K (c0 a.dst (.bool (cond c r1 b4)) e) w else False
    |_,_=>False
   |_,_=>False
  |_,_=>False
 |n+1,o::rest,.split m::as,K,e,w=>
  match pd ops o e,rest.drop (m-1) with
  |none,_=>gh ops o e False (ff P tk ops n rest as K (c0 o.dst undef e) w)
  |some (s,c),a::b=>
   bif kE ops a e&&ln e (bE (o::rest.take (m-1))) then
    bq (λk:ag->J->Prop=>
     (c=true->ff P tk ops n (o::rest.take (m-1)) (.run::as.take (m-1)) (λd w'=>match jE a d with|some r=>k r w'|none=>False) ((s,.bool true)::e) w)/\
     (c=false->ff P tk ops n (o::rest.take (m-1)) (.run::as.take (m-1)) (λd w'=>match jE a d with|some r=>k r w'|none=>False) ((s,.bool false)::e) w))
     (λr w'=>ff P tk ops n b (as.drop m) K (c0 a.dst (.bool r) e) w')
   else False
  |_,_=>False
 |n+1,o::rest,_::as,K,e,w=>
  gh ops o e (iu P tk o (λv w'=>ff P tk ops n rest as K (c0 o.dst v e) w') e w) (ff P tk ops n rest as K (c0 o.dst undef e) w)
 |n+1,o::rest,[],K,e,w=>
  gh ops o e (iu P tk o (λv w'=>ff P tk ops n rest [] K (c0 o.dst v e) w') e w) (ff P tk ops n rest [] K (c0 o.dst undef e) w)
structure dA(ds:O Nat)(a b:Act):Prop where
 defers:b.defers=a.defers
 size:b.tmps.size=a.tmps.size
 same:∀s,s∉ds->b.tmps[s]? =a.tmps[s]?
theorem dA.refl(ds:O Nat)(a:Act):dA ds a a:=⟨rfl,rfl,λ_ _=>rfl⟩
theorem dA.trans{ds:O Nat}{a b c:Act}(h:dA ds a b)(k:dA ds b c):dA ds a c:=
 ⟨k.defers.trans h.defers,k.size.trans h.size,λs hs=>(k.same s hs).trans (h.same s hs)⟩
theorem dA.mono{ds es:O Nat}{a b:Act}(h:dA ds a b)(hs:∀s,s∈ds->s∈es):dA es a b:=
 ⟨h.defers,h.size,λs c=>h.same s λd=>c (hs s d)⟩
theorem dA.put{a:Act}{d:an Nat}{v:aa}{ds:O Nat}(hd:∀k,d=some k->k∈ds):dA ds a (a.put d v):=by
 cases d with
 |none=>exact .refl _ _
 |some d=>exact⟨rfl,by simp[Act.put],λs hs=>by
  have:d≠s:=λh=>hs (h▸hd d rfl);simp[Act.put,Array.getElem?_setIfInBounds_ne this]⟩
def fO(a:Act)(ds:O Nat)(K:Env->J->Prop)(x:Exit)(b:Act)(w':J):Prop:=
 x=.normal/\dA ds a b/\∃c,c7 c b/\K c w'
theorem hE{P:Program}{ops:Array Oper}{Q Q':Exit->Act->J->Prop}(b:∀x a w,Q x a w->Q' x a w):
 ∀ (l:O Oper) (a:Act) (w:J),wpList P ops Q l a w->wpList P ops Q' l a w
 | [],_,_,h=>b _ _ _ h
 |o::l,a,w,h=>by
  simp only[wpList]at h⊢
  split
  .rename_i d
   rw[if_pos d]at h
   refine h.imp (λh=>?_) (λ⟨h1,f,w',g⟩=>⟨h1,f,w',b _ _ _ g⟩)
   have:=Oper.wp_mono (Q:=Q) (λa w=>hE b l a w) h
   unfold Oper.wp at this⊢
   revert this
   generalize (execOp a.eval o).run P w=r
   intro this
   cases r with
   |ok aY w'=>
    cases aY<;>simp only[Oper.upon]at this⊢<;>first
     |exact this
     |(exact Calls.mono this λe i he=>by
        cases e with
        |returned v=>exact he
        |panicked c=>exact b _ _ _ he
        |outgrown=>exact let ⟨f,w',g⟩:=he;⟨f,w',b _ _ _ g⟩)
   |halt x w'=>cases x<;>simp only[Oper.upon]at this⊢<;>first|exact b _ _ _ this|exact this
  .rename_i d
   rw[if_neg d]at h
   exact hE b l _ _ h
theorem pe{P:Program}{ops:Array Oper}{Q:Exit->Act->J->Prop}(b:O Oper):
 ∀ (g:O Oper) (a:Act) (w:J),wpList P ops (λx a w=>x=.normal/\wpList P ops Q b a w) g a w->wpList P ops Q (g++b) a w
 | [],_,_,h=>h.2
 |o::l,a,w,h=>by
  simp only[oT,wpList]at h⊢
  split
  .rename_i d
   rw[if_pos d]at h
   rcases h with h|⟨_,i,w',f,_⟩
   .left
    have:=Oper.wp_mono (λa w=>pe b l a w) h
    unfold Oper.wp at this⊢
    revert this
    generalize (execOp a.eval o).run P w=r
    intro this
    cases r with
    |ok aY w'=>
     cases aY<;>simp only[Oper.upon]at this⊢<;>first
      |exact this
      |(exact Calls.mono this λe j he=>by
         cases e with
         |returned v=>exact he
         |panicked c=>cases he.1
         |outgrown=>exact let ⟨i,w',f⟩:=he;by cases f.1)
    |halt x w'=>cases x<;>simp only[Oper.upon]at this⊢<;>first|(cases this.1;done)|exact this
   .cases f
  .rename_i d
   rw[if_neg d]at h
   exact pe b l _ _ h
section
variable {P:Program}{tk:TypeId->dn}{ops:Array Oper}
def kF:aa->an ag
 | .bool b=>some b
 |_=>none
theorem pg{e:Env}{a:Act}(ar:c7 e a){j:Nat}{v:aa}(h:pc ops e j=some v):
 yielded ops a.tmps j=kF v:=by
 unfold pc at h;unfold yielded
 cases hd:(ops[j]?).bind (·.dst) with
 |none=>rw[hd]at h;simp at h
 |some s=>
  rw[hd]at h;simp only[Option.bind_some]at h⊢;rw[ar.get _ _ h]
  cases v<;>rfl
theorem ph{o:Oper}{e:Env}{a:Act}(ar:c7 e a){R S:Prop}(h:gh ops o e R S):
 (Region.wanted o (yielded ops a.tmps)=true/\R)\/(Region.wanted o (yielded ops a.tmps)=false/\S):=by
 unfold gh at h;unfold Region.wanted;split at h
 .rename_i hg;rw[hg];exact .inl ⟨rfl,h⟩
 .rename_i j want hg
  rw[hg];simp only;split at h
  .exact h.elim
  .rename_i b c
   rw[pg ar c]
   cases b<;>cases want<;>first|exact .inl ⟨rfl,h⟩|exact .inr ⟨rfl,h⟩
  .rename_i v d c
   rw[pg ar c]
   cases v<;>first|exact absurd rfl (d _)|exact .inr ⟨by cases want<;>rfl,h⟩
theorem xm{o:Oper}{e:Env}{R R' S:Prop}(h:gh ops o e R S)(a:R->R'):gh ops o e R' S:=by
 unfold gh at h⊢;split at h
 .exact a h
 .rename_i j want hg
  split at h
  .exact h
  .rename_i b d
   cases c:Bool.xor b want<;>rw[c]at h<;>first|exact a h|exact h
  .exact h
theorem Bf{α:Type}{o:Oper}{e:Env}{R S:an α}{r:α}(h:j5 ops o e none S=some r):j5 ops o e R S=some r:=by
 unfold j5 at h⊢;split at h
 .cases h
 .rename_i j want hg
  split at h
  .exact h
  .rename_i b c
   cases a:Bool.xor b want with
   |true=>rw[a]at h;exact h
   |false=>rw[a]at h;cases h
  .exact h
theorem Bg{α:Type}{o:Oper}{e:Env}{a:Act}(ar:c7 e a){R S:an α}{r:α}(h:j5 ops o e R S=some r):
 (Region.wanted o (yielded ops a.tmps)=true/\R=some r)\/(Region.wanted o (yielded ops a.tmps)=false/\S=some r):=by
 unfold j5 at h;unfold Region.wanted;split at h
 .rename_i hg;rw[hg];exact .inl ⟨rfl,h⟩
 .rename_i j want hg
  rw[hg];simp only;split at h
  .cases h
  .rename_i b c
   rw[pg ar c]
   cases b<;>cases want<;>first|exact .inl ⟨rfl,h⟩|exact .inr ⟨rfl,h⟩
  .rename_i v d c
   rw[pg ar c]
   cases v<;>first|exact absurd rfl (d _)|exact .inr ⟨by cases want<;>rfl,h⟩
theorem xn{o:Oper}{e:Env}{a:Act}(ar:c7 e a){v:aa}(h:eE P o e=some v)(w:J):(execOp a.eval o).run P w=.ok (.value v) w:=by
 unfold eE at h;split at h
 .rename_i x f
  simp[execOp,f,ar.ev h]
 .rename_i x f
  simp[execOp,f,ar.ev h]
 .rename_i t x f
  split at h
  .rename_i b hx
   cases h;simp[execOp,f,ar.ev hx,Op.unary]
  .cases h
 .rename_i op T x y D f
  split at h
  .rename_i u b i
   split at h
   .rename_i k c hx
    by_cases z:k=u
    .subst z
     simp only[iP,decide_true,cond_true]at h;split at h
     case h_4=>
      split at h
      .cases h
       simp[execOp,f,ar.ev hx,ar.ev i,eqGuard,binOp,Op.intDiv];intro r;exfalso;revert r;simp;omega
      .cases h
     case h_5=>
      split at h
      .cases h
       simp[execOp,f,ar.ev hx,ar.ev i,eqGuard,binOp,Op.intDiv];intro r;exfalso;revert r;simp;omega
      .cases h
     all_goals first
      |(cases h;simp[execOp,f,ar.ev hx,ar.ev i,eqGuard,binOp,Op.intArith,Op.intBits,Op.intCmp];done)
      |cases h
    .simp[iP,z]at h
   .cases h
  .rename_i b i
   split at h
   .rename_i c hx
    split at h
    .rename_i g
     have j:∀ (d:Nat) (w:J),(Op.equalIn (d+1) T (.bool c) (.bool b)).run P w=.ok (c==b) w:=by
      intro d w;simp[Op.equalIn,cP g]
     have A:∀w:J,(Op.equal T (.bool c) (.bool b)).run P w=.ok (c==b) w:=λw=>by rw[nB];exact j _ w
     split at h
     .cases h
      simp[execOp,f,ar.ev hx,ar.ev i,eqGuard,binOp,A]
     .cases h
      simp[execOp,f,ar.ev hx,ar.ev i,eqGuard,binOp,A]
     .cases h
    .cases h
   .cases h
  .rename_i b i
   split at h
   .rename_i c hx
    split at h
    .cases h
     have j:(binOp .eql T (.string c) (.string b)).run P w=.ok (.bool (c.toList==b.toList)) w:=rfl;simp only[execOp,f,ar.ev hx,ar.ev i];simp[eqGuard,j]
    .cases h
     have j:(binOp .neq T (.string c) (.string b)).run P w=.ok (.bool (!(c.toList==b.toList))) w:=rfl;simp only[execOp,f,ar.ev hx,ar.ev i];simp[eqGuard,j]
    .cases h
   .cases h
  .rename_i i
   split at h
   .rename_i p hx
    by_cases g:kC (P.underlying T)=true
    .rw[g]at h
     simp only[cond_true]at h;split at h
     .cases h;simp[execOp,f,ar.ev hx,ar.ev i,eqGuard,binOp,qS (P:=P) g]
     .cases h;simp[execOp,f,ar.ev hx,ar.ev i,eqGuard,binOp,qS (P:=P) g]
     .cases h
    .simp only[e5]at g;rw[g]at h;cases h
   .cases h
  .rename_i l c i
   split at h
   .rename_i p _ _ hx
    by_cases g:lk (P.underlying T)=true
    .rw[g]at h
     simp only[cond_true]at h;split at h
     .cases h;simp[execOp,f,ar.ev hx,ar.ev i,eqGuard,binOp,qT (P:=P) g]
     .cases h;simp[execOp,f,ar.ev hx,ar.ev i,eqGuard,binOp,qT (P:=P) g]
     .cases h
    .simp only[e5]at g;rw[g]at h;cases h
   .cases h
  .cases h
 .rename_i s d x f
  split at h
  .rename_i k n hx
   split at h
   .rename_i u hd
    by_cases hs:(P.underlying s).isSome=true
    .rw[hs]at h
     cases h;obtain⟨ds,B⟩:=jf _ hs;simp[execOp,f,ar.ev hx,convert,cP B,cP hd,Conv.intToInt]
    .simp only[e5]at hs;rw[hs]at h;cases h
   .cases h
  .cases h
 .rename_i args fN f
  split at h
  .rename_i x T m q
   split at h
   .rename_i p n c C hx g
    cases h;simp[execOp,f,resolve,invoke,Go.builtin,Builtin.len_,q,m,cP g,ar.ev hx,goInt]
   .rename_i s hx g
    cases h;simp[execOp,f,resolve,invoke,Go.builtin,Builtin.len_,q,m,cP g,ar.ev hx,goInt]
   .cases h
  .cases h
 .rename_i args fN f
  split at h
  .rename_i x T m q
   split at h
   .rename_i p n c C hx g
    cases h;simp[execOp,f,resolve,invoke,Go.builtin,Builtin.cap_,q,m,cP g,ar.ev hx,goInt]
   .cases h
  .cases h
 .cases h
theorem uw{e:Env}{ds:O Nat}{a b:Act}(ar:c7 e a)(hd:ln e ds=true)(d:dA ds a b):c7 e b:=by
 constructor;intro s v hs;have f:∃u,(s,u)∈e:=by
  clear hd ar
  induction e with
  |nil=>cases hs
  |cons p e g=>
   obtain⟨k,u⟩:=p;rw[l6]at hs;by_cases c:k=s
   .subst c;exact⟨u,by simp⟩
   .rw[if_neg c]at hs
    obtain⟨u,hu⟩:=g hs;exact⟨u,by simp[hu]⟩
 obtain⟨u,hu⟩:=f;have h1:=k7.1 hd _ hu;simp only[jY,nk]at h1;rw[d.same s λh=>h1 s h (Nat.beq_refl s)];exact ar.get s v hs
theorem ux{d:Oper}{e:Env}{a:Act}(ar:c7 e a){r:ag}(h:jE d e=some r)(w:J):
 (execOp a.eval d).run P w=.ok (.value (.bool r)) w:=by
 unfold jE at h;split at h
 .rename_i x y z f
  split at h
  .rename_i b g
   split at h
   .rename_i i c
    cases h;simp only[execOp,f,ar.ev g]
    cases b
    .simp only[cond_false]at c
     simp[asBool,ar.ev c]
    .simp only[cond_true]at c
     simp[asBool,ar.ev c]
   .cases h
  .cases h
 .cases h
theorem uy{c:Oper}{e:Env}{a:Act}(ar:c7 e a)(h:kE ops c e=true):Region.wanted c (yielded ops a.tmps)=true:=by
 unfold kE at h;unfold Region.wanted;split at h
 .rename_i hg;rw[hg]
 .rename_i j want hg
  rw[hg];simp only;split at h
  .rename_i b d
   rw[pg ar d]
   cases b<;>cases want<;>first|rfl|cases h
  .cases h
theorem uz{o:Oper}{e:Env}{s:Nat}{c:ag}(h:pd ops o e=some (s,c)):e.get s=some (.bool c):=by
 unfold pd at h;split at h
 .cases h
 .split at h
  .cases h
  .split at h
   .rename_i hs;cases h;exact hs
   .cases h
theorem c7.lit{e:Env}{a:Act}(ar:c7 e a){s:Nat}{v:aa}(h:e.get s=some v):c7 ((s,v)::e) a:=by
 constructor;intro t u ht;rw[l6]at ht;by_cases b:s=t
 .subst b
  rw[if_pos rfl]at ht
  cases ht;exact ar.get _ _ h
 .rw[if_neg b]at ht
  exact ar.get _ _ ht
theorem uA{α:Type}(o:α)(rest:O α)(m:Nat){a:α}{b:O α}(h:rest.drop m=a::b):
 o::rest=(o::rest.take m)++(a::b):=by
 rw[←h];simp
theorem Bh{b c:ag}{α:Type}{x y z:α}(h:(bif b&&c then x else y)=z)(a:y≠z):b=true/\c=true/\x=z:=by
 cases b<;>cases c<;>first|exact absurd h a|exact⟨rfl,rfl,h⟩
theorem xo:∀ (n:Nat) (l:O Oper) (as:O jD) (e j:Env) (a:Act) (w:J),c7 e a->(∀d∈bE l,d<a.tmps.size)->
 hD P ops n l as e=some j->wpList P ops (λx f w'=>x=.normal/\dA (bE l) a f/\c7 j f/\w'=w) l a w:=by
 intro n
 induction n with
 |zero=>intro l as e j a w _ _ h;cases h
 |succ n B=>
  intro l as e j a w ar g h;have one:∀ (o:Oper) (rest:O Oper) (E:O jD),(∀d∈bE (o::rest),d<a.tmps.size)->
   (match j5 ops o e (eE P o e) (some undef) with|some v=>hD P ops n rest E (c0 o.dst v e)|none=>none)=some j->
   wpList P ops (λx f w'=>x=.normal/\dA (bE (o::rest)) a f/\c7 j f/\w'=w) (o::rest) a w:=by
   intro o rest E g h;have K:∀k,o.dst=some k->k∈bE (o::rest):=λk b=>by simp[bE,b]
   have q:∀k,k∈bE rest->k∈bE (o::rest):=λk b=>by
    simp only[bE,oU];split
    .exact b
    .exact jb _ b
   split at h
   .rename_i v t
    have next:∀ (f:Act),f=a.put o.dst v->wpList P ops (λx f w'=>x=.normal/\dA (bE (o::rest)) a f/\c7 j f/\w'=w) rest f w:=by
     intro f T;subst T;have b:dA (bE (o::rest)) a (a.put o.dst v):=dA.put K;have:=B rest E (c0 o.dst v e) j (a.put o.dst v) w (ar.put λk b=>g k (K k b)) (λd hd=>by rw[b.size];exact g d (q d hd)) h;exact hE (λx f w' ⟨h1,F,U,V⟩=>⟨h1,b.trans (F.mono q),U,V⟩) _ _ _ this
    rcases Bg ar t with ⟨G,u⟩|⟨G,u⟩
    .simp only[wpList,G,if_true]
     left;unfold Oper.wp;rw[xn ar u w];exact next _ rfl
    .simp only[wpList,G,ft,if_false]
     cases u;exact next _ rfl
   .cases h
  cases l with
  |nil=>
   simp only[hD,Option.some.injEq]at h;subst h;exact⟨rfl,.refl _ _,ar,rfl⟩
  |cons o rest=>
   cases as with
   |nil=>exact one o rest [] g (by simpa only[hD] using h)
   |cons W as=>
    cases W with
    |run=>exact one o rest as g (by simpa only[hD] using h)
    |split m=>exact one o rest as g (by simpa only[hD] using h)
    |q0 ks=>exact one o rest as g (by simpa only[hD] using h)
    |pure m=>
     simp only[hD]at h;split at h
     .refine one o rest as g ?_
      cases t:j5 ops o e none (some undef) with
      |none=>rw[t]at h;cases h
      |some v=>rw[t]at h;rw[Bf t];exact h
     .rename_i s c i p hg hd
      split at h
      .rename_i L M h1 F
       split at h
       .rename_i r1 b4 X Y
        obtain⟨Z,aa,h⟩:=Bh h (by simp);rw[uA o rest (m-1) hd]at g⊢;have N:=uz hg;refine pe _ _ _ _ ?_;have H:∀k,k∈bE (o::rest.take (m-1))->k∈bE ((o::rest.take (m-1))++(i::p)):=λk b=>by
         simp only[bE,oV,cG];exact .inl b
        have C:∀k,k∈bE (i::p)->k∈bE ((o::rest.take (m-1))++(i::p)):=λk b=>by
         simp only[bE,oV,cG];exact .inr b
        have Q:∀k,i.dst=some k->k∈bE (i::p):=λk b=>by simp[bE,b]
        have q:∀k,k∈bE p->k∈bE (i::p):=λk b=>by
         simp only[bE,oU];split
         .exact b
         .exact jb _ b
        have fin:∀ (I:Env) (r:ag) (a1:Act),dA (bE (o::rest.take (m-1))) a a1->c7 I a1->jE i I=some r->r=cond c r1 b4->
         wpList P ops (λx f w'=>x=.normal/\dA (bE ((o::rest.take (m-1))++(i::p))) a f/\c7 j f/\w'=w) (i::p) a1 w:=by
         intro I r a1 D ab u ac;have R:=uw ar aa D;simp only[wpList,uy R Z,if_true];left;unfold Oper.wp;rw[ux ab u w];simp only[Oper.upon];have S:dA (bE (i::p)) a1 (a1.put i.dst (.bool r)):=dA.put Q;have:=B p (as.drop m) (c0 i.dst (.bool (cond c r1 b4)) e) j (a1.put i.dst (.bool r)) w
          (by rw[ac];exact R.put λk b=>by rw[D.size];exact g k (C k (Q k b)))
          (λd hd=>by rw[S.size,D.size];exact g d (C d (q d hd))) h
         refine hE (λx f w' ⟨av,y,z,A⟩=>⟨av,(D.mono H).trans ((S.mono C).trans (y.mono λk b=>C k (q k b))),z,A⟩) _ _ _ this
        cases c with
        |true=>
         have:=B _ _ _ L a w (ar.lit N) (λd hd=>g d (H d hd)) h1;exact hE (λx f w' ⟨av,y,z,A⟩=>⟨av,by subst A;exact fin L r1 f y z X rfl⟩) _ _ _ this
        |false=>
         have:=B _ _ _ M a w (ar.lit N) (λd hd=>g d (H d hd)) F;exact hE (λx f w' ⟨av,y,z,A⟩=>⟨av,by subst A;exact fin M b4 f y z Y rfl⟩) _ _ _ this
       .cases h
      .cases h
     .cases h
theorem xp:∀ (n:Nat) (l:O Oper) (as:O jD) (K:Env->J->Prop) (e:Env) (a:Act) (w:J),c7 e a->(∀d∈bE l,d<a.tmps.size)->
 ff P tk ops n l as K e w->wpList P ops (fO a (bE l) K) l a w:=by
 intro n
 induction n with
 |zero=>intro l as K e a w _ _ h;cases h
 |succ n E=>
  intro l as K e a w ar i h;have one:∀ (o:Oper) (rest:O Oper) (j:O jD),(∀d∈bE (o::rest),d<a.tmps.size)->
   gh ops o e (iu P tk o (λv w'=>ff P tk ops n rest j K (c0 o.dst v e) w') e w) (ff P tk ops n rest j K (c0 o.dst undef e) w)->
   wpList P ops (fO a (bE (o::rest)) K) (o::rest) a w:=by
   intro o rest j i h;have F:∀k,o.dst=some k->k∈bE (o::rest):=λk b=>by simp[bE,b]
   have p:∀k,k∈bE rest->k∈bE (o::rest):=λk b=>by
    simp only[bE,oU];split
    .exact b
    .exact jb _ b
   have next:∀ (v:aa) (w':J),ff P tk ops n rest j K (c0 o.dst v e) w'->wpList P ops (fO a (bE (o::rest)) K) rest (a.put o.dst v) w':=by
    intro v w' h;have b:dA (bE (o::rest)) a (a.put o.dst v):=dA.put F;have:=E rest j K (c0 o.dst v e) (a.put o.dst v) w' (ar.put λk b=>i k (F k b)) (λd hd=>by rw[b.size];exact i d (p d hd)) h;exact hE (λx z w' ⟨h1,A,N⟩=>⟨h1,b.trans (A.mono p),N⟩) _ _ _ this
   rcases ph ar h with ⟨B,q⟩|⟨B,q⟩
   .simp only[wpList,B,if_true]
    exact .inl ((qZ ar q).wp next)
   .simp only[wpList,B,ft,if_false]
    exact next _ _ q
  have W:∀ (o:Oper) (rest:O Oper) (ks:O Kd) (j:O jD),(∀d∈bE (o::rest),d<a.tmps.size)->
   gh ops o e (q1 P ks o (λv w'=>ff P tk ops n rest j K (c0 o.dst v e) w') e w) (ff P tk ops n rest j K (c0 o.dst undef e) w)->
   wpList P ops (fO a (bE (o::rest)) K) (o::rest) a w:=by
   intro o rest ks j i h;have F:∀k,o.dst=some k->k∈bE (o::rest):=λk b=>by simp[bE,b]
   have p:∀k,k∈bE rest->k∈bE (o::rest):=λk b=>by
    simp only[bE,oU];split
    .exact b
    .exact jb _ b
   have next:∀ (v:aa) (w':J),ff P tk ops n rest j K (c0 o.dst v e) w'->wpList P ops (fO a (bE (o::rest)) K) rest (a.put o.dst v) w':=by
    intro v w' h;have b:dA (bE (o::rest)) a (a.put o.dst v):=dA.put F;have:=E rest j K (c0 o.dst v e) (a.put o.dst v) w' (ar.put λk b=>i k (F k b)) (λd hd=>by rw[b.size];exact i d (p d hd)) h;exact hE (λx z w' ⟨h1,A,N⟩=>⟨h1,b.trans (A.mono p),N⟩) _ _ _ this
   rcases ph ar h with ⟨B,q⟩|⟨B,q⟩
   .simp only[wpList,B,if_true]
    exact .inl ((Be ar q).wp next)
   .simp only[wpList,B,ft,if_false]
    exact next _ _ q
  cases l with
  |nil=>exact⟨rfl,.refl _ _,e,ar,h⟩
  |cons o rest=>
   cases as with
   |nil=>exact one o rest [] i (by simpa only[ff] using h)
   |cons X as=>
    cases X with
    |run=>exact one o rest as i (by simpa only[ff] using h)
    |q0 ks=>exact W o rest ks as i (by simpa only[ff] using h)
    |split m=>
     simp only[ff]at h;split at h
     .exact one o rest as i (xm h False.elim)
     .rename_i s c f g hg hd
      obtain⟨Q,R,h⟩:kE ops f e=true/\ln e (bE (o::rest.take (m-1)))=true/\_:=by
       cases h1:kE ops f e<;>cases A:ln e (bE (o::rest.take (m-1)))<;>rw[h1,A]at h<;>first|exact h.elim|exact⟨rfl,rfl,h⟩
      rw[uA o rest (m-1) hd]at i⊢;have G:=uz hg;refine pe _ _ _ _ ?_;have C:∀k,k∈bE (o::rest.take (m-1))->k∈bE ((o::rest.take (m-1))++(f::g)):=λk b=>by
       simp only[bE,oV,cG];exact .inl b
      have t:∀k,k∈bE (f::g)->k∈bE ((o::rest.take (m-1))++(f::g)):=λk b=>by
       simp only[bE,oV,cG];exact .inr b
      have H:∀k,f.dst=some k->k∈bE (f::g):=λk b=>by simp[bE,b]
      have p:∀k,k∈bE g->k∈bE (f::g):=λk b=>by
       simp only[bE,oU];split
       .exact b
       .exact jb _ b
      have fin:∀ (x:Exit) (a1:Act) (w1:J),fO a (bE (o::rest.take (m-1)))
       (λY w'=>match jE f Y with|some r=>ff P tk ops n g (as.drop m) K (c0 f.dst (.bool r) e) w'|none=>False) x a1 w1->
       x=.normal/\wpList P ops (fO a (bE ((o::rest.take (m-1))++(f::g))) K) (f::g) a1 w1:=by
       rintro x a1 w1 ⟨hx,u,M,S,h⟩;refine⟨hx,?_⟩;have I:=uw ar R u;split at h
       .rename_i r q
        simp only[wpList,uy I Q,if_true];left;unfold Oper.wp;rw[ux S q w1];simp only[Oper.upon];have L:dA (bE (f::g)) a1 (a1.put f.dst (.bool r)):=dA.put H;have:=E g (as.drop m) K (c0 f.dst (.bool r) e) (a1.put f.dst (.bool r)) w1
         (I.put λk b=>by rw[u.size];exact i k (t k (H k b)))
         (λd hd=>by rw[L.size,u.size];exact i d (t d (p d hd))) h
        refine hE (λx z w' ⟨av,y,D⟩=>⟨av,(u.mono C).trans ((L.mono t).trans (y.mono λk b=>t k (p k b))),D⟩) _ _ _ this
       .exact h.elim
      have h:=h.out
      cases c with
      |true=>
       have:=E _ _ _ _ a w (ar.lit G) (λd hd=>i d (C d hd)) (h.1 rfl);exact hE fin _ _ _ this
      |false=>
       have:=E _ _ _ _ a w (ar.lit G) (λd hd=>i d (C d hd)) (h.2 rfl);exact hE fin _ _ _ this
     .exact h.elim
    |pure m=>
     simp only[ff]at h;split at h
     .exact one o rest as i (xm h False.elim)
     .rename_i s c f g hg hd
      split at h
      .rename_i U V h1 A
       split at h
       .rename_i r1 b4 Z ab
        obtain⟨Q,R,h⟩:kE ops f e=true/\ln e (bE (o::rest.take (m-1)))=true/\_:=by
         cases av:kE ops f e<;>cases y:ln e (bE (o::rest.take (m-1)))<;>rw[av,y]at h<;>first|exact h.elim|exact⟨rfl,rfl,h⟩
        rw[uA o rest (m-1) hd]at i⊢;have G:=uz hg;refine pe _ _ _ _ ?_;have C:∀k,k∈bE (o::rest.take (m-1))->k∈bE ((o::rest.take (m-1))++(f::g)):=λk b=>by
         simp only[bE,oV,cG];exact .inl b
        have t:∀k,k∈bE (f::g)->k∈bE ((o::rest.take (m-1))++(f::g)):=λk b=>by
         simp only[bE,oV,cG];exact .inr b
        have H:∀k,f.dst=some k->k∈bE (f::g):=λk b=>by simp[bE,b]
        have p:∀k,k∈bE g->k∈bE (f::g):=λk b=>by
         simp only[bE,oU];split
         .exact b
         .exact jb _ b
        have fin:∀ (M:Env) (r:ag) (a1:Act),dA (bE (o::rest.take (m-1))) a a1->c7 M a1->jE f M=some r->r=cond c r1 b4->
         wpList P ops (fO a (bE ((o::rest.take (m-1))++(f::g))) K) (f::g) a1 w:=by
         intro M r a1 u S q ac;have I:=uw ar R u;simp only[wpList,uy I Q,if_true];left;unfold Oper.wp;rw[ux S q w];simp only[Oper.upon];have L:dA (bE (f::g)) a1 (a1.put f.dst (.bool r)):=dA.put H;have:=E g (as.drop m) K (c0 f.dst (.bool (cond c r1 b4)) e) (a1.put f.dst (.bool r)) w
          (by rw[ac];exact I.put λk b=>by rw[u.size];exact i k (t k (H k b)))
          (λd hd=>by rw[L.size,u.size];exact i d (t d (p d hd))) h
         refine hE (λx z w' ⟨av,y,D⟩=>⟨av,(u.mono C).trans ((L.mono t).trans (y.mono λk b=>t k (p k b))),D⟩) _ _ _ this
        cases c with
        |true=>
         have:=xo n _ _ _ U a w (ar.lit G) (λd hd=>i d (C d hd)) h1;exact hE (λx z w' ⟨av,y,D,T⟩=>⟨av,by subst T;exact fin U r1 z y D Z rfl⟩) _ _ _ this
        |false=>
         have:=xo n _ _ _ V a w (ar.lit G) (λd hd=>i d (C d hd)) A;exact hE (λx z w' ⟨av,y,D,T⟩=>⟨av,by subst T;exact fin V b4 z y D ab rfl⟩) _ _ _ this
       .exact h.elim
      .exact h.elim
     .exact h.elim
end
end aX
namespace aX
open Go
structure ae(W:Nat->Prop)(w w':J):Prop where
 os:w'.os=w.os
 tape:w'.tape=w.tape
 output:w'.output=w.output
 size:w.heap.size<=w'.heap.size
 block:∀k,k<w.heap.size->¬W k->w'.heap[k]? =w.heap[k]?
theorem ae.refl(W:Nat->Prop)(w:J):ae W w w:=⟨rfl,rfl,rfl,br _,λ_ _ _=>rfl⟩
theorem ae.trans{W:Nat->Prop}{a b c:J}(h:ae W a b)(k:ae W b c):ae W a c:=
 ⟨k.os.trans h.os,k.tape.trans h.tape,k.output.trans h.output,eC h.size k.size,λi hi d=>(k.block i (fc hi h.size) d).trans (h.block i hi d)⟩
theorem ae.mono{W V:Nat->Prop}{a b:J}(h:ae W a b)(c:∀k,k<a.heap.size->W k->V k):ae V a b:=
 ⟨h.os,h.tape,h.output,h.size,λi hi d=>h.block i hi λcd=>d (c i hi cd)⟩
theorem ae.cell{W:Nat->Prop}{w w':J}(h:ae W w w'){A:ab}(cd:¬W A.block){v:aa}(a:w.cell? A=some v):w'.cell? A=some v:=by
 have b:A.block<w.heap.size:=by
  rcases dJ A.block w.heap.size with h1|h1
  .exact h1
  .simp[World.cell?,Array.getElem?_eq_none h1]at a
 unfold World.cell? at a⊢;rw[h.block _ b cd];exact a
theorem ae.cy{W:Nat->Prop}{w w':J}(h:ae W w w'){A:ab}(cd:¬W A.block):∀ (n i:Nat) (vs:O aa),cy w A i n=some vs->cy w' A i n=some vs
 |0,_,_,a=>a
 |n+1,i,vs,a=>by
  simp only[aX.cy]at a⊢
  have c:(A.add i).block=A.block:=by unfold Addr.add;split<;>rfl
  cases h1:w.cell? (A.add i) with
  |none=>simp[h1]at a
  |some v=>
   cases b:aX.cy w A (i+1) n with
   |none=>simp[h1,b]at a
   |some us=>
    simp only[h1,b]at a
    rw[h.cell (by rw[c];exact cd) h1,ae.cy h cd n (i+1) us b]
    exact a
def fg{α:Type}:Sem α->Prop
 | .pure _=>True
 | .program k=>∀p,fg (k p)
 | .halt _=>True
 |_=>False
theorem fg.bind{α β:Type}:∀ {s:Sem α}{f:α->Sem β},fg s->(∀a,fg (f a))->fg (s>>=f)
 | .pure a,_,_,hf=>hf a
 | .program _,_,h,hf=> λp=>fg.bind (h p) hf
 | .halt _,_,_,_=>trivial
 | .load ..,_,h,_=>h.elim
 | .store ..,_,h,_=>h.elim
 | .new ..,_,h,_=>h.elim
 | .shape ..,_,h,_=>h.elim
 | .freeze ..,_,h,_=>h.elim
 | .frozen ..,_,h,_=>h.elim
 | .getObj ..,_,h,_=>h.elim
 | .setObj ..,_,h,_=>h.elim
 | .choose ..,_,h,_=>h.elim
 | .sys ..,_,h,_=>h.elim
 | .mark ..,_,h,_=>h.elim
theorem fg.run{α:Type}{P:Program}:∀ {s:Sem α}{w w':J}{v:α},fg s->s.run P w=.ok v w'->∀u,s.run P u=.ok v u
 | .pure a,w,w',v,_,h,u=>by
  simp only[Sem.run,Result.ok.injEq]at h⊢
  exact⟨h.1,trivial⟩
 | .program k,w,w',v,hf,h,u=>fg.run (hf P) h u
 | .halt _,w,w',v,_,h,_=>by simp[Sem.run]at h
 | .load ..,_,_,_,h,_,_=>h.elim
 | .store ..,_,_,_,h,_,_=>h.elim
 | .new ..,_,_,_,h,_,_=>h.elim
 | .shape ..,_,_,_,h,_,_=>h.elim
 | .freeze ..,_,_,_,h,_,_=>h.elim
 | .frozen ..,_,_,_,h,_,_=>h.elim
 | .getObj ..,_,_,_,h,_,_=>h.elim
 | .setObj ..,_,_,_,h,_,_=>h.elim
 | .choose ..,_,_,_,h,_,_=>h.elim
 | .sys ..,_,_,_,h,_,_=>h.elim
 | .mark ..,_,_,_,h,_,_=>h.elim
theorem xq:fg program:=λ_=>trivial
theorem xr(t:TypeId):fg (underlying t):=by
 unfold underlying;refine fg.bind xq λp=>?_;split<;>trivial
theorem Bi(t:TypeId):fg (typeInfo t):=by
 unfold typeInfo;refine fg.bind xq λp=>?_;split<;>trivial
theorem Bj(t:TypeId):fg (Go.sizeOf t):=fg.bind (Bi t) λ_=>trivial
theorem Bk(t:TypeId):fg (isAgg t):=by
 unfold isAgg;refine fg.bind (xr t) λd=>?_;split<;>trivial
theorem Bl(t:TypeId)(cs:Array aa)(off:Nat):fg (part t cs off):=by
 unfold part;refine fg.bind (Bk t) λd=>?_;split
 .exact fg.bind (Bj t) λ_=>trivial
 .split<;>trivial
theorem Bm(t:TypeId)(x:aa)(i:Nat):fg (Instr.field t x i):=by
 unfold Instr.field;refine fg.bind (xr t) λd=>?_;split
 .split
  .refine fg.bind ?_ λ_=>Bl _ _ _
   unfold asAgg;split<;>trivial
  .trivial
 .trivial
def xt:Op->ag
 | .move _=>true
 | .assign _=>true
 | .pick _ _ _=>true
 | .field _ _ _=>true
 |_=>false
def pj(P:Program)(o:Oper)(K:aa->Prop)(e:Env)(w:J):Prop:=
 bif xt o.op&&known e o.op.operands then
  match (execOp (ro e) o).run P w with
  | .ok (.value v) _=>K v
  |_=>False
 else False
def nE(P:Program)(o:Oper)(K:aa->Prop)(e:Env):Prop:=
 match eE P o e with
 |some v=>K v
 |none=>False
def xu(P:Program)(T:TypeId)(x:aa)(i:Nat)(K:aa->Prop):Prop:=
 match P.underlying T with
 |some (.struct fs)=>match fs[i]? with
  |some f=>match x with
   | .pointer (some A)=>match P.underlying f.type with
    |some _=>bif Nat.beq (P.cellsOf f.type) 0 then False else K (.pointer (some (A.add f.offset)))
    |none=>False
   |_=>False
  |none=>False
 |_=>False
def xv(x:aa)(i:Nat)(K:aa->Prop):Prop:=
 match x with
 | .tuple vs=>match vs[i]? with
  |some v=>K v
  |none=>False
 |_=>False
def iv(o:Oper):ag:=
 match o.op with
 | .load _ _=>true
 | .convert _ _ _=>true
 |_=>false
def jF:Nat->O Oper->Nat
 |_,[]=>0
 |i,o::l=>bif iv o then 2^i|||jF (i+1) l else jF (i+1) l
def uB(P:Program)(tk:TypeId->dn)(W:Nat->Prop)(w:J)(o:Oper)(K:aa->Prop)(e:Env):Prop:=
 match o.op with
 | .nilCheck x=>match ev e x with
  |some (.pointer p)=>∃A,p=some A/\K (.pointer (some A))
  |_=>False
 | .load T x=>match ev e x with
  |some (.pointer (some A))=>¬W A.block/\nz P tk T A w K
  |_=>False
 | .binOp op T x y _=>match ev e x,ev e y with
  |some a,some c=>bif nD y c then qR P op T a c K (nE P o K e) else False
  |_,_=>False
 | .indexAddr T x i=>match ev e x,ev e i with
  |some a,some b=>qV P T a b K
  |_,_=>False
 | .index T x i=>match ev e x,ev e i with
  |some a,some b=>qW P tk T a b K
  |_,_=>False
 | .field T x i=>match ev e x with
  |some a=>qX P tk T a i K
  |_=>False
 | .fieldAddr T x i=>match ev e x with
  |some a=>xu P T a i K
  |_=>False
 | .extract x i=>match ev e x with
  |some a=>xv a i K
  |_=>False
 | .slice T x lo hi f=>bif known e o.op.operands then
  qY P T (ro e x) (lo.map (ro e)) (hi.map (ro e)) (f.map (ro e)) K
  else False
 | .convert s d x=>match ev e x with
  |some (.int _ _)=>nE P o K e
  |some v=>gP (tk o.type) λr=>(∀w',ae W w w'->(convert s d v).run P w'=.ok r w')/\K r
  |none=>False
 | .build t ps=>bif known e o.op.operands then
  ∃cs:Array aa,(∀w',(Instr.build t (ps.map λp=>(p.1,ro e p.2))).run P w'=.ok (.agg cs) w')/\K (.agg cs)
  else False
 | .unOp _ _ _=>nE P o K e
 | .call _=>nE P o K e
 | .move _=>pj P o K e w
 | .assign _=>pj P o K e w
 | .pick _ _ _=>pj P o K e w
 | .sliceToArrayPointer T x=>match ev e x with
  |some a=>qU P T a K
  |_=>False
 |_=>False
section
variable {P:Program}{tk:TypeId->dn}{W:Nat->Prop}{o:Oper}{K:aa->Prop}{e:Env}{a:Act}{w:J}
theorem uC(ar:c7 e a)(h:pj P o K e w):∃v,(∀w',(execOp a.eval o).run P w'=.ok (.value v) w')/\K v:=by
 unfold pj at h
 cases hf:xt o.op with
 |false=>rw[hf]at h;exact h.elim
 |true=>
  cases c:known e o.op.operands with
  |false=>rw[hf,c]at h;exact h.elim
  |true=>
   rw[hf,c]at h;simp only[Bool.and_self,cond_true]at h;have hc:=jh ar (by cases b:o.op<;>rw[b]at hf<;>first|rfl|cases hf) c;rw[hc];split at h
   .rename_i v w' d
    refine⟨v,λu=>fg.run ?_ d u,h⟩
    cases b:o.op<;>rw[b]at hf<;>first|(cases hf;done)|skip
    .simp only[execOp,b];trivial
    .simp only[execOp,b];trivial
    .simp only[execOp,b]
     refine fg.bind ?_ λ_=>trivial;unfold asBool;split<;>trivial
    .simp only[execOp,b]
     exact fg.bind (Bm _ _ _) λ_=>trivial
   .exact h.elim
theorem q2(ar:c7 e a)(h:nE P o K e):∃v,(∀w',(execOp a.eval o).run P w'=.ok (.value v) w')/\K v:=by
 unfold nE at h;split at h
 .rename_i v b
  exact⟨v,xn ar b,h⟩
 .exact h.elim
theorem Bn(ar:c7 e a)(h:uB P tk W w o K e):∃v,(∀w',(iv o=true->ae W w w')->(execOp a.eval o).run P w'=.ok (.value v) w')/\K v:=by
 have aU:(∃v,(∀w',(execOp a.eval o).run P w'=.ok (.value v) w')/\K v)->∃v,(∀w',(iv o=true->ae W w w')->(execOp a.eval o).run P w'=.ok (.value v) w')/\K v:=
  λ⟨v,h1,F⟩=>⟨v,λw' _=>h1 w',F⟩
 unfold uB at h;split at h
 case h_1 x b=>
  split at h
  .rename_i p hx
   obtain⟨A,rfl,g⟩:=h;exact⟨_,λw' _=>by simp[execOp,b,ar.ev hx],g⟩
  .exact h.elim
 case h_2 T x b=>
  split at h
  .rename_i A hx
   obtain⟨cd,h⟩:=h;have key:∃v,(∀w',ae W w w'->(Instr.loadAt T (.pointer (some A))).run P w'=.ok v w')/\K v:=by
    have z:∀w',(Instr.loadAt T (.pointer (some A))).run P w'=(loadVar T A).run P w':=λw'=>by simp[Instr.loadAt,Instr.sureAddr]
    unfold nz at h;split at h
    .exact h.elim
    .rename_i d m
     cases hd:gw d with
     |true=>
      rw[hd]at h;simp only[cond_true]at h;split at h
      .rename_i ls _
       by_cases n:Nat.beq (P.cellsOf T) ls.length=true
       .rw[n]at h
        simp only[cond_true]at h;obtain⟨vs,C,h⟩:=uu h;rw[←gZ n]at C;exact⟨_,λw' hc=>by rw[z,qQ m hd (hc.cy cd _ _ _ C)],h⟩
       .simp only[e5]at n;rw[n]at h;exact h.elim
      .obtain⟨cs,G,h⟩:=h
       exact⟨_,λw' hc=>by rw[z,qQ m hd (hc.cy cd _ _ _ G)],h⟩
     |false=>
      rw[hd]at h;simp only[cond_false]at h;split at h
      .obtain⟨v,j,h⟩:=nx h
       exact⟨v,λw' hc=>by rw[z,w4 m hd (hc.cell cd j)],h⟩
      .exact h.elim
   obtain⟨v,j,g⟩:=key;exact⟨v,λw' hc=>by simp[execOp,b,ar.ev hx,j w' (hc (by unfold iv;rw[b]))],g⟩
  .exact h.elim
 case h_3 op T x y M b=>
  split at h
  .rename_i l D hx H
   by_cases q:nD y D=true
   .rw[q]at h
    simp only[cond_true]at h;have I:D=.nilIface->∃c,y=.const c:=by
     intro j;subst j
     cases y<;>simp[nD]at q⊢
    rcases w_ (o9:=x) (nC:=y) I h with hg|⟨v,j,g⟩
    .exact aU (q2 ar hg)
    .exact⟨v,λw' _=>by
      simp only[execOp,b,ar.ev hx,ar.ev H];have E:=j w';simp only[Sem.run_bind]at E⊢;rw[E];rfl,g⟩
   .simp only[e5]at q;rw[q]at h;exact h.elim
  .exact h.elim
 case h_4 T x i b=>
  split at h
  .rename_i l J hx hi
   obtain⟨v,j,g⟩:=xb h;exact⟨v,λw' _=>by simp[execOp,b,ar.ev hx,ar.ev hi,j],g⟩
  .exact h.elim
 case h_5 T x i b=>
  split at h
  .rename_i l J hx hi
   obtain⟨v,j,g⟩:=xd h;exact⟨v,λw' _=>by simp[execOp,b,ar.ev hx,ar.ev hi,j],g⟩
  .exact h.elim
 case h_6 T x i b=>
  split at h
  .rename_i l hx
   obtain⟨v,j,g⟩:=xe h;exact⟨v,λw' _=>by simp[execOp,b,ar.ev hx,j],g⟩
  .exact h.elim
 case h_7 T x i b=>
  split at h
  .rename_i l hx
   unfold xu at h;split at h
   .rename_i fs m
    split at h
    .rename_i f hf
     split at h
     .rename_i A
      split at h
      .rename_i d hd
       cases u:Nat.beq (P.cellsOf f.type) 0 with
       |true=>rw[u]at h;exact h.elim
       |false=>
        rw[u]at h;have L:¬P.cellsOf f.type=0:=λh0=>by rw[h0]at u;cases u
        exact⟨_,λw' _=>by simp[execOp,b,ar.ev hx,Instr.fieldAt,cP m,hf,Instr.sureAddr,fieldPlace,gx hd,L],h⟩
      .exact h.elim
     .exact h.elim
    .exact h.elim
   .exact h.elim
  .exact h.elim
 case h_8 x i b=>
  split at h
  .rename_i l hx
   unfold xv at h;split at h
   .rename_i vs
    split at h
    .rename_i v j
     exact⟨v,λw' _=>by simp[execOp,b,ar.ev hx,Instr.extract,j],h⟩
    .exact h.elim
   .exact h.elim
  .exact h.elim
 case h_9 T x lo hi N b=>
  by_cases k:known e o.op.operands=true
  .rw[k]at h
   simp only[cond_true]at h;have hc:=jh ar (by rw[b];rfl) k;obtain⟨v,j,g⟩:=xf h;exact⟨v,λw' _=>by rw[hc];simp[execOp,b,j],g⟩
  .simp only[e5]at k;rw[k]at h;exact h.elim
 case h_10 s d x b=>
  split at h
  .exact aU (q2 ar h)
  .rename_i v _ hx
   obtain⟨r,B,g⟩:=g2 h;exact⟨r,λw' hc=>by simp[execOp,b,ar.ev hx,B w' (hc (by unfold iv;rw[b]))],g⟩
  .exact h.elim
 case h_11 t ps b=>
  by_cases k:known e o.op.operands=true
  .rw[k]at h
   simp only[cond_true]at h;have hc:=jh ar (by rw[b];rfl) k;obtain⟨cs,B,g⟩:=h;exact⟨_,λw' _=>by rw[hc];simp[execOp,b];rw[B];rfl,g⟩
  .simp only[e5]at k;rw[k]at h;exact h.elim
 case h_12=>exact aU (q2 ar h)
 case h_13=>exact aU (q2 ar h)
 case h_14=>exact aU (uC ar h)
 case h_15=>exact aU (uC ar h)
 case h_16=>exact aU (uC ar h)
 case h_17 T x b=>
  split at h
  .rename_i l hx
   obtain⟨v,j,g⟩:=xa h;exact⟨v,λw' _=>by simp[execOp,b,ar.ev hx,j],g⟩
  .exact h.elim
 case h_18=>exact h.elim
end
inductive aK where
 |take (i:Nat) (t:aK)
 |b2 (i:Nat) (t:aK)
 |out (i:Nat) (b:ag) (t:aK)
 |two (i:Nat) (t:aK) (j:Nat) (u:aK)
 |three (i:Nat) (t:aK) (j:Nat) (u:aK) (k:Nat) (v:aK)
 |sp (s:Nat) (t u:aK)
 |fin
 |tail (as:O jD)
def gQ:O Nat->Nat
 | []=>0
 |d::l=>2^d|||gQ l
theorem kG:∀ (l:O Nat) (k:Nat),(gQ l).testBit k=decide (k∈l)
 | [],k=>by simp[gQ]
 |d::l,k=>by
  simp only[gQ,k8,kG l k,oW]
  by_cases h:d=k
  .subst h;simp
  .have:¬k=d:=λa=>h a.symm
   simp[h,this]
def lp(o:Oper):O Nat:=(o.after.toList.filter λe=>Region.binds .any e).map (·.on)
structure ji where
 M:O Nat
 A:O Nat
def jj(l:O Nat)(i:Nat):Nat:=l.getD i 0
def jk(bL:ji)(m i:Nat):ag:= !(m.testBit i)&&Nat.beq (jj bL.M i&&&m) (jj bL.M i)
def xw(bL:ji)(N m i:Nat):ag:=Nat.beq (jj bL.A i&&&((2^N-1)^^^m)) 0
def jG(bL:ji)(m:Nat)(is:O Nat):Nat->ag
 |0=>true
 |k+1=>(is.any (Nat.beq k)|| !(jk bL m k))&&jG bL m is k
def pk(bL:ji):Nat->O Oper->ag
 |_,[]=>true
 |i,o::l=>Nat.beq (gQ (lp o)) (jj bL.M i)&&pk bL (i+1) l
def pn(M:O Nat)(a i b c:Nat):Nat->O Nat->O Nat->O Nat->ag
 |j,e::f,d::g,h::k=>(a.testBit j||(Nat.beq i j||(e.testBit i||(Nat.beq (b&&&(h|||d)) 0&&Nat.beq (d&&&c) 0))))&&pn M a i b c (j+1) f g k
 |_,_,_,_=>true
def q3(bL:ji)(D K:O Nat):Nat->O Nat->O Nat->ag
 |i,d::a,k::b=>pn bL.M (jj bL.A i) i d k 0 bL.M D K&&q3 bL D K (i+1) a b
 |_,_,_=>true
def xx(ops:O Oper):O Nat:=ops.map λo=>gQ o.dst.toList
def xy(a:Array Oper)(ops:O Oper):O Nat:=ops.map λo=>gQ (o.looksAt a)
def po:O Nat->O Nat->ag
 | [],[]=>true
 |a::l,b::r=>Nat.beq a b&&po l r
 |_,_=>false
theorem uD:∀ {l r:O Nat},po l r=true->l=r
 | [],[],_=>rfl
 |a::l,b::r,h=>by
  simp only[po,dO]at h
  rw[gZ h.1,uD h.2]
def j6(bL:ji)(D K:O Nat)(a:Array Oper):ag:=
 Nat.beq bL.M.length a.size&&(pk bL 0 a.toList&&(po (xx a.toList) D&&(po (xy a a.toList) K&&q3 bL D K 0 D K)))
def pq(bL:ji):Nat->Nat->Nat->Nat->ag
 |0,_,N,m=>jG bL m [] N
 |g+1,k,N,m=>(jk bL m k&&jG bL m [k] N)&&pq bL g (k+1) N (m|||2^k)
def dw(P:Program)(tk:TypeId->dn)(ops:Array Oper)(n:Nat)(bL:ji)(W:Nat->Prop):aK->Nat->Nat->(Env->J->Prop)->Env->J->Prop
 | .take i t,f+1,m,K,e,w=>
  bif jk bL m i&&(xw bL ops.size m i&&Nat.blt i n) then
   match ops[i]? with
   |some o=>gh ops o e (uB P tk W w o (λv=>dw P tk ops n bL W t f (m|||2^i) K (c0 o.dst v e) w) e) (dw P tk ops n bL W t f (m|||2^i) K (c0 o.dst undef e) w)
   |none=>False
  else False
 | .b2 i t,f+1,m,K,e,w=>
  bif (jk bL m i&&jG bL m [i] ops.size)&&Nat.blt i n then
   match ops[i]? with
   |some o=>gh ops o e (iu P tk o (λv w'=>ae W w w'/\dw P tk ops n bL W t f (m|||2^i) K (c0 o.dst v e) w') e w) (dw P tk ops n bL W t f (m|||2^i) K (c0 o.dst undef e) w)
   |none=>False
  else False
 | .out i b t,f+1,m,K,e,w=>
  bif (jk bL m i&&jG bL m [i] ops.size)&&(Nat.blt i n&&Nat.beq ((jF 0 ops.toList&&&m)&&&jj bL.M i) (jF 0 ops.toList&&&m)) then
   match ops[i]? with
   |some o=>gh ops o e (iu P tk o (λv w'=>bif b then ∃V:Nat->Prop,dw P tk ops n bL V t f (m|||2^i) K (c0 o.dst v e) w' else dw P tk ops n bL W t f (m|||2^i) K (c0 o.dst v e) w') e w) (dw P tk ops n bL W t f (m|||2^i) K (c0 o.dst undef e) w)
   |none=>False
  else False
 | .two i t j u,f+1,m,K,e,w=>
  bif (jk bL m i&&jG bL m [i,j] ops.size)&&(Nat.blt i n&&Nat.blt j n) then
   match ops[i]?,ops[j]? with
   |some o,some q=>
    gh ops o e (iu P tk o (λv w'=>ae W w w'/\dw P tk ops n bL W t f (m|||2^i) K (c0 o.dst v e) w') e w) (dw P tk ops n bL W t f (m|||2^i) K (c0 o.dst undef e) w)/\
    gh ops q e (iu P tk q (λv w'=>ae W w w'/\dw P tk ops n bL W u f (m|||2^j) K (c0 q.dst v e) w') e w) (dw P tk ops n bL W u f (m|||2^j) K (c0 q.dst undef e) w)
   |_,_=>False
  else False
 | .three i t j u k x,f+1,m,K,e,w=>
  bif (jk bL m i&&jG bL m [i,j,k] ops.size)&&(Nat.blt i n&&(Nat.blt j n&&Nat.blt k n)) then
   match ops[i]?,ops[j]?,ops[k]? with
   |some o,some q,some r=>
    gh ops o e (iu P tk o (λv w'=>ae W w w'/\dw P tk ops n bL W t f (m|||2^i) K (c0 o.dst v e) w') e w) (dw P tk ops n bL W t f (m|||2^i) K (c0 o.dst undef e) w)/\
    gh ops q e (iu P tk q (λv w'=>ae W w w'/\dw P tk ops n bL W u f (m|||2^j) K (c0 q.dst v e) w') e w) (dw P tk ops n bL W u f (m|||2^j) K (c0 q.dst undef e) w)/\
    gh ops r e (iu P tk r (λv w'=>ae W w w'/\dw P tk ops n bL W x f (m|||2^k) K (c0 r.dst v e) w') e w) (dw P tk ops n bL W x f (m|||2^k) K (c0 r.dst undef e) w)
   |_,_,_=>False
  else False
 | .sp s t u,f,m,K,e,w=>
  match e.get s with
  |some (.bool c)=>(c=true->dw P tk ops n bL W t f m K ((s,.bool true)::e) w)/\(c=false->dw P tk ops n bL W u f m K ((s,.bool false)::e) w)
  |_=>False
 | .fin,0,m,K,e,w=>bif jG bL m [] ops.size&&Nat.beq n ops.size then K e w else False
 | .tail as,0,m,K,e,w=>bif pq bL (ops.size-n) n ops.size m&&Nat.blt n ops.size then ff P tk ops (ops.size-n+1) (ops.toList.drop n) as K e w else False
 |_,_,_,_,_,_=>False
def d_(N m:Nat):Array ag:=(Array.range N).map λi=>m.testBit i
theorem nF{N m i:Nat}{d:ag}(h:i<N):(d_ N m).getD i d=m.testBit i:=by
 simp[d_,h]
theorem Bo{N m i:Nat}{d:ag}(h:N<=i):(d_ N m).getD i d=d:=by
 simp[d_,h]
theorem q4(N m i:Nat):(d_ N m).setIfInBounds i true=d_ N (m|||2^i):=by
 apply Array.ext
 .simp[d_]
 .intro j h1 b
  have c:j<N:=by simpa[d_] using b
  have d:j<(d_ N m).size:=by simpa[d_] using c
  rw[Array.getElem_setIfInBounds d];simp only[d_,Array.getElem_map,Array.getElem_range,k8,oW];by_cases a:i=j
  .subst a;simp
  .simp[a]
theorem xz(N:Nat):d_ N 0=Array.replicate N false:=by
 apply Array.ext
 .simp[d_]
 .intro j h1 a
  simp[d_]
section
variable {ops:Array Oper}{bL:ji}{D K:O Nat}
theorem xA:∀ (l:O Oper) (i k:Nat) (o:Oper),pk bL i l=true->l[k]? =some o->jj bL.M (i+k)=gQ (lp o)
 | [],_,_,_,_,h=>by simp at h
 |p::l,i,0,o,hc,h=>by
  simp only[pk,dO]at hc
  simp only[l1,Option.some.injEq]at h
  subst h
  exact(gZ hc.1).symm
 |p::l,i,k+1,o,hc,h=>by
  simp only[pk,dO]at hc
  have:=xA l (i+1) k o hc.2 (by simpa using h)
  rw[show i+(k+1)=i+1+k from I]
  exact this
theorem q5(h:j6 bL D K ops=true){i:Nat}{o:Oper}(a:ops[i]? =some o):jj bL.M i=gQ (lp o):=by
 simp only[j6,dO]at h;have:=xA ops.toList 0 i o h.2.1 (by simpa using a);simpa using this
theorem xB{a b:Nat}(h:a&&&b=a){k:Nat}(c:a.testBit k=true):b.testBit k=true:=by
 have:=congrArg (λx=>x.testBit k) h;simp only[Nat.testBit_and,c,ij]at this;exact this
theorem xC:∀ (l:O Oper) (i k:Nat) (o:Oper),l[k]? =some o->(jF i l).testBit (i+k)=iv o
 | [],_,_,_,h=>by simp at h
 |p::l,i,0,o,h=>by
  simp only[l1,Option.some.injEq]at h
  subst h
  have low:∀ (l:O Oper) (i k:Nat),k<i->(jF i l).testBit k=false:=by
   intro l
   induction l with
   |nil=>intro i k _;simp[jF]
   |cons q l a=>
    intro i k b;simp only[jF]
    cases iv q
    .exact a (i+1) k I
    .simp only[cond_true,k8,oW,a (i+1) k I,Bool.or_false,jZ]
     omega
  simp only[jF,l0]
  cases iv p
  .exact low l (i+1) i I
  .simp[k8]
 |p::l,i,k+1,o,h=>by
  have:=xC l (i+1) k o (by simpa using h);rw[show i+1+k=i+(k+1) from I]at this;simp only[jF]
  cases iv p
  .exact this
  .simp only[cond_true,k8,oW,this]
   simp
theorem q6{o:Oper}{k:Nat}:k∈lp o↔∃e∈o.after,Region.binds .any e=true/\e.on=k:=by
 simp only[lp,dZ,g0,Array.mem_toList_iff];constructor
 .rintro⟨e,⟨h1,a⟩,b⟩;exact⟨e,h1,a,b⟩
 .rintro⟨e,h1,a,b⟩;exact⟨e,⟨h1,a⟩,b⟩
def Small(N m:Nat):Prop:=∀k,N<=k->m.testBit k=false
theorem Bp(N:Nat):Small N 0:=λk _=>by simp
theorem q7{N m i:Nat}(h:Small N m)(hi:i<N):Small N (m|||2^i):=λk a=>by
 simp only[k8,h k a,oW,j0,jZ]
 omega
theorem q8(hc:j6 bL D K ops=true){m i:Nat}(g:Small ops.size m):i∈Region.ready .any ops (d_ ops.size m)↔i<ops.size/\jk bL m i=true:=by
 rw[mem_ready];constructor
 .rintro⟨h1,o,b,j⟩
  have hi:i<ops.size:=(kq.1 b).1;refine⟨hi,?_⟩;rw[nF hi]at h1;simp only[jk,h1,Bool.not_false,ij];rw[q5 hc b];have:gQ (lp o)&&&m=gQ (lp o):=by
   apply Nat.eq_of_testBit_eq;intro k;simp only[Nat.testBit_and,kG];by_cases c:k∈lp o
   .obtain⟨e,he,d,l⟩:=q6.1 c
    have a:=j e he d;rw[l]at a;rcases dJ k ops.size with aJ|n
    .rw[nF aJ]at a;simp[c,a]
    .rw[Bo n]at a;cases a
   .simp[c]
  rw[this];exact Nat.beq_refl _
 .rintro⟨hi,h⟩
  simp only[jk,dO,jY]at h;have b:ops[i]? =some ops[i]:=by simp[hi]
  refine⟨by rw[nF hi];exact h.1,ops[i],b,λe he d=>?_⟩;have a:=gZ h.2;rw[q5 hc b]at a;have f:m.testBit e.on=true:=xB a (by
   rw[kG];simp only[cO];exact q6.2 ⟨e,he,d,rfl⟩)
  have aJ:e.on<ops.size:=by
   rcases dJ e.on ops.size with h|h
   .exact h
   .rw[g _ h]at f;cases f
  rw[nF aJ];exact f
theorem xD:∀ (N:Nat) {m:Nat}{is:O Nat},jG bL m is N=true->∀k,k<N->jk bL m k=true->k∈is
 |0,_,_,_,k,c,_=>by omega
 |N+1,m,is,h,k,c,b=>by
  simp only[jG,dO,hW,jY]at h
  rcases dJ k N with h1|h1
  .exact xD N h.2 k h1 b
  .have:k=N:=by omega
   subst this
   rcases h.1 with a|a
   .obtain⟨x,hx,d⟩:=List.any_eq_true.1 a
    rw[gZ d];exact hx
   .rw[b]at a;cases a
theorem me(hc:j6 bL D K ops=true){m:Nat}{is:O Nat}(a:Small ops.size m)(h:jG bL m is ops.size=true):
 ∀k∈Region.ready .any ops (d_ ops.size m),k∈is:=λk b=>
 let ⟨h1,c⟩:=(q8 hc a).1 b
 xD _ h k h1 c
theorem xE:∀ (b c d:O Nat) (n:O Nat) (e i f g j k:Nat) (l a m:Nat),pn n e i f g j b c d=true->b[k]? =some l->c[k]? =some a->d[k]? =some m->
 e.testBit (j+k)=true\/i=j+k\/l.testBit i=true\/(f&&&(m|||a)=0/\a&&&g=0)
 | [],_,_,_,_,_,_,_,_,_,_,_,_,_,h,_,_=>by simp at h
 |_::_,[],_,_,_,_,_,_,_,_,_,_,_,_,_,h,_=>by simp at h
 |_::_,_::_,[],_,_,_,_,_,_,_,_,_,_,_,_,_,h=>by simp at h
 |q::b,r::c,s::d,n,e,i,f,g,j,k,l,a,m,hc,h1,o,p=>by
  simp only[pn,dO,hW]at hc
  cases k with
  |zero=>
   simp only[l1,Option.some.injEq]at h1 o p
   subst h1 o p
   rcases hc.1 with h|h|h|h
   .exact .inl h
   .exact .inr (.inl (gZ h))
   .exact .inr (.inr (.inl h))
   .exact .inr (.inr (.inr ⟨gZ h.1,gZ h.2⟩))
  |succ k=>
   have:=xE b c d n e i f g (j+1) k l a m hc.2 (by simpa using h1) (by simpa using o) (by simpa using p)
   rw[show j+(k+1)=j+1+k from I]
   exact this
theorem xF:∀ (a b:O Nat) (i k:Nat) (c e:Nat),q3 bL D K i a b=true->a[k]? =some c->b[k]? =some e->
 pn bL.M (jj bL.A (i+k)) (i+k) c e 0 bL.M D K=true
 | [],_,_,_,_,_,_,h,_=>by simp at h
 |_::_,[],_,_,_,_,_,_,h=>by simp at h
 |d::a,g::b,i,k,c,e,hc,h1,f=>by
  simp only[q3,dO]at hc
  cases k with
  |zero=>
   simp only[l1,Option.some.injEq]at h1 f
   subst h1 f
   exact hc.1
  |succ k=>
   have:=xF a b (i+1) k c e hc.2 (by simpa using h1) (by simpa using f)
   rw[show i+(k+1)=i+1+k from I]
   exact this
theorem uE{a b:Nat}(h:a&&&b=0){k:Nat}(c:a.testBit k=true):b.testBit k=false:=by
 have:=congrArg (λx=>x.testBit k) h;simp only[Nat.testBit_and,c,ij,Nat.zero_testBit]at this;exact this
theorem Bq{x y:Oper}(h1:gQ x.dst.toList&&&(gQ (y.looksAt ops)|||gQ y.dst.toList)=0)(b:gQ y.dst.toList&&&gQ (x.looksAt ops)=0):
 x.apart ops y=true:=by
 unfold Oper.apart;simp only[dO];refine⟨?_,?_⟩
 .cases hx:x.dst with
  |none=>rfl
  |some d=>
   rw[hx]at h1;have a:=uE h1 (k:=d) (by rw[kG];simp);simp only[k8,kG,nm,jZ]at a;simp only[dO,jY,bne_iff_ne,ne_eq];refine⟨by simpa using a.1,λh=>?_⟩;rw[h]at a;simp at a
 .cases c:y.dst with
  |none=>rfl
  |some d=>
   rw[c]at b;have a:=uE b (k:=d) (by rw[kG];simp);simp only[kG,jZ]at a;simpa using a
theorem Br(hc:j6 bL D K ops=true){m i:Nat}{d:Oper}(hi:ops[i]? =some d)(h:xw bL ops.size m i=true):
 ∀j a,ops[j]? =some a->j≠i->(d_ ops.size m).getD j true=false->(∀e∈a.after,Region.binds .any e=true->e.on≠i)->d.apart ops a=true:=by
 intro j a b p f q;have r:=hc;simp only[j6,dO]at hc;obtain⟨hlen,C,s,t,ar⟩:=hc;have E:=gZ hlen;have u:=uD s;have v:=uD t;have g:j<ops.size:=(kq.1 b).1;have l:∀ {k:Nat}{o:Oper},ops[k]? =some o->D[k]? =some (gQ o.dst.toList):=λ{k o} c=>by
  rw[←u];simp[xx,c]
 have n:∀ {k:Nat}{o:Oper},ops[k]? =some o->K[k]? =some (gQ (o.looksAt ops)):=λ{k o} c=>by
  rw[←v];simp[xy,c]
 have w:=xF D K 0 i _ _ ar (l hi) (n hi);have x:bL.M[j]? =some (jj bL.M j):=by
  unfold jj;have:j<bL.M.length:=by omega
  simp[List.getD,this]
 have:=xE bL.M D K bL.M _ _ _ _ 0 j _ _ _ w x (l b) (n b);simp only[cH]at this;rcases this with h1|h1|h1|h1
 .exfalso
  have y:=gZ h;have z:=uE y h1;rw[nF g]at f;simp[Nat.testBit_xor,Nat.testBit_two_pow_sub_one,g,f]at z
 .exact absurd h1.symm p
 .exfalso
  rw[q5 r b,kG]at h1;simp only[cO]at h1;obtain⟨e,he,A,B⟩:=q6.1 h1;exact q e he A B
 .exact Bq h1.1 h1.2
end
def mf(ops:Array Oper)(b:Array ag)(j:Nat):Prop:=
 ∀k ok a,ops[k]? =some ok->ops[j]? =some a->iv ok=true->b.getD k false=true->∃e∈a.after,Region.binds .any e=true/\e.on=k
def j7(P:Program)(ops:Array Oper)(Q:Exit->Act->J->Prop)(n:Nat)(L:Array ag->Act->J->Prop):Nat->(J->Prop)->Array ag->Act->J->Prop
 |0,_,b,a,w=>L b a w
 |f+1,S,b,a,w=>Region.ready .any ops b≠ []/\
  ∀i∈Region.ready .any ops b,i<n/\wpOp P ops Q i (λc w'=>∃aM:J->Prop,((∀x,aM x->S x)\/mf ops b i)/\aM w'/\j7 P ops Q n L f aM (b.setIfInBounds i true) c w') a w
def pr(ops:Array Oper)(n:Nat):Prop:=
 ∀a,HeadInv .any ops n a->∀i,i<n->a.getD i true=false->∀t,n<=t->t∉Region.ready .any ops a
theorem Bs(ops:Array Oper):pr ops ops.size:=by
 intro c _ i _ _ t ht a;obtain⟨_,o,b,_⟩:=mem_ready.1 a;have:=(kq.1 b).1;omega
theorem Bt{ops:Array Oper}{n:Nat}(hs:Region.sinkB .any ops n=true)(hc:Region.chainB .any ops n=true)(a:n<ops.size):pr ops n:=
 λ_ inv i hi b t ht=>tail_waits hs hc a inv _ i rfl hi b t ht
section
variable {P:Program}{ops:Array Oper}{Q:Exit->Act->J->Prop}{n:Nat}{L:Array ag->Act->J->Prop}
theorem YieldsIf.mono{S aM:J->Prop}{o:Oper}{v:aa}{a:Act}(h:YieldsIf P ops S o v a)(hs:∀x,aM x->S x):YieldsIf P ops aM o v a:=
 h.imp (λ⟨h1,b⟩=>⟨h1,λw c=>b w (hs w c)⟩) id
theorem Bu(E:pr ops n){i:Nat}{l:Oper}{v:aa}(hi:ops[i]? =some l)(F:∀ (j:Nat) (o:Oper) cs b,ops[j]? =some o->o.op≠ .select cs b)
 (ac:∀c a w,Q (.panic c) (a.put l.dst v) w->Q (.panic c) a w) (G:i<n) (ad:∀d a w,L d a w->∀j∈Region.ready .any ops d,n<=j):
 ∀ (f:Nat) (S T:J->Prop) (d:Array ag) (a:Act) (w:J),(∀x,S x->T x)->(iv l=true\/∀x,T x)->HeadInv .any ops n d->
  (∀j q,ops[j]? =some q->j≠i->d.getD j true=false->(∀e∈q.after,Region.binds .any e=true->e.on≠i)->l.apart ops q=true)->
  i∈Region.ready .any ops d->YieldsIf P ops T l v a->S w->
  j7 P ops Q n L f S (d.setIfInBounds i true) (a.put l.dst v) w->j7 P ops Q n L (f+1) S d a w:=by
 intro f
 induction f with
 |zero=>
  intro S T d a w u I inv _ m y s H;have g:=(mem_ready.1 m).1;refine⟨λh=>(by rw[h]at m;cases m),λj r=>?_⟩;have t:j<n:=by
   rcases dJ j n with h|h
   .exact h
   .exact absurd r (E d inv i G g j h)
  refine⟨t,?_⟩;by_cases p:j=i
  .subst p;exact(YieldsIf.mono y u).wpOp hi s ⟨S,.inl λ_ h=>h,s,H⟩
  .have:=ad _ _ _ H j (ready_mono r p)
   omega
 |succ f K=>
  intro S T d a w u I inv M m y s H;have g:=(mem_ready.1 m).1;refine⟨λh=>(by rw[h]at m;cases m),λj r=>?_⟩;have t:j<n:=by
   rcases dJ j n with h|h
   .exact h
   .exact absurd r (E d inv i G g j h)
  refine⟨t,?_⟩;by_cases p:j=i
  .subst p;exact(YieldsIf.mono y u).wpOp hi s ⟨S,.inl λ_ h=>h,s,H⟩
  .have h1:=(H.2 j (ready_mono r p)).2
   obtain⟨N,q,z,ae⟩:=mem_ready.1 r;have O:∀e∈q.after,Region.binds .any e=true->e.on≠i:=λe he B af=>by
    have h1:=ae e he B;rw[af,getD_both g]at h1
    cases h1
   have ah:=wpOp_putIf z (M j q z p N O) (λcs b=>F i l cs b hi) (λcs b=>F j q cs b z) ac y h1;have R:∀k ok,ops[k]? =some ok->k≠i->(d.setIfInBounds j true).getD k true=false->
    (∀e∈ok.after,Region.binds .any e=true->e.on≠i)->l.apart ops ok=true:=λk ok C ai g aj=>by
    refine M k ok C ai ?_ aj;by_cases U:j=k
    .subst U;exact N
    .rw[getD_set_ne true U]at g;exact g
   refine wpOp_mono (λV w' ak=>?_) ah;obtain⟨W,aM,X,A,al⟩:=ak;have D:=al;rw[←Array.setIfInBounds_comm _ _ p]at D;have am:mf ops (d.setIfInBounds i true) j->mf ops d j:=λan k ok ao C ap hs hl=>an k ok ao C ap hs (by
    by_cases Y:i=k
    .subst Y
     have:d.getD i true=true:=by
      simp only[Array.getD]at hl⊢;split at hl
      .rename_i aJ;simp[aJ]at hl⊢;exact hl
      .cases hl
     rw[this]at g;cases g
    .simp only[Array.getD,Array.size_setIfInBounds]at hl⊢
     split at hl
     .rename_i aJ
      simp only[aJ,dif_pos];simp only[Array.getInternal_eq_getElem]at hl⊢;rw[Array.getElem_setIfInBounds_ne _ Y];exact hl
     .cases hl)
   rcases I with hs|Z
   .have ab:∀x,aM x->S x:=by
     rcases X with h|h
     .exact h
     .exfalso
      obtain⟨e,he,B,aq⟩:=h i l q hi z hs (by
       have aJ:i<d.size:=by
        rcases dJ i d.size with h|h
        .exact h
        .simp[Array.getD,Nat.not_lt.2 h]at g
       simp[Array.getD,aJ])
      exact O e he B aq
    exact⟨aM,.inl ab,A,K aM T (d.setIfInBounds j true) V w' (λx hx=>u x (ab x hx)) (.inl hs) (inv.set r t) R (ready_mono m (Ne.symm p)) W A D⟩
   .exact⟨aM,X.imp id am,A,K aM T (d.setIfInBounds j true) V w' (λx _=>Z x) (.inr Z) (inv.set r t) R (ready_mono m (Ne.symm p)) W A D⟩
theorem xG{g:Nat}(c:∀b a w,L b a w->wpAny P .any ops Q g b a w):
 ∀ (f:Nat) (S:J->Prop) (b:Array ag) (a:Act) (w:J),j7 P ops Q n L f S b a w->wpAny P .any ops Q (f+g) b a w
 |0,_,b,a,w,h=>by rw[cH];exact c _ _ _ h
 |f+1,S,b,a,w,h=>by
  rw[show f+1+g=(f+g)+1 from I]
  exact⟨λh0=>absurd h0 h.1,λi hi=>wpOp_mono (λd w' ⟨aM,_,_,e⟩=>xG c f aM _ d w' e) (h.2 i hi).2⟩
def LE(P:Program)(ops:Array Oper)(Q:Exit->Act->J->Prop)(n:Nat)(b:Array ag)(a:Act)(w:J):Prop:=
 (Region.ready .any ops b=[]/\n=ops.size/\Q .normal a w)\/
 (Region.seqB .any ops (ops.size-n) n b=true/\n<ops.size/\wpList P ops Q (ops.toList.drop n) a w)
theorem Bv:∀b a w,LE P ops Q n b a w->∀j∈Region.ready .any ops b,n<=j:=by
 rintro b a w (⟨h,_,_⟩|⟨h,d,_⟩) j c
 .rw[h]at c;cases c
 .exact seqB_ready h j c
theorem Bw:∀b a w,LE P ops Q n b a w->wpAny P .any ops Q (ops.size-n) b a w:=by
 rintro b a w (⟨h,d,c⟩|⟨h,d,c⟩)
 .subst d
  rw[nn];exact⟨h,c⟩
 .have:=wpAny_of_seq (md:=.any) (P:=P) (Q':=Q) (ops.toList.drop n) n b a w (λj=>by simp[qy]) (by simpa using h) c
  simpa using this
end
section
variable {P:Program}{tk:TypeId->dn}{ops:Array Oper}{n:Nat}{bL:ji}{D0 dF:O Nat}{W:Nat->Prop}
theorem xH(hc:j6 bL D0 dF ops=true):∀ (g k m:Nat),Small ops.size m->k+g=ops.size->pq bL g k ops.size m=true->Region.seqB .any ops g k (d_ ops.size m)=true
 |0,k,m,c,e,h=>by
  simp only[pq]at h
  simp only[Region.seqB,List.isEmpty_iff]
  cases f:Region.ready .any ops (d_ ops.size m) with
  |nil=>rfl
  |cons x l=>
   have:=me hc c h x (by rw[f];simp)
   cases this
 |g+1,k,m,c,e,h=>by
  simp only[pq,dO]at h
  simp only[Region.seqB,dO,cO]
  have d:k<ops.size:=by omega
  have b:k∈Region.ready .any ops (d_ ops.size m):=(q8 hc c).2 ⟨d,h.1.1⟩
  refine⟨?_,?_⟩
  .have a:=me hc c h.1.2
   have cS:(Region.ready .any ops (d_ ops.size m)).Nodup:=by
    unfold Region.ready;exact List.Pairwise.filter _ List.nodup_range
   revert b a cS
   generalize Region.ready .any ops (d_ ops.size m)=l;intro b a cS
   match l,b,a,cS with
   | [],b,_,_=>cases b
   | [x],b,a,_=>rw[eX.1 (a x (by simp))]
   |x::y::l,_,a,cS=>
    have hx:=eX.1 (a x (by simp));have i:=eX.1 (a y (by simp));simp[hx,i]at cS
  .rw[q4]
   exact xH hc g (k+1) (m|||2^k) (q7 c d) I h.2
theorem Bx(hc:j6 bL D0 dF ops=true)(an:pr ops n)(aG:n<=ops.size)(ao:Region.noSelect ops=true){A:Act}(af:∀d∈bE ops.toList,d<A.tmps.size):
 ∀ (t:aK) (W:Nat->Prop) (f:Nat) (m:Nat) (K:Env->J->Prop) (e:Env) (a:Act) (w:J),c7 e a->dA (bE ops.toList) A a->Small ops.size m->HeadInv .any ops n (d_ ops.size m)->
  dw P tk ops n bL W t f m K e w->j7 P ops (fO A (bE ops.toList) K) n (LE P ops (fO A (bE ops.toList) K) n) f (ae W w) (d_ ops.size m) a w:=by
 intro t;have R:∀ (i:Nat) (o:Oper),ops[i]? =some o->∀k,o.dst=some k->k∈bE ops.toList:=by
  intro i o z k g;simp only[bE,List.mem_filterMap];exact⟨o,by simpa using Array.mem_of_getElem? z,g⟩
 have S:∀ (W:Nat->Prop) (t:aK),(∀ (W:Nat->Prop) (f:Nat) (m:Nat) (K:Env->J->Prop) (e:Env) (a:Act) (w:J),c7 e a->dA (bE ops.toList) A a->Small ops.size m->HeadInv .any ops n (d_ ops.size m)->
  dw P tk ops n bL W t f m K e w->j7 P ops (fO A (bE ops.toList) K) n (LE P ops (fO A (bE ops.toList) K) n) f (ae W w) (d_ ops.size m) a w)->
  ∀ (f:Nat) (m:Nat) (K:Env->J->Prop) (e:Env) (a:Act) (w:J) (i:Nat) (o:Oper),c7 e a->dA (bE ops.toList) A a->Small ops.size m->HeadInv .any ops n (d_ ops.size m)->
  i∈Region.ready .any ops (d_ ops.size m)->i<n->ops[i]? =some o->
  gh ops o e (iu P tk o (λv w'=>ae W w w'/\dw P tk ops n bL W t f (m|||2^i) K (c0 o.dst v e) w') e w) (dw P tk ops n bL W t f (m|||2^i) K (c0 o.dst undef e) w)->
  wpOp P ops (fO A (bE ops.toList) K) i (λal w'=>∃aM:J->Prop,((∀x,aM x->ae W w x)\/mf ops (d_ ops.size m) i)/\aM w'/\j7 P ops (fO A (bE ops.toList) K) n (LE P ops (fO A (bE ops.toList) K) n) f aM ((d_ ops.size m).setIfInBounds i true) al w') a w:=by
  intro W t Q f m K e a w i o ar g p inv T N z h;have next:∀ (v:aa) (w':J),ae W w w'->dw P tk ops n bL W t f (m|||2^i) K (c0 o.dst v e) w'->
   ∃aM:J->Prop,((∀x,aM x->ae W w x)\/mf ops (d_ ops.size m) i)/\aM w'/\j7 P ops (fO A (bE ops.toList) K) n (LE P ops (fO A (bE ops.toList) K) n) f aM ((d_ ops.size m).setIfInBounds i true) (a.put o.dst v) w':=by
   intro v w' ap h;have B:dA (bE ops.toList) a (a.put o.dst v):=dA.put (R i o z);have hinv:=inv.set T N;rw[q4]at hinv⊢;exact⟨ae W w',.inl λx hx=>ap.trans hx,.refl _ _,Q W f _ K _ _ w' (ar.put λk Y=>by rw[g.size];exact af k (R i o z k Y)) (g.trans B) (q7 p I) hinv h⟩
  unfold wpOp;simp only[z];rcases ph ar h with ⟨H,L⟩|⟨H,L⟩
  .simp only[H,if_true]
   exact .inl ((qZ ar L).wp λv w' ⟨h1,G⟩=>next v w' h1 G)
  .simp only[H,ft,if_false]
   exact next _ _ (.refl _ _) L
 have ah:∀ {b c d:ag}{X:Prop},(bif b&&(c&&d) then X else False)->b=true/\c=true/\d=true/\X:=by
  intro b c d X h
  cases b<;>cases c<;>cases d<;>first|exact h.elim|exact⟨rfl,rfl,rfl,h⟩
 have aj:∀ {b c:ag}{X:Prop},(bif b&&c then X else False)->b=true/\c=true/\X:=by
  intro b c X h
  cases b<;>cases c<;>first|exact h.elim|exact⟨rfl,rfl,h⟩
 have C:∀ {i j:Nat},Nat.blt i j=true->i<j:=λh=>by
  have:=k9 h;omega
 have ne_nil:∀ {m i:Nat},Small ops.size m->jk bL m i=true->i<ops.size->Region.ready .any ops (d_ ops.size m)≠ []:=λp h hi h0=>by
  have:=(q8 hc p).2 ⟨hi,h⟩;rw[h0]at this;cases this
 induction t with
 |take i t Q=>
  intro W f m K e a w ar g p inv h
  cases f with
  |zero=>simp[dw]at h
  |succ f=>
   simp only[dw]at h;obtain⟨h1,G,E,h⟩:=ah h;have N:=C E;have T:i∈Region.ready .any ops (d_ ops.size m):=(q8 hc p).2 ⟨I,h1⟩;split at h
   .rename_i o z
    have fin:∀v,YieldsIf P ops (λx=>iv o=true->ae W w x) o v a->dw P tk ops n bL W t f (m|||2^i) K (c0 o.dst v e) w->
     j7 P ops (fO A (bE ops.toList) K) n (LE P ops (fO A (bE ops.toList) K) n) (f+1) (ae W w) (d_ ops.size m) a w:=by
     intro v aq h;have B:dA (bE ops.toList) a (a.put o.dst v):=dA.put (R i o z);refine Bu an z (Region.noSelect_spec ao) (λc a w Z=>by cases Z.1) N Bv f (ae W w) (λx=>iv o=true->ae W w x) _ a w (λ_ h _=>h) (by cases hs:iv o<;>simp) inv (Br hc z G) T aq (.refl _ _) ?_;have hinv:=inv.set T N;rw[q4]at hinv⊢;exact Q W f _ K _ _ w (ar.put λk Y=>by rw[g.size];exact af k (R i o z k Y)) (g.trans B) (q7 p I) hinv h
    rcases ph ar h with ⟨H,L⟩|⟨H,L⟩
    .obtain⟨v,au,aw⟩:=Bn ar L
     exact fin v (.inl ⟨H,λw' hc=>au w' hc⟩) aw
    .exact fin undef (.inr ⟨H,rfl⟩) L
   .exact h.elim
 |b2 i t Q=>
  intro W f m K e a w ar g p inv h
  cases f with
  |zero=>simp[dw]at h
  |succ f=>
   simp only[dw]at h;obtain⟨D,E,h⟩:=aj h;simp only[dO]at D;have N:=C E;split at h
   .rename_i o z
    refine⟨ne_nil p D.1 I,λj ab=>?_⟩;have ak:j=i:=by simpa using me hc p D.2 j ab
    subst ak;exact⟨N,S W t Q f m K e a w j o ar g p inv ab N z h⟩
   .exact h.elim
 |out i b t Q=>
  intro W f m K e a w ar g p inv h
  cases f with
  |zero=>simp[dw]at h
  |succ f=>
   simp only[dw]at h;obtain⟨D,E,O,h⟩:=ah h;simp only[dO]at D;have N:=C E;have O:=gZ O;split at h
   .rename_i o z
    refine⟨ne_nil p D.1 I,λj ab=>?_⟩;have ak:j=i:=by simpa using me hc p D.2 j ab
    subst ak;refine⟨N,?_⟩;have ax:mf ops (d_ ops.size m) j:=by
     intro k ok aH B ay hs hl;have az:k<ops.size:=(kq.1 B).1;rw[nF az]at hl;have aA:(jF 0 ops.toList&&&m).testBit k=true:=by
      rw[Nat.testBit_and,hl,Bool.and_true];exact(xC ops.toList 0 k ok (by simpa using B)).trans hs|>(by simpa using ·)
     have U:(jj bL.M j).testBit k=true:=xB O aA;rw[q5 hc ay,kG]at U;simp only[cO]at U;exact q6.1 U
    have next:∀ (v:aa) (w':J) (V:Nat->Prop),dw P tk ops n bL V t f (m|||2^j) K (c0 o.dst v e) w'->
     ∃aM:J->Prop,((∀x,aM x->ae W w x)\/mf ops (d_ ops.size m) j)/\aM w'/\j7 P ops (fO A (bE ops.toList) K) n (LE P ops (fO A (bE ops.toList) K) n) f aM ((d_ ops.size m).setIfInBounds j true) (a.put o.dst v) w':=by
     intro v w' V h;have B:dA (bE ops.toList) a (a.put o.dst v):=dA.put (R j o z);have hinv:=inv.set ab N;rw[q4]at hinv⊢;exact⟨ae V w',.inr ax,.refl _ _,Q V f _ K _ _ w' (ar.put λk Y=>by rw[g.size];exact af k (R j o z k Y)) (g.trans B) (q7 p I) hinv h⟩
    unfold wpOp;simp only[z];rcases ph ar h with ⟨H,L⟩|⟨H,L⟩
    .simp only[H,if_true]
     refine .inl ((qZ ar L).wp λv w' G=>?_)
     cases b with
     |true=>
      obtain⟨V,G⟩:=G;exact next v w' V G
     |false=>exact next v w' W G
    .simp only[H,ft,if_false]
     exact next _ _ W L
   .exact h.elim
 |two i t j u ac ad=>
  intro W f m K e a w ar g p inv h
  cases f with
  |zero=>simp[dw]at h
  |succ f=>
   simp only[dw]at h;obtain⟨D,E,O,h⟩:=ah h;simp only[dO]at D;have hi:=C E;split at h
   .rename_i o q z Z
    refine⟨ne_nil p D.1 I,λk B=>?_⟩;have F:k=i\/k=j:=by simpa using me hc p D.2 k B
    rcases F with F|F
    .subst F
     exact⟨C E,S W t ac f m K e a w k o ar g p inv B (C E) z h.1⟩
    .subst F
     exact⟨C O,S W u ad f m K e a w k q ar g p inv B (C O) Z h.2⟩
   .exact h.elim
 |three i t j u k x ac ad aB=>
  intro W f m K e a w ar g p inv h
  cases f with
  |zero=>simp[dw]at h
  |succ f=>
   simp only[dw]at h;obtain⟨D,E,aC,h⟩:=ah (d:=_) h;obtain⟨O,U⟩:Nat.blt j n=true/\Nat.blt k n=true:=by simpa using aC
   simp only[dO]at D;have hi:=C E;split at h
   .rename_i o q r z Z aD
    refine⟨ne_nil p D.1 I,λy B=>?_⟩;have F:y=i\/y=j\/y=k:=by simpa using me hc p D.2 y B
    rcases F with F|F|F
    .subst F
     exact⟨C E,S W t ac f m K e a w y o ar g p inv B (C E) z h.1⟩
    .subst F
     exact⟨C O,S W u ad f m K e a w y q ar g p inv B (C O) Z h.2.1⟩
    .subst F
     exact⟨C U,S W x aB f m K e a w y r ar g p inv B (C U) aD h.2.2⟩
   .exact h.elim
 |sp s t u ac ad=>
  intro W f m K e a w ar g p inv h;have ai:match e.get s with
   |some (.bool c)=>(c=true->dw P tk ops n bL W t f m K ((s,.bool true)::e) w)/\(c=false->dw P tk ops n bL W u f m K ((s,.bool false)::e) w)
   |_=>False:=by cases f<;>simpa only[dw] using h
  split at ai
  .rename_i c hs
   cases c with
   |true=>exact ac W f m K _ a w (ar.lit hs) g p inv (ai.1 rfl)
   |false=>exact ad W f m K _ a w (ar.lit hs) g p inv (ai.2 rfl)
  .exact ai.elim
 |fin=>
  intro W f m K e a w ar g p inv h
  cases f with
  |succ f=>simp[dw]at h
  |zero=>
   simp only[dw]at h;obtain⟨h1,G,h⟩:=aj h;refine .inl ⟨?_,gZ G,rfl,g,e,ar,h⟩
   cases T:Region.ready .any ops (d_ ops.size m) with
   |nil=>rfl
   |cons x l=>
    have:=me hc p h1 x (by rw[T];simp)
    cases this
 |tail as=>
  intro W f m K e a w ar g p inv h
  cases f with
  |succ f=>simp[dw]at h
  |zero=>
   simp only[dw]at h;obtain⟨h1,G,h⟩:=aj h;have am:∀k,k∈bE (ops.toList.drop n)->k∈bE ops.toList:=λk g=>by
    simp only[bE,List.mem_filterMap]at g⊢;obtain⟨o,z,g⟩:=g;exact⟨o,eP z,g⟩
   have:=xp _ _ _ K e a w ar (λd hd=>by rw[g.size];exact af d (am d hd)) h;exact .inr ⟨xH hc _ _ _ p I h1,C G,hE (λx al w' ⟨av,aE,aF⟩=>⟨av,g.trans (aE.mono am),aF⟩) _ _ _ this⟩
theorem By(ops:Array Oper)(n:Nat):HeadInv .any ops n (Array.replicate ops.size false):=
 ⟨by simp,λj a _ hl=>(by rw[getD_replicate_false]at hl;cases hl),λt _ ht=>getD_in (by simpa using ht) (getD_replicate_false _ _)⟩
def uF(P:Program)(tk:TypeId->dn)(ops:Array Oper)(n:Nat)(a:ag)(bL:ji)(D0 dF:O Nat)(t:aK)(K:Env->J->Prop)(e:Env)(w:J):Prop:=
 bif (Region.noSelect ops&&j6 bL D0 dF ops)&&(bif Nat.beq n ops.size then true else Nat.blt n ops.size&&(Region.sinkB .any ops n&&Region.chainB .any ops n)) then
  bif a then
   ao w.drew λw1=>∃W:Nat->Prop,dw P tk ops n bL W t n 0 K e w1
  else ao w.drew λw1=>dw P tk ops n bL (λ_=>False) t n 0 K e w1
 else False
theorem Bz{id:Nat}{f:ag}{t:aK}{K:Env->J->Prop}{e:Env}{a:Act}{w:J}(i:P.follows .mixedOrders=true)
 (ar:c7 e a) (j:∀d∈bE ops.toList,d<a.tmps.size) (h:uF P tk ops n f bL D0 dF t K e w):
 (Code.region id ops true).wp P (fO a (bE ops.toList) K) a w:=by
 unfold uF at h
 cases h0:(Region.noSelect ops&&j6 bL D0 dF ops) with
 |false=>rw[h0]at h;exact h.elim
 |true=>
  rw[h0]at h;simp only[ij]at h;simp only[dO]at h0;obtain⟨h1,hc⟩:=h0
  cases b:(bif Nat.beq n ops.size then true else Nat.blt n ops.size&&(Region.sinkB .any ops n&&Region.chainB .any ops n)) with
  |false=>rw[b]at h;exact h.elim
  |true=>
   rw[b]at h;simp only[cond_true]at h;have k:pr ops n:=by
    cases c:Nat.beq n ops.size with
    |true=>rw[gZ c];exact Bs ops
    |false=>
     rw[c]at b;simp only[cond_false,dO]at b;refine Bt b.2.1 b.2.2 ?_;have:=k9 b.1;omega
   have l:n<=ops.size:=by
    cases c:Nat.beq n ops.size with
    |true=>rw[gZ c];exact br _
    |false=>
     rw[c]at b;simp only[cond_false,dO]at b;have:=k9 b.1;omega
   have key:∀W,dw P tk ops n bL W t n 0 K e w.drew->(Code.region id ops true).wp P (fO a (bE ops.toList) K) a w:=by
    intro W h;refine wp_region_any i ?_;have g:=Bx hc k l h1 j t W n 0 K e a w.drew ar (.refl _ _) (Bp _) (by rw[xz];exact By ops n) h;rw[xz]at g;have:=xG Bw _ _ _ _ _ g;rw[show n+(ops.size-n)=ops.size from I]at this;exact this
   cases f with
   |true=>obtain⟨W,h⟩:=h;exact key W h
   |false=>exact key _ h
end
end aX
namespace aX
open Go
inductive aP where
 |leaf
 |c1 (as:O jD)
 |cw (n:Nat) (c:ag) (bL:ji) (D0 dF:O Nat) (t:aK)
 |seq (a b:aP)
 |cond (a b:aP)
 |bP (a:aP)
 |loop (live:O (Nat×c6)) (ej:O Nat) (a:aP)
 |eK (live:O (Nat×c6)) (ej:O Nat) (a:aP)
def fE:O (Nat×c6)->Type
 | []=>J->Prop
 |(_,l)::r=>l.T->fE r
def lq:O (Nat×c6)->Type
 | []=>J->Nat
 |(_,l)::r=>l.T->lq r
def nG(l:c6)(v:an aa)(K:l.T->Prop):Prop:=
 match l,v with
 | .int k,some (.int d n)=>bif iP k d then K n else False
 | .bool,some (.bool b)=>K b
 | .str,some (.string s)=>K s
 | .ptr,some (.pointer p)=>K p
 | .slice,some (.slice a n c)=>K ⟨a,n,c⟩
 | .map,some (.map r)=>K r
 | .agg,some (.agg cs)=>K cs
 | .fn,some (.func (.func f) a b)=>K ⟨f,a,b⟩
 | .any,some v=>K v
 |_,_=>False
def fE.app:(live:O (Nat×c6))->fE live->(Nat->an aa)->J->Prop
 | [],k,_,w=>k w
 |(s,l)::r,k,g,w=>nG l (g s) λx=>fE.app r (k x) g w
def fE.lam:(live:O (Nat×c6))->(Env->J->Prop)->fE live
 | [],F=> λw=>F [] w
 |(s,l)::r,F=> λx=>fE.lam r λe w=>F ((s,l.v x)::e) w
def uG:(live:O (Nat×c6))->fE live->lq live->(Env->Nat->J->Prop)->Prop
 | [],a,b,F=>∀w,a w->F [] (b w) w
 |(s,l)::r,a,b,F=>∀x:l.T,uG r (a x) (b x) λe m w=>F ((s,l.v x)::e) m w
def uH:(live:O (Nat×c6))->fE live->lq live->Nat->(Nat->an aa)->J->Prop
 | [],a,b,m,_,w=>a w/\b w<m
 |(s,l)::r,a,b,m,g,w=>nG l (g s) λx=>uH r (a x) (b x) m g w
def hZ:(live:O (Nat×c6))->lq live->(Nat->an aa)->J->Nat
 | [],d,_,w=>d w
 |(s,l)::r,d,g,w=>
  match l,g s,d with
  | .int _,some (.int _ n),d=>hZ r (d n) g w
  | .bool,some (.bool b),d=>hZ r (d b) g w
  | .str,some (.string b),d=>hZ r (d b) g w
  | .ptr,some (.pointer b),d=>hZ r (d b) g w
  | .slice,some (.slice a n c),d=>hZ r (d (Y.mk a n c)) g w
  | .map,some (.map b),d=>hZ r (d b) g w
  | .agg,some (.agg b),d=>hZ r (d b) g w
  | .fn,some (.func (.func f) a b),d=>hZ r (d (gO.mk f a b)) g w
  | .any,some v,d=>hZ r (d v) g w
  |_,_,_=>0
def writes:Code->O Nat
 | .region _ ops _=>bE ops.toList
 | .seq a b=>writes a++writes b
 | .cond _ a b=>writes a++writes b
 | .block _ a=>writes a
 | .loop a=>writes a
 | .scope a=>writes a
 |_=> []
def pt(ej ws:O Nat):ag:=ej.all λs=> !(ws.any λd=>Nat.beq d s)
def mg(e:Env):O Nat->Env
 | []=> []
 |s::ks=>match e.get s with
  |some v=>(s,v)::mg e ks
  |none=>mg e ks
def nH:Env->Env->Env
 | [],f=>f
 |p::e,f=>p::nH e f
def D(P:Program)(tk:TypeId->dn):aP->Code->(Exit->Env->J->Prop)->Env->J->Prop
 | .leaf,c,K,e,w=>
  match c with
  | .skip=>K .normal e w
  | .label _=>K .normal e w
  | .exit id=>K (.exit id) e w
  | .ret=>K .ret e w
  |_=>False
 | .c1 as,c,K,e,w=>
  match c with
  | .region _ ops false=>ff P tk ops (ops.size+1) ops.toList as (λd w'=>K .normal d w') e w
  |_=>False
 | .cw n he bL D0 dF t,c,K,e,w=>
  match c with
  | .region _ ops true=>uF P tk ops n he bL D0 dF t (λd w'=>K .normal d w') e w
  |_=>False
 | .seq A B,c,K,e,w=>
  match c with
  | .seq a b=>D P tk A a (λx d w'=>match x with| .normal=>D P tk B b K d w'|x=>K x d w') e w
  |_=>False
 | .cond A B,c,K,e,w=>
  match c with
  | .cond o x y=>match ev e o with
   |some (.bool b)=>(b=true->D P tk A x K e w)/\(b=false->D P tk B y K e w)
   |_=>False
  |_=>False
 | .bP A,c,K,e,w=>
  match c with
  | .block id b=>D P tk A b (λx d w'=>match x with| .exit h=>bif Nat.beq h id then K .normal d w' else K (.exit h) d w'|x=>K x d w') e w
  |_=>False
 | .loop live ej A,c,K,e,w=>
  match c with
  | .loop b=>bif pt ej (writes b) then
   ∃ (f:fE live) (i:lq live),fE.app live f e.get w/\
    uG live f i λg m w'=>D P tk A b (λx d j=>match x with| .normal=>uH live f i m d.get j|x=>K x d j) (nH g (mg e ej)) w'
   else False
  |_=>False
 | .eK live ej A,c,K,e,w=>
  bif pt ej (writes c) then
   bq (λk:fE live=>D P tk A c (λx d w'=>match x with| .normal=>fE.app live k d.get w'|x=>K x d w') e w)
    (fE.lam live λg w'=>K .normal (nH g (mg e ej)) w')
  else False
def BA(a:Act)(ds:O Nat)(K:Exit->Env->J->Prop)(x:Exit)(b:Act)(w':J):Prop:=
 dA ds a b/\∃c,c7 c b/\K x c w'
def Sub(e:Env)(g:Nat->an aa):Prop:=∀s v,e.get s=some v->g s=some v
theorem Sub.cons{e:Env}{g:Nat->an aa}{s:Nat}{v:aa}(h:Sub e g)(hs:g s=some v):Sub ((s,v)::e) g:=by
 intro t u ht;rw[l6]at ht;by_cases a:s=t
 .subst a;rw[if_pos rfl]at ht;rw[hs];exact ht
 .rw[if_neg a]at ht;exact h t u ht
theorem Sub.nil{g:Nat->an aa}:Sub [] g:=λ_ _ h=>by cases h
theorem q9{l:c6}{v:an aa}{K:l.T->Prop}(h:nG l v K):∃x:l.T,v=some (l.v x)/\K x:=by
 unfold nG at h;split at h
 .rename_i k b n K
  by_cases a:k=b
  .subst a
   simp only[iP,decide_true,cond_true]at h;exact⟨n,rfl,h⟩
  .simp[iP,a]at h
 all_goals first
  |exact⟨_,rfl,h⟩
  |exact h.elim
theorem xI{l:c6}{v:an aa}{K:l.T->Prop}{x:l.T}(a:v=some (l.v x))(h:K x):nG l v K:=by
 subst a
 cases l<;>simp only[nG,c6.v,iP,decide_true,cond_true]<;>exact h
theorem xJ{s:Nat}{l:c6}{r:O (Nat×c6)}{a:lq ((s,l)::r)}{g:Nat->an aa}{w:J}{x:l.T}(b:g s=some (l.v x)):
 hZ ((s,l)::r) a g w=hZ r (a x) g w:=by
 cases l<;>simp only[hZ,b,c6.v]<;>rfl
theorem xK:∀ {live:O (Nat×c6)}{F:Env->J->Prop}{g:Nat->an aa}{w:J},fE.app live (fE.lam live F) g w->∃a,Sub a g/\F a w
 | [],F,g,w,h=>⟨[],Sub.nil,h⟩
 |(s,l)::r,F,g,w,h=>by
  obtain⟨x,b,h⟩:=q9 h
  obtain⟨a,hs,h⟩:=xK h
  exact⟨(s,l.v x)::a,hs.cons b,h⟩
theorem xL:∀ {live:O (Nat×c6)}{a:fE live}{g g':Nat->an aa}{w:J},(∀s v,g s=some v->g' s=some v)->fE.app live a g w->fE.app live a g' w
 | [],_,_,_,_,_,h=>h
 |(s,l)::r,a,g,g',w,hg,h=>by
  obtain⟨x,b,h⟩:=q9 h
  exact xI (hg _ _ b) (xL hg h)
theorem xM:∀ {live:O (Nat×c6)}{b:fE live}{c:lq live}{F:Env->Nat->J->Prop}{g:Nat->an aa}{w:J},
 uG live b c F->fE.app live b g w->∃d,Sub d g/\F d (hZ live c g w) w
 | [],b,c,F,g,w,h,a=>⟨[],Sub.nil,h w a⟩
 |(s,l)::r,b,c,F,g,w,h,a=>by
  obtain⟨x,e,a⟩:=q9 a
  obtain⟨d,hs,h⟩:=xM (h x) a
  exact⟨(s,l.v x)::d,hs.cons e,by rw[xJ e];exact h⟩
theorem xN:∀ {live:O (Nat×c6)}{a:fE live}{b:lq live}{m:Nat}{g g':Nat->an aa}{w:J},
 (∀s v,g s=some v->g' s=some v)->uH live a b m g w->fE.app live a g' w/\hZ live b g' w<m
 | [],_,_,_,_,_,_,_,h=>h
 |(s,l)::r,a,b,m,g,g',w,hg,h=>by
  obtain⟨x,c,h⟩:=q9 h
  obtain⟨h1,d⟩:=xN hg h
  exact⟨xI (hg _ _ c) h1,by rw[xJ (hg _ _ c)];exact d⟩
theorem xO:∀ {e f:Env}{s:Nat}{v:aa},(nH e f).get s=some v->e.get s=some v\/f.get s=some v
 | [],_,_,_,h=>.inr h
 |(k,u)::e,f,s,v,h=>by
  simp only[nH]at h
  rw[l6]at h⊢
  by_cases a:k=s
  .rw[if_pos a]at h⊢;exact .inl h
  .rw[if_neg a]at h⊢;exact xO h
theorem uI{e:Env}:∀ {ks:O Nat}{s:Nat}{v:aa},(mg e ks).get s=some v->s∈ks/\e.get s=some v
 | [],_,_,h=>by cases h
 |k::ks,s,v,h=>by
  simp only[mg]at h
  split at h
  .rename_i u hu
   rw[l6]at h
   by_cases a:k=s
   .rw[if_pos a]at h
    subst a
    exact⟨by simp,by rw[hu];exact h⟩
   .rw[if_neg a]at h
    have:=uI h
    exact⟨by simp[this.1],this.2⟩
  .have:=uI h
   exact⟨by simp[this.1],this.2⟩
theorem xP{e c:Env}{a b:Act}{ej ws:O Nat}(ar:c7 e a)(f:dA ws a b)(g:pt ej ws=true)(hs:Sub c λs=>b.tmps[s]?):
 c7 (nH c (mg e ej)) b:=by
 constructor;intro s v h;rcases xO h with h|h
 .exact hs s v h
 .obtain⟨h1,i⟩:=uI h
  have d:=k7.1 g s h1;simp only[jY,nk]at d;rw[f.same s λj=>d s j (Nat.beq_refl s)];exact ar.get s v i
section
variable {P:Program}{tk:TypeId->dn}
theorem iw{c:Code}{Q Q':Exit->Act->J->Prop}{a:Act}{w:J}(h:c.wp P Q a w)(b:∀e a w,Q e a w->Q' e a w):c.wp P Q' a w:=wp_mono h b
theorem q_(R:P.follows .mixedOrders=true):∀ (A:aP) (c:Code) (K:Exit->Env->J->Prop) (e:Env) (a:Act) (w:J),c7 e a->(∀d∈writes c,d<a.tmps.size)->
 D P tk A c K e w->c.wp P (BA a (writes c) K) a w:=by
 intro A
 induction A with
 |leaf=>
  intro c K e a w ar j h;simp only[D]at h;split at h
  .exact wp_skip ⟨.refl _ _,e,ar,h⟩
  .exact wp_label ⟨.refl _ _,e,ar,h⟩
  .exact wp_exit ⟨.refl _ _,e,ar,h⟩
  .exact wp_ret ⟨.refl _ _,e,ar,h⟩
  .exact h.elim
 |c1 as=>
  intro c K e a w ar j h;simp only[D]at h;split at h
  .rename_i id ops
   have:=xp _ _ _ _ e a w ar j h;refine wp_region_list (hE ?_ _ _ _ this);rintro x u w' ⟨rfl,f,E,F,G⟩;exact⟨f,E,F,G⟩
  .exact h.elim
 |cw n he bL D0 dF t=>
  intro c K e a w ar j h;simp only[D]at h;split at h
  .rename_i id ops
   refine iw (Bz R ar j h) ?_;rintro x u w' ⟨rfl,f,E,F,G⟩;exact⟨f,E,F,G⟩
  .exact h.elim
 |seq A B H I=>
  intro c K e a w ar j h;simp only[D]at h;split at h
  .rename_i x y
   have hx:∀d,d∈writes x->d∈writes (.seq x y):=λd hd=>by simp[writes,hd]
   have z:∀d,d∈writes y->d∈writes (.seq x y):=λd hd=>by simp[writes,hd]
   refine wp_seq (iw (H x _ e a w ar (λd hd=>j d (hx d hd)) h) ?_);rintro ex a1 w1 ⟨f,i,g,h1⟩
   cases ex with
   |normal=>
    refine iw (I y K i a1 w1 g (λd hd=>by rw[f.size];exact j d (z d hd)) h1) ?_;rintro ex a2 ah ⟨k,q,m,p⟩;exact⟨(f.mono hx).trans (k.mono z),q,m,p⟩
   |exit id=>exact⟨f.mono hx,i,g,h1⟩
   |goto l=>exact⟨f.mono hx,i,g,h1⟩
   |ret=>exact⟨f.mono hx,i,g,h1⟩
   |panic L=>exact⟨f.mono hx,i,g,h1⟩
   |outgrown=>exact⟨f.mono hx,i,g,h1⟩
  .exact h.elim
 |cond A B H I=>
  intro c K e a w ar j h;simp only[D]at h;split at h
  .rename_i o x y
   have hx:∀d,d∈writes x->d∈writes (.cond o x y):=λd hd=>by simp[writes,hd]
   have z:∀d,d∈writes y->d∈writes (.cond o x y):=λd hd=>by simp[writes,hd]
   split at h
   .rename_i b S
    refine wp_cond_split (ar.ev S) (λM=>?_) (λM=>?_)
    .refine iw (H x K e a w ar (λd hd=>j d (hx d hd)) (h.1 M)) ?_
     rintro ex a2 ah ⟨k,q,m,p⟩;exact⟨k.mono hx,q,m,p⟩
    .refine iw (I y K e a w ar (λd hd=>j d (z d hd)) (h.2 M)) ?_
     rintro ex a2 ah ⟨k,q,m,p⟩;exact⟨k.mono z,q,m,p⟩
   .exact h.elim
  .exact h.elim
 |bP A C=>
  intro c K e a w ar j h;simp only[D]at h;split at h
  .rename_i id b
   refine wp_block (iw (C b _ e a w ar j h) ?_);rintro ex a1 w1 ⟨f,i,g,h1⟩
   cases ex with
   |exit N=>
    simp only[Exit.inBlock];by_cases O:N=id
    .subst O
     simp only[Nat.beq_refl,cond_true]at h1;rw[if_pos rfl];exact⟨f,i,g,h1⟩
    .have:Nat.beq N id=false:=by
      cases T:Nat.beq N id
      .rfl
      .exact absurd (gZ T) O
     simp only[this,cond_false]at h1;rw[if_neg O];exact⟨f,i,g,h1⟩
   |normal=>exact⟨f,i,g,h1⟩
   |goto l=>exact⟨f,i,g,h1⟩
   |ret=>exact⟨f,i,g,h1⟩
   |panic L=>exact⟨f,i,g,h1⟩
   |outgrown=>exact⟨f,i,g,h1⟩
  .exact h.elim
 |loop live ej A C=>
  intro c K e a w ar j h;simp only[D]at h;split at h
  .rename_i b
   cases r:pt ej (writes b) with
   |false=>rw[r]at h;exact h.elim
   |true=>
    rw[r]at h;obtain⟨U,V,h0,W⟩:=h;refine wp_loop (λu w'=>dA (writes b) a u/\fE.app live U (λs=>u.tmps[s]?) w') (λu w'=>hZ live V (λs=>u.tmps[s]?) w')
     ⟨.refl _ _,xL (λs v hs=>ar.get s v hs) h0⟩ ?_
    rintro a1 w1 ⟨f,X⟩;obtain⟨Y,hs,Q⟩:=xM W X;refine iw (C b _ _ a1 w1 (xP ar f r hs) (λd hd=>by rw[f.size];exact j d hd) Q) ?_;rintro ex a2 ah ⟨k,q,m,p⟩
    cases ex with
    |normal=>
     obtain⟨av,Z⟩:=xN (g':=λs=>a2.tmps[s]?) (λs v hs=>m.get s v hs) p;exact⟨⟨f.trans k,av⟩,Z⟩
    |exit id=>exact⟨f.trans k,q,m,p⟩
    |goto l=>exact⟨f.trans k,q,m,p⟩
    |ret=>exact⟨f.trans k,q,m,p⟩
    |panic L=>exact⟨f.trans k,q,m,p⟩
    |outgrown=>exact⟨f.trans k,q,m,p⟩
  .exact h.elim
 |eK live ej A C=>
  intro c K e a w ar j h;simp only[D]at h
  cases r:pt ej (writes c) with
  |false=>rw[r]at h;exact h.elim
  |true=>
   rw[r]at h;simp only[cond_true]at h;have h:=h.out;refine iw (C c _ e a w ar j h) ?_;rintro ex a1 w1 ⟨f,i,g,h1⟩
   cases ex with
   |normal=>
    obtain⟨Y,hs,Q⟩:=xK h1;exact⟨f,_,xP ar f r (λs v h=>g.get s v (hs s v h)),Q⟩
   |exit id=>exact⟨f,i,g,h1⟩
   |goto l=>exact⟨f,i,g,h1⟩
   |ret=>exact⟨f,i,g,h1⟩
   |panic L=>exact⟨f,i,g,h1⟩
   |outgrown=>exact⟨f,i,g,h1⟩
def kH(P:Program)(tk:TypeId->dn):O ResultVar->Env->J->(O aa->Prop)->Prop
 | [],_,_,K=>K []
 | .tmp t::r,e,w,K=>match e.get t with
  |some v=>kH P tk r e w λvs=>K (v::vs)
  |none=>False
 | .cell t T::r,e,w,K=>match e.get t with
  |some (.pointer (some A))=>nz P tk T A w λv=>kH P tk r e w λvs=>K (v::vs)
  |_=>False
def nI:O aa->aa
 | [v]=>v
 |vs=>.tuple vs.toArray
def xQ(P:Program)(tk:TypeId->dn)(a:O ResultVar)(R:aa->J->Prop)(x:Exit)(e:Env)(w:J):Prop:=
 match x with
 | .normal=>kH P tk a e w λvs=>R (nI vs) w
 | .ret=>kH P tk a e w λvs=>R (nI vs) w
 |_=>False
def mh:Nat->O aa->Env
 |_,[]=> []
 |i,v::vs=>(i,v)::mh (i+1) vs
def nJ(P:Program)(tk:TypeId->dn)(A:aP)(fn:Func)(args:O aa)(w:J)(R:aa->J->Prop):Prop:=
 match fn.body with
 |some c=>D P tk A c (xQ P tk fn.results.toList R) (mh 0 args) w
 |none=>False
def mi(fn:Func)(n:Nat):ag:=
 match fn.body with
 |some c=>(writes c).all (λd=>Nat.blt d fn.ntmps)&&Nat.ble n fn.ntmps
 |none=>false
theorem uJ:∀ {vs:O aa}{i s:Nat}{v:aa},(mh i vs).get s=some v->i<=s/\vs[s-i]? =some v
 | [],_,_,_,h=>by cases h
 |u::vs,i,s,v,h=>by
  simp only[mh]at h
  rw[l6]at h
  by_cases a:i=s
  .subst a
   rw[if_pos rfl]at h
   simpa using h
  .rw[if_neg a]at h
   obtain⟨h1,b⟩:=uJ h
   refine⟨I,?_⟩
   rw[show s-i=(s-(i+1))+1 from I]
   simpa using b
def pv(tmps:Array aa)(r:ResultVar):Sem aa:=
 match r with
 | .tmp t=>pure (tmps.getD t undef)
 | .cell x t=>do loadVar t (←asAddr (tmps.getD x undef))
theorem kI{a:Act}:∀ {f:O ResultVar}{e:Env}{w:J}{K:O aa->Prop},c7 e a->kH P tk f e w K->
 ∃vs,(f.mapM (pv a.tmps)).run P w=.ok vs w/\K vs
 | [],_,_,_,_,h=>⟨[],by simp,h⟩
 | .tmp t::r,e,w,K,ar,h=>by
  simp only[kH]at h
  split at h
  .rename_i v b
   obtain⟨vs,c,d⟩:=kI ar h
   refine⟨v::vs,?_,d⟩
   have ht:a.tmps.getD t undef=v:=by simp[Array.getD_eq_getD_getElem?,ar.get _ _ b]
   simp only[List.mapM_cons,pv,Sem.run_bind,Sem.run_pure,Result.andThen,ht]
   rw[c]
  .exact h.elim
 | .cell t T::r,e,w,K,ar,h=>by
  simp only[kH]at h
  split at h
  .rename_i A b
   obtain⟨v,hl,h⟩:=xl h
   obtain⟨vs,c,d⟩:=kI ar h
   refine⟨v::vs,?_,d⟩
   have ht:a.tmps.getD t undef=.pointer (some A):=by simp[Array.getD_eq_getD_getElem?,ar.get _ _ b]
   have g:(loadVar T A).run P w=.ok v w:=by simpa[Instr.loadAt,Instr.sureAddr] using hl
   simp only[List.mapM_cons,pv,Sem.run_bind,Sem.run_pure,Result.andThen,ht,asAddr,g]
   rw[c]
  .exact h.elim
theorem mj{fn:Func}{tmps:Array aa}{w:J}{vs:O aa}
 (h:(fn.results.toList.mapM (pv tmps)).run P w=.ok vs w):
 (results fn tmps).run P w=.ok (nI vs) w:=by
 have a:results fn tmps=(do let vs ←fn.results.mapM (pv tmps);pure (if h:vs.size=1 then vs[0] else .tuple vs)):=rfl;rw[a,Array.mapM_eq_mapM_toList];simp only[Sem.run_bind,Sem.run_map];rw[h];simp only[Result.andThen,Sem.run_pure]
 congr 1
 match vs with
 | []=>rfl
 | [v]=>rfl
 |u::v::vs=>simp[nI]
theorem BB{f:FuncId}{fn:Func}{A:aP}{args:O aa}{w:J}{R:aa->J->Prop}(n:P.follows .mixedOrders=true)
 (hf:P.funcs[f]? =some fn) (g:mi fn args.length=true) (h:nJ P tk A fn args w R):
 Calls P f args.toArray w λe w'=>∃v,e=.returned v/\R v w':=by
 unfold nJ at h;unfold mi at g
 cases i:fn.body with
 |none=>rw[i]at h;exact h.elim
 |some c=>
  rw[i]at h g;simp only[dO]at h g;obtain⟨o,p⟩:=g;have u:=k9 p;refine calls_of_wp hf i ?_;have q:(args.toArray++Array.replicate (fn.ntmps-args.toArray.size) undef).size=fn.ntmps:=by simp;omega
  have ar:c7 (mh 0 args) {tmps:=args.toArray++Array.replicate (fn.ntmps-args.toArray.size) undef,defers:=[]}:=by
   constructor;intro s v hs;obtain⟨_,b⟩:=uJ hs;simp only[Nat.sub_zero]at b;have aJ:s<args.length:=(jA.1 b).1;simp[Array.getElem?_append,aJ];rw[dD aJ]at b;exact Option.some.inj b
  refine iw (q_ n A c _ _ _ w ar (λd hd=>?_) h) ?_
  .have h1:=k7.1 o d hd
   have b:=k9 h1;show d<(args.toArray++Array.replicate (fn.ntmps-args.toArray.size) undef).size;rw[q];omega
  .rintro x r w' ⟨t,y,m,a⟩
   have hd:r.defers=[]:=t.defers
   cases x with
   |normal=>
    obtain⟨vs,j,k⟩:=kI m a;exact⟨hd,_,mj j,_,rfl,k⟩
   |ret=>
    obtain⟨vs,j,k⟩:=kI m a;exact⟨hd,_,mj j,_,rfl,k⟩
   |exit id=>exact a.elim
   |goto l=>exact a.elim
   |panic z=>exact a.elim
   |outgrown=>exact a.elim
end
end aX
namespace aX
open Go Go.ChangeShapes Go.WideShapes Go.ChangeAt Go.RowKit
def gy(P:Program)(w:J):Nat->TypeId->O aa->Prop
 |0,_,_=>False
 |fuel+1,t,cs=>
  match P.underlying t with
  |some .bool=>∃b:ag,cs=[.bool b]
  |some (.int k)=>∃n:Int,cs=[.int k n]/\k.min<=n/\n<=k.max
  |some .string=>∃s:ByteArray,cs=[.string s]/\s.size<=maxLen
  |some (.slice e)=>∃s:Y,cs=[.slice s.a s.len s.cap]/\s.len<=s.cap/\s.cap<=maxLen/\(s.a=none->s.cap=0)/\
   ∀a,s.a=some a->∀i,i<s.cap->∃vs,cy w (a.add (i*P.cellsOf e)) 0 (P.cellsOf e)=some vs/\gy P w fuel e vs
  |some (.struct fs)=>cs.length=P.cellsOf t/\∀f∈fs,gy P w fuel f.type ((cs.drop f.offset).take (P.cellsOf f.type))
  |some (.array n e)=>cs.length=P.cellsOf t/\∀i,i<n->gy P w fuel e ((cs.drop (i*P.cellsOf e)).take (P.cellsOf e))
  |some (.pointer e)=>cs=[.pointer none]\/∃a vs,cs=[.pointer (some a)]/\cy w a 0 (P.cellsOf e)=some vs/\gy P w fuel e vs
  |_=>True
theorem mapM_some{α β:Type}{f:α->an β}:∀ {l:O α}{r:O β},l.mapM f=some r->∀x∈l,∃y,f x=some y
 | [],_,_,_,hx=>by cases hx
 |a::l,r,h,x,hx=>by
  simp only[List.mapM_cons]at h
  cases c:f a with
  |none=>simp[c]at h
  |some b=>
   cases hl:l.mapM f with
   |none=>simp[c,hl]at h
   |some d=>
    rcases cR.1 hx with rfl|hx
    .exact⟨b,c⟩
    .exact mapM_some hl x hx
theorem xR{w:J}{a:ab}:∀ (n i:Nat) (vs:O aa),((List.range' i n).mapM λj=>w.cell? (a.add j))=some vs->cy w a i n=some vs
 |0,i,vs,h=>by simp at h;simp[cy,h]
 |n+1,i,vs,h=>by
  simp only[List.range'_succ,List.mapM_cons]at h
  cases h1:w.cell? (a.add i) with
  |none=>simp[h1]at h
  |some v=>
   cases b:((List.range' (i+1) n).mapM λj=>w.cell? (a.add j)) with
   |none=>simp[h1,b]at h
   |some us=>
    simp[h1,b]at h
    have:=xR n (i+1) us b
    simp[cy,h1,this,h]
theorem xS{w:J}{base:Nat}{a:ab}{n:Nat}{vs:O aa}(h:w.cells? base a n=some vs):cy w a 0 n=some vs:=by
 unfold World.cells? at h;split at h
 .rw[qz]at h
  exact xR n 0 vs h
 .cases h
section
variable {H:Type}{enc:TypeId×aa->H}{P:Program}{w:J}
theorem pw:∀ (fuel:Nat) (t:TypeId) (cs:O aa) (x:DataW H×O MemPlace),DataW.trod enc P w 0 (λ_=>true) true fuel t cs=some x->gy P w fuel t cs
 |0,_,_,_,h=>by cases h
 |fuel+1,t,cs,x,h=>by
  simp only[DataW.trod]at h
  simp only[gy]
  cases ht:P.underlying t with
  |none=>trivial
  |some d=>
   rw[ht]at h
   cases d<;>try trivial
   case bool=>
    match cs,h with
    | [.bool b],_=>exact⟨b,rfl⟩
   case int k=>
    match cs,h with
    | [.int q n],h=>
     simp only at h
     split at h
     .rename_i g
      obtain⟨rfl,l⟩:=g
      exact⟨n,rfl,by simpa[Lit.wf] using l⟩
     .cases h
   case string=>
    match cs,h with
    | [.string s],h=>
     simp only at h
     split at h
     .rename_i g;exact⟨s,rfl,g⟩
     .cases h
   case pointer e=>
    match cs,h with
    | [.pointer none],_=>exact .inl rfl
    | [.pointer (some a)],h=>
     simp only[Option.map_eq_some_iff]at h
     obtain⟨y,c,_⟩:=h
     obtain⟨vs,h1,j⟩:=Option.bind_eq_some_iff.1 c
     exact .inr ⟨a,vs,rfl,xS h1,pw fuel e vs _ j⟩
   case slice e=>
    match cs,h with
    | [.slice none 0 0],_=>exact⟨⟨none,0,0⟩,rfl,br _,cI _,(λ_=>rfl),(λa m=>by cases m)⟩
    | [.slice (some a) len cap],h=>
     simp only at h
     split at h
     .rename_i g
      refine⟨⟨some a,len,cap⟩,rfl,g.2.1,g.2.2,(λh0=>by cases h0),λr o i hi=>?_⟩
      obtain⟨elems,he,h⟩:=Option.bind_eq_some_iff.1 h
      simp only[if_true,Option.map_eq_some_iff]at h
      obtain⟨rest,p,_⟩:=h
      cases o
      have key:∃y,((w.cells? 0 (a.add (i*P.cellsOf e)) (P.cellsOf e)).bind (DataW.trod enc P w 0 (λ_=>true) true fuel e))=some y:=by
       rcases dJ i len with hl|hl
       .exact mapM_some he i (ik.2 hl)
       .obtain⟨y,c⟩:=mapM_some p (i-len) (ik.2 (by simp only at hi;omega))
        rw[show len+(i-len)=i from I]at c;exact⟨y,c⟩
      obtain⟨y,c⟩:=key;obtain⟨vs,h1,j⟩:=Option.bind_eq_some_iff.1 c;exact⟨vs,xS h1,pw fuel e vs _ j⟩
     .cases h
   case struct fs=>
    simp only at h;split at h
    .rename_i hl
     refine⟨hl,λf hf=>?_⟩;simp only[Option.map_eq_some_iff]at h;obtain⟨ys,c,_⟩:=h;obtain⟨y,c⟩:=mapM_some c f (by simpa using hf);exact pw fuel _ _ _ c
    .cases h
   case array n e=>
    simp only at h;split at h
    .rename_i hl
     refine⟨hl,λi hi=>?_⟩;simp only[Option.map_eq_some_iff]at h;obtain⟨ys,c,_⟩:=h;obtain⟨y,c⟩:=mapM_some c i (ik.2 hi);exact pw fuel _ _ _ c
    .cases h
def lr(P:Program)(w:J)(t:TypeId)(v:aa):Prop:=
 match P.underlying t with
 |some (.struct _)=>∃cs:Array aa,v=.agg cs/\∃fuel,gy P w fuel t cs.toList
 |some (.array _ _)=>∃cs:Array aa,v=.agg cs/\∃fuel,gy P w fuel t cs.toList
 |_=>∃fuel,gy P w fuel t [v]
theorem xT{r:Reach}{a:Nat}{t:TypeId}{v:aa}{d:DataW H}{ps:O MemPlace}(g3:Value.okWide P w r a t v)
 (hd:DataW.Trod enc P w 0 (λ_=>true) true t v d ps):lr P w t v:=by
 obtain⟨fuel,hd⟩:=hd;have h1:=pw fuel t _ _ hd;unfold lr;unfold Value.okWide at g3;have b:(∀cs,v≠ .agg cs)->v.cells.toList=[v]:=λh=>by cases v<;>first|rfl|exact absurd rfl (h _)
 cases ht:P.underlying t with
 |none=>
  rw[ht]at g3
  cases fuel with
  |zero=>cases hd
  |succ f=>exact⟨1,by simp[gy,ht]⟩
 |some c=>
  rw[ht]at g3
  cases c
  case struct fs=>obtain⟨cs,rfl,_,_⟩:=g3;exact⟨cs,rfl,fuel,h1⟩
  case array n e=>obtain⟨cs,rfl,_,_⟩:=g3;exact⟨cs,rfl,fuel,h1⟩
  all_goals
   refine⟨fuel,?_⟩;rw[←b]
   .exact h1
   .rintro cs rfl
    simp[Cell.okWide,Cell.ok,ht]at g3
theorem xU{w w':J}(h:ae (λ_=>False) w w'):Below w.heap.size w w':=
 ⟨h.os,h.tape,h.output,h.size,λk a=>h.block k a (λh=>h)⟩
theorem BC{f:Func}{s:ChangeSpec}{apart fresh handsOn again:ag}{W W':J}{args:Array aa}{T:TypeId}{ds gs:O (DataW H)}{before pa eE:O MemPlace}
 (cd:DataW.Whole enc P f.params.toList s.vars apart W args.toList ds gs before) (d:P.underlying T=some .bool) (e:f.resultTypes= #[T])
 (hs:s.fn H (ds++gs)={results:=[.lit (.bool true)],args:=ds})
 (ra:∀sp:Nat->ag,(∀p∈before,sp p.block=true)->DataW.TrodAll enc P W' 0 sp true f.params.toList args.toList ds pa)
 (l:∀sp:Nat->ag,(∀p∈before,sp p.block=true)->DataW.TrodVars enc P W' sp s.vars [] eE)
 (c:before=pa++eE) (m:ae (λ_=>False) W W'):
 s.post enc P f apart fresh handsOn again W args (.bool true) W':=by
 have g:=xU m;have aJ:∀p∈before,p.block<W.heap.size:=λp a=>cd.lt p a;have hold:∀p∈before,(λb=>decide (b<W.heap.size)) p.block=true:=λp a=>by simpa using aJ p a
 have h:∀ (b:Nat) (sp:Nat->ag) (hd:ag),DataW.TrodAll enc P W' b sp hd f.resultTypes.toList ((Value.bool true).resultList f.resultTypes.size) (s.fn H (ds++gs)).results []:=by
  intro b sp hd;rw[hs,e];exact trodAll_cons_mk (shut_bool d true) trodAll_mk0
 have i:∀sp:Nat->ag,(∀p∈before,sp p.block=true)->DataW.TrodAll enc P W' 0 sp true f.params.toList args.toList (s.fn H (ds++gs)).args pa:=by
  intro sp fv;rw[hs];exact ra sp fv
 have j:∀sp:Nat->ag,(∀p∈before,sp p.block=true)->DataW.TrodVars enc P W' sp s.vars (s.fn H (ds++gs)).vars eE:=by
  intro sp fv;rw[hs];exact l sp fv
 refine⟨ds,gs,before,[],pa,eE,cd,h _ _ _,i _ hold,j _ hold,World.keptBut_mono (λp a=>⟨a,?_⟩) (g.frame (· ∈before)),λ_=>?_⟩
 .rw[c,cG]at a
  exact Or.inr a
 .obtain⟨_,_,_,_,_,n,o⟩:=cd
  refine⟨ok_one e rfl (okWide_bool_mk d _),_,_,([]++pa)++eE,⟨[]++pa,eE,trodAll_append (i _ (λ_ _=>rfl)) (h _ _ _),j _ (λ_ _=>rfl),rfl,?_,?_⟩,?_⟩
  .intro b off a
   have k:MemPlace.cell b off∈before:=by rw[c];simpa using a
   rw[g.frozen (aJ _ k)];exact n b off k
  .intro q
   have:=o q;rw[c]at this;simpa using this
  .intro p a _
   rw[c];simpa using a
theorem xV{t:TypeId}(hl:laidOutB P=true)(a:P.readableRec t=true)(b:t<P.types.size){W W':J}{v:aa}{d:DataW H}{ps:O MemPlace}{sp:Nat->ag}
 (h:DataW.Trod enc P W 0 (λ_=>true) true t v d ps) (c:ae (λ_=>False) W W') (aJ:∀x∈ps,x.block<W.heap.size) (hs:∀p∈ps,sp p.block=true):
 DataW.Trod enc P W' 0 sp true t v d ps:=
 WideElems.Trod_stays hl a b h (λx hx=>(xU c).same (aJ x hx)) hs
end
end aX
namespace aX
open Go Go.RowKit
def aH(P:Program)(f:FuncId)(args:Array aa)(w:J)(Q:aa->J->Prop):Prop:=
 Calls P f args w λe w1=>∃v,e=.returned v/\Q v w1
theorem aH.use{P:Program}{f:FuncId}{args:Array aa}{w:J}{Q:aa->J->Prop}{R:Ending->J->Prop}
 (h:aH P f args w Q) (k:∀v w',Q v w'->R (.returned v) w'):Calls P f args w R:=
 Calls.mono h λ_ _ ⟨v,a,b⟩=>by subst a;exact k v _ b
theorem aH.mono{P:Program}{f:FuncId}{args:Array aa}{w:J}{Q R:aa->J->Prop}
 (h:aH P f args w Q) (k:∀v w',Q v w'->R v w'):aH P f args w R:=
 aH.use h λv _ a=>⟨v,rfl,k _ _ a⟩
abbrev Ext(w w':J):Prop:=ae (λ_=>False) w w'
theorem ae.cJ{W:Nat->Prop}{w w':J}(h:Ext w w'):ae W w w':=ae.mono h λ_ _ h=>h.elim
theorem ae.drew{W:Nat->Prop}{w w':J}(h:ae W w w'):ae W w w'.drew:=⟨h.os,h.tape,h.output,h.size,h.block⟩
theorem ae.alloc{W:Nat->Prop}{w w':J}(h:ae W w w')(o:Obj):ae W w (w'.alloc o):=
 h.trans ⟨rfl,rfl,rfl,by simp,λk a _=>Below.heap_alloc _ _ _ a⟩
theorem ae.set{W:Nat->Prop}{w w':J}(h:ae W w w'){A:ab}(b:A.block<w.heap.size->W A.block)(v:aa):ae W w (w'.setCell A v):=
 ⟨h.os,h.tape,h.output,by simp only[World.setCell,Array.size_modify];exact h.size,λk a cd=>by
  rw[Below.heap_setCell _ _ _ _ (λe=>cd (by subst e;exact b a))];exact h.block k a cd⟩
theorem ae.setCells{W:Nat->Prop}{w:J}{A:ab}(a:A.block<w.heap.size->W A.block):∀ (vs:O aa) (i:Nat) {w':J},ae W w w'->ae W w (setCells w' A i vs)
 | [],_,_,h=>h
 |v::vs,i,w',h=>by
  have b:(A.add i).block=A.block:=by unfold Addr.add;split<;>rfl
  exact ae.setCells a vs (i+1) (ae.set h (by rw[b];exact a) v)
theorem ax(b o n:Nat):(Addr.mk b o none).add n=⟨b,o+n,none⟩:=by
 unfold Addr.add;split
 .rename_i h;subst h;rfl
 .rfl
def bh(w:J)(b:Nat)(c:Array aa)(T:TypeId):Prop:=w.heap[b]? =some (.cells c T (0,0))
section
variable {w w':J}{b i:Nat}{c:Array aa}{T:TypeId}
theorem bh.lt(h:bh w b c T):b<w.heap.size:=(kq.1 h).1
theorem bh.cell(h:bh w b c T)(i:Nat):w.cell? ⟨b,i,none⟩=c[i]? :=by
 unfold bh at h;simp[World.cell?,h]
theorem bh.frozen(h:bh w b c T)(A:ab)(ar:A.block=b):w.frozen? A=false:=by
 unfold bh at h;simp[World.frozen?,ar,h]
theorem bh.ad{W:Nat->Prop}(h:bh w b c T)(hc:ae W w w')(a:¬W b):bh w' b c T:=by
 have hl:=h.lt;unfold bh at h⊢;rw[hc.block b hl a];exact h
theorem bh.ext(h:bh w b c T)(hc:Ext w w'):bh w' b c T:=h.ad hc id
theorem bh.drew(h:bh w b c T):bh w.drew b c T:=h
theorem bh.new(w:J)(c:Array aa)(T:TypeId):bh (w.alloc (.cells c T)) w.heap.size c T:=by
 show(w.heap.push (.cells c T))[w.heap.size]? =some (.cells c T (0,0));simp
theorem bh.set(h:bh w b c T)(i:Nat)(v:aa):bh (w.setCell ⟨b,i,none⟩ v) b (c.setIfInBounds i v) T:=by
 unfold bh at h⊢;simp[World.setCell,qx,h]
def fY(c:Array aa)(i:Nat):O aa->Array aa
 | []=>c
 |v::vs=>fY (c.setIfInBounds i v) (i+1) vs
theorem jl:∀ (vs:O aa) (c:Array aa) (i:Nat),(fY c i vs).size=c.size
 | [],_,_=>rfl
 |v::vs,c,i=>by simp[fY,jl vs]
theorem bh.rf:∀ (vs:O aa) {w:J}{c:Array aa} (i j:Nat),bh w b c T->bh (setCells w ⟨b,i,none⟩ j vs) b (fY c (i+j) vs) T
 | [],_,_,_,_,h=>h
 |v::vs,w,c,i,j,h=>by
  simp only[setCells,fY,ax]
  have:=bh.rf vs i (j+1) (h.set (i+j) v)
  rw[show i+(j+1)=i+j+1 from I]at this
  exact this
theorem bh.b5(h:bh w b c T)(i:Nat)(vs:O aa)(d:i+vs.length<=c.size)(a:∀v∈vs,Plain v):bz w ⟨b,i,none⟩ vs:=by
 refine⟨λj e=>?_,a⟩;rw[ax,h.cell,h.frozen _ rfl];have:i+j<c.size:=by omega
 simp[this]
end
theorem jm{B:(J->Prop)->Prop}{rest:J->Prop}(a:J->Prop)(h1:∀k:J->Prop,(∀w,a w->k w)->B k)(b:∀w,a w->rest w):bq B rest:=⟨h1 rest b⟩
theorem cl{a:Type}{B:(a->J->Prop)->Prop}{rest:a->J->Prop}(b:a->J->Prop)(h1:∀k:a->J->Prop,(∀x w,b x w->k x w)->B k)(c:∀x w,b x w->rest x w):bq B rest:=⟨h1 rest c⟩
theorem rh{a b:Type}{B:(a->b->J->Prop)->Prop}{rest:a->b->J->Prop}(c:a->b->J->Prop)(h1:∀k:a->b->J->Prop,(∀x y w,c x y w->k x y w)->B k)(d:∀x y w,c x y w->rest x y w):bq B rest:=⟨h1 rest d⟩
structure nK(k:IntKind)(w:J)(s:Y):Prop where
 le:s.len<=s.cap
 cap:s.cap<=maxLen
 nil:s.a=none->s.cap=0
 cell:∀a,s.a=some a->∀i,i<s.cap->∃n:Int,w.cell? (a.add i)=some (.int k n)/\k.min<=n/\n<=k.max
theorem BD{w:J}{A:ab}{vs:O aa}(h:cy w A 0 1=some vs):∃v,vs=[v]/\w.cell? A=some v:=by
 simp only[cy]at h;rw[add_zero']at h
 cases hc:w.cell? A with
 |none=>simp[hc]at h
 |some v=>simp[hc]at h;exact⟨v,h.symm,rfl⟩
theorem nK.of{P:Program}{w:J}{T e:TypeId}{k:IntKind}{v:aa}(h:lr P w T v)(d:P.underlying T=some (.slice e))(he:P.underlying e=some (.int k))(hc:P.cellsOf e=1):
 ∃s:Y,v=.slice s.a s.len s.cap/\nK k w s:=by
 simp only[lr,d]at h;obtain⟨fuel,h⟩:=h
 cases fuel with
 |zero=>cases h
 |succ f=>
  simp only[gy,d]at h;obtain⟨s,b,h1,l,m,o⟩:=h;refine⟨s,by simpa using b,h1,l,m,λa p i hi=>?_⟩;obtain⟨vs,g,c⟩:=o a p i hi;rw[hc,fu]at g;obtain⟨v,rfl,b⟩:=BD g
  cases f with
  |zero=>cases c
  |succ f=>
   simp only[gy,he]at c;obtain⟨n,j,q,r⟩:=c;simp only[List.cons.injEq,and_true]at j;subst j;exact⟨n,b,q,r⟩
theorem bB{n:Int}(h0: -9223372036854775808<=n)(h1:n<=9223372036854775807):IntKind.i64.wrap n=n:=by
 by_cases h:0<=n
 .exact um h h1
 .have e:n%18446744073709551616=n+18446744073709551616:=by omega
  simp[IntKind.wrap,IntKind.signed,IntKind.bits,e];omega
end aX
namespace aX
open Go Go.RowKit
structure Src(sz:Nat)(w:J)(x:Y)(xs:O aa):Prop where
 len:xs.length=x.len*sz
 nil:x.a=none->xs=[]
 rd:∀a,x.a=some a->cy w a 0 (x.len*sz)=some xs
def aZ(sz:Nat)(T:TypeId)(w:J)(s:Y)(vs:O aa):Prop:=
 vs.length=s.len*sz/\s.len<=s.cap/\s.cap<=maxLen/\
 ((s.a=none/\s.cap=0)\/∃b c,s.a=some ⟨b,0,none⟩/\bh w b c T/\c.size=s.cap*sz/\c.toList.take (s.len*sz)=vs)
def aB(s:Y)(k:Nat):Prop:=∃A,s.a=some A/\A.block=k
theorem xW{w:J}{A:ab}:∀ {n i:Nat}{vs:O aa},cy w A i n=some vs->vs.length=n
 |0,_,_,h=>by simp[cy]at h;simp[←h]
 |n+1,i,vs,h=>by
  simp only[cy]at h
  cases h1:w.cell? (A.add i) with
  |none=>simp[h1]at h
  |some v=>
   cases a:cy w A (i+1) n with
   |none=>simp[h1,a]at h
   |some us=>
    simp only[h1,a,Option.some.injEq]at h
    subst h
    simp[xW a]
theorem nL{w:J}{b:Nat}{c:Array aa}{T:TypeId}(h:bh w b c T):∀ (n o i:Nat),o+i+n<=c.size->cy w ⟨b,o,none⟩ i n=some ((c.toList.drop (o+i)).take n)
 |0,o,i,_=>by simp[cy]
 |n+1,o,i,f=>by
  have h1:o+i<c.size:=by omega
  have a:=nL h n o (i+1) I
  simp only[cy,ax,h.cell,a]
  have d:c[o+i]? =some c[o+i]:=by simp[h1]
  rw[d]
  simp only[Option.some.injEq]
  have e:c.toList.drop (o+i)=c[o+i]::c.toList.drop (o+i+1):=by
   rw[k_ (by simpa using h1)];simp
  rw[e];simp[Nat.add_assoc]
theorem aZ.src{sz:Nat}{T:TypeId}{w:J}{s:Y}{vs:O aa}(h:aZ sz T w s vs):Src sz w s vs:=by
 obtain⟨h1,i,l,g⟩:=h;refine⟨h1,λf=>?_,λa d=>?_⟩
 .rcases g with ⟨_,hc⟩|⟨b,c,e,_⟩
  .have:s.len=0:=by omega
   rw[this,Nat.zero_mul]at h1;exact l2.1 h1
  .rw[f]at e;cases e
 .rcases g with ⟨f,_⟩|⟨b,c,e,j,hs,k⟩
  .rw[f]at d;cases d
  .rw[e]at d
   cases d;have:=nL j (s.len*sz) 0 0 (by rw[hs];simp;exact np _ i);rw[this];simp[k]
section
variable {P:Program}{w:J}
theorem nM{sz:Nat}{x:Y}{xs:O aa}(h:Src sz w x xs):(Builtin.firstCells sz x.len (.slice x.a x.len x.cap)).run P w=.ok xs.toArray w:=by
 cases hx:x.a with
 |none=>rw[h.nil hx];rfl
 |some a=>
  simp only[Builtin.firstCells,loadCells];rw[run_loadCellsFrom _ _ _ _ (h.rd a hx)];simp
theorem xX(a:Nat):∀ (r c:Nat),c<=2*a+1000->Builtin.growBy a r c<=2*a+1000
 |0,c,h=>h
 |r+1,c,h=>by
  simp only[Builtin.growBy]
  split
  .exact h
  .exact xX a r _ I
theorem xY{a cap:Nat}(h:cap<a):Builtin.nextslicecap a cap<=2*a+1000:=by
 unfold Builtin.nextslicecap;split
 .omega
 .split
  .omega
  .exact xX a 4 cap I
theorem xZ{fN:Array TypeId}{dG dU jn e:TypeId}{d:TypeDesc}{sz:Nat}{s x:Y}{xs:O aa}(h0:fN[0]? =some dU)(h1:fN[1]? =some jn)
 (hs:P.underlying dU=some (.slice e)) (hx:P.underlying jn=some (.slice e)) (he:P.underlying e=some d) (g:P.cellsOf e=sz) (h:Src sz w x xs)
 (c:s.len+x.len<=s.cap) (i:∀a,s.a=some a->bz w (a.add (s.len*sz)) xs):
 Sem.run P (Builtin.append_ fN dG #[.slice s.a s.len s.cap,.slice x.a x.len x.cap]) w=
  .ok (.slice s.a (s.len+x.len) s.cap) (match s.a with|some a=>setCells w (a.add (s.len*sz)) 0 xs|none=>w):=by
 have hf:=nM (P:=P) h;have b:=gx (w:=w) he;rw[g]at b
 cases j:s.a with
 |none=>
  simp[Builtin.append_,h0,h1,cP hs,cP hx,b,Builtin.lenOf,c,hf]
 |some a=>
  have f:=i a j;have:=o8 (P:=P) (A:=a.add (s.len*sz)) xs 0 w (by simpa using f.1) f.2;simp[Builtin.append_,h0,h1,cP hs,cP hx,b,Builtin.lenOf,c,hf,this]
theorem run_append_grow{fN:Array TypeId}{dG dU jn e:TypeId}{i:TypeInfo}{z:aa}{sz:Nat}{s x:Y}{xs c:O aa}(h0:fN[0]? =some dU)(h1:fN[1]? =some jn)
 (hs:P.underlying dU=some (.slice e)) (hx:P.underlying jn=some (.slice e)) (hi:P.info? e=some i) (hd:(P.underlying e).isSome=true) (k:i.zero=some z) (l:z.cells.size=sz) (m:P.cellsOf e=sz)
 (o:i.bytes≠0) (f:Src sz w x xs) (hold:Src sz w s c) (p:s.cap<s.len+x.len) (r:(2*(s.len+x.len)+1000)*i.bytes<=281474976710656):
 ∃ (b:Nat) (rest:O aa),s.len+x.len<=b/\b<=maxLen/\rest.length=(b-(s.len+x.len))*sz/\
  Sem.run P (Builtin.append_ fN dG #[.slice s.a s.len s.cap,.slice x.a x.len x.cap]) w=
   .ok (.slice (some ⟨w.heap.size,0,none⟩) (s.len+x.len) b) (w.drew.alloc (.cells (c++xs++rest).toArray e)):=by
 obtain⟨d,hd⟩:=jf _ hd;have h:=gx (w:=w) hd;rw[m]at h;have t:=xY p;have Q:Builtin.nextslicecap (s.len+x.len) s.cap*i.bytes<=281474976710656:=eC (np _ t) r;have R:s.len+x.len<=281474976710656:=by
  have:s.len+x.len<=(2*(s.len+x.len)+1000)*i.bytes:=by
   have:=Nat.mul_le_mul_left (2*(s.len+x.len)+1000) (Nat.one_le_iff_ne_zero.2 o);omega
  omega
 let q:Question:=.appendCap (s.len+x.len) s.cap e
 let b:Nat:=q.cut (w.tape w.drawn q)
 have u:q.forced=false:=rfl;have v:s.len+x.len<=b:=by show s.len+x.len<=s.len+x.len+_;omega
 have A:b<=maxLen:=by
  show s.len+x.len+_%(2^63-(s.len+x.len))<=2^63-1;have:=g1 (w.tape w.drawn q) (y:=2^63-(s.len+x.len)) I;omega
 have B:Src sz w.drew x xs:=⟨f.len,f.nil,λa g=>by
  have:=f.rd a g;have hc:ae (λ_=>False) w w.drew:=ae.drew (.refl _ _);exact hc.cy (by simp) _ _ _ this⟩
 have C:Src sz w.drew s c:=⟨hold.len,hold.nil,λa g=>by
  have:=hold.rd a g;have hc:ae (λ_=>False) w w.drew:=ae.drew (.refl _ _);exact hc.cy (by simp) _ _ _ this⟩
 have hf:=nM (P:=P) B;have D:=nM (P:=P) C;have E:∀n (w':J),(askRoom n).run P w'=.ok () w':=λn w'=>by unfold askRoom;split<;>rfl
 have F:(choose q).run P w=.ok b w.drew:=by
  show Sem.run P (.choose q .pure) w=_;simp only[Sem.run,u,ft,if_false];rfl
 have j:=λw:J=>l7 (w:=w) hi;refine⟨b,(Builtin.zeroCells z.cells (b-(s.len+x.len))).toList,v,A,by simp[Builtin.zeroCells,l],?_⟩;have G:¬(s.len+x.len<=s.cap):=by omega
 have H:¬((s.len+x.len:Nat):Int)>IntKind.i64.max:=by
  simp[IntKind.max,IntKind.signed,IntKind.bits];omega
 have K:¬(281474976710656<Builtin.nextslicecap (s.len+x.len) s.cap*i.bytes):=by omega
 have L:¬Builtin.nextslicecap (s.len+x.len) s.cap*i.bytes>2^48:=by simpa using K
 unfold Builtin.append_;simp only[qA,l1,ud,h0,h1,Sem.run_bind,cP hs,cP hx,Result.andThen,h,Builtin.lenOf,Sem.run_pure,G,if_false,ft,j,H,false_and,L,Bool.not_false,if_true];have M:Sem.run P (choose (.appendCap (s.len+x.len) s.cap e)) w=.ok b w.drew:=F;simp only[M,E,hf,D,zeroValue,j,k,Sem.run_bind,Result.andThen,Sem.run_pure,newRow,newObj,Sem.run];have N:w.drew.heap.size=w.heap.size:=rfl;rw[N]
 congr 1
 show w.drew.alloc _=w.drew.alloc _
 congr 2
 simp
theorem ri:∀ (vs:O aa) (c:Array aa) (i:Nat),i+vs.length<=c.size->(fY c i vs).toList.take (i+vs.length)=c.toList.take i++vs
 | [],c,i,_=>by simp[fY]
 |v::vs,c,i,h=>by
  simp only[fD]at h
  simp only[fY]
  have:=ri vs (c.setIfInBounds i v) (i+1) (by simpa using (by omega:i+1+vs.length<=c.size))
  rw[show i+(v::vs).length=i+1+vs.length by simp;omega,this]
  have hi:i<c.size:=by omega
  have a:(c.setIfInBounds i v).toList.take (i+1)=c.toList.take i++ [v]:=by
   rw[iL (by simpa using hi)];have b:(List.take i c.toList).set i v=List.take i c.toList:=by
    apply List.set_eq_of_length_le;simp only[cC];omega
   simp[List.take_set,b]
  rw[a];simp
theorem BE{fN:Array TypeId}{dG dU jn e:TypeId}{i:TypeInfo}{z:aa}{sz:Nat}{s x:Y}{xs vs:O aa}(h0:fN[0]? =some dU)(h1:fN[1]? =some jn)
 (hs:P.underlying dU=some (.slice e)) (hx:P.underlying jn=some (.slice e)) (hi:P.info? e=some i) (hd:(P.underlying e).isSome=true) (B:i.zero=some z) (C:z.cells.size=sz) (r:P.cellsOf e=sz)
 (D:i.bytes≠0) (f:Src sz w x xs) (t:aZ sz e w s vs) (E:∀v∈xs,Plain v) (F:(2*(s.len+x.len)+1000)*i.bytes<=281474976710656):
 ∃ (g:Y) (w':J),Sem.run P (Builtin.append_ fN dG #[.slice s.a s.len s.cap,.slice x.a x.len x.cap]) w=.ok (.slice g.a g.len g.cap) w'/\
  aZ sz e w' g (vs++xs)/\g.len=s.len+x.len/\ae (aB s) w w'/\(∀k,aB g k->aB s k\/w.heap.size<=k):=by
 have hold:=t.src;obtain⟨av,S,G,u⟩:=t;by_cases h:s.len+x.len<=s.cap
 .have H:∀a,s.a=some a->bz w (a.add (s.len*sz)) xs:=by
   intro a j;rcases u with ⟨n,_⟩|⟨b,c,l,o,m,y⟩
   .rw[n]at j;cases j
   .rw[l]at j
    cases j;rw[ax];refine o.b5 _ _ ?_ E;rw[m,f.len,cH,←jB];exact np _ h
  obtain⟨d,hd⟩:=jf _ hd;have p:=xZ (dG:=dG) h0 h1 hs hx hd r f h H;refine⟨⟨s.a,s.len+x.len,s.cap⟩,_,p,?_,rfl,?_,λk q=>.inl q⟩
  .refine⟨by simp[av,f.len,jB],h,G,?_⟩
   rcases u with ⟨n,hc⟩|⟨b,c,l,o,m,y⟩
   .exact .inl ⟨n,hc⟩
   .refine .inr ⟨b,fY c (s.len*sz) xs,l,?_,by rw[jl];exact m,?_⟩
    .simp only[l,ax]
     have:=bh.rf (T:=e) xs (0+s.len*sz) 0 o;simpa using this
    .have K:s.len*sz+xs.length<=c.size:=by
      rw[m,f.len,←jB];exact np _ h
     have:=ri xs c (s.len*sz) K;rw[f.len,←jB]at this;rw[this,y]
  .cases L:s.a with
   |none=>exact .refl _ _
   |some a=>
    refine ae.setCells (λ_=>?_) xs 0 (.refl _ _);exact⟨a,L,by unfold Addr.add;split<;>rfl⟩
 .obtain⟨M,rest,N,Q,R,p⟩:=run_append_grow (dG:=dG) h0 h1 hs hx hi hd B C r D f hold I F
  refine⟨⟨some ⟨w.heap.size,0,none⟩,s.len+x.len,M⟩,_,p,?_,rfl,ae.alloc (ae.drew (.refl _ _)) _,?_⟩
  .refine⟨by simp[av,f.len,jB],N,Q,.inr ⟨w.heap.size,(vs++xs++rest).toArray,rfl,bh.new w.drew _ _,?_,?_⟩⟩
   .simp[av,f.len,R]
    rw[←jB,←jB]
    congr 1
    omega
   .have:(vs++xs).length=(s.len+x.len)*sz:=by simp[av,f.len,jB]
    show List.take ((s.len+x.len)*sz) (vs++xs++rest).toArray.toList=vs++xs;rw[←this];exact List.take_left
  .rintro k ⟨A,ar,q⟩
   cases ar;exact .inr (by simpa using q▸br _)
end
theorem aZ.ad{sz:Nat}{T:TypeId}{w w':J}{s:Y}{vs:O aa}{W:Nat->Prop}(h:aZ sz T w s vs)(hc:ae W w w')(e:∀k,aB s k->¬W k):aZ sz T w' s vs:=by
 obtain⟨h1,f,g,a⟩:=h;refine⟨h1,f,g,?_⟩;rcases a with a|⟨b,c,d,i,j,l⟩
 .exact .inl a
 .exact .inr ⟨b,c,d,i.ad hc (e b ⟨_,d,rfl⟩),j,l⟩
theorem Src.ad{sz:Nat}{w w':J}{s:Y}{vs:O aa}{W:Nat->Prop}(h:Src sz w s vs)(hc:ae W w w')(c:∀k,aB s k->¬W k):Src sz w' s vs:=
 ⟨h.len,h.nil,λa b=>hc.cy (c _ ⟨a,b,rfl⟩) _ _ _ (h.rd a b)⟩
theorem aZ.lt{sz:Nat}{T:TypeId}{w:J}{s:Y}{vs:O aa}(h:aZ sz T w s vs):∀k,aB s k->k<w.heap.size:=by
 rintro k ⟨A,ar,rfl⟩;obtain⟨_,_,_,a⟩:=h;rcases a with ⟨d,_⟩|⟨b,c,e,f,_⟩
 .rw[d]at ar;cases ar
 .rw[e]at ar;cases ar;exact f.lt
theorem aZ.cell{T:TypeId}{w:J}{s:Y}{vs:O aa}(h:aZ 1 T w s vs){i:Nat}{v:aa}(d:vs[i]? =some v):
 ∃b c,s.a=some ⟨b,0,none⟩/\bh w b c T/\c.size=s.cap/\i<s.len/\i<c.size/\w.cell? ⟨b,i,none⟩=some v/\c.toList.take s.len=vs:=by
 obtain⟨h1,k,l,g⟩:=h;have hi:i<s.len:=by
  have:=(jA.1 d).1;omega
 rcases g with ⟨_,hc⟩|⟨b,c,j,e,f,ht⟩
 .omega
 .rw[fu]at f ht
  refine⟨b,c,j,e,f,hi,I,?_,ht⟩;rw[e.cell];rw[←ht,qB]at d;rw[if_pos hi]at d;simpa using d
theorem aZ.set{T:TypeId}{w:J}{s:Y}{vs:O aa}{b i:Nat}(h:aZ 1 T w s vs)(d:s.a=some ⟨b,0,none⟩)(v:aa):
 aZ 1 T (w.setCell ⟨b,i,none⟩ v) s (vs.set i v):=by
 obtain⟨h1,f,g,j⟩:=h;refine⟨by simpa using h1,f,g,.inr ?_⟩;rcases j with ⟨k,_⟩|⟨n,c,e,l,m,ht⟩
 .rw[k]at d;cases d
 .rw[d]at e
  cases e;refine⟨b,_,d,l.set i v,by simpa using m,?_⟩;rw[←ht];simp[List.take_set]
def x0(P:Program)(dU e:TypeId)(sz bytes:Nat):ag:=
 match P.underlying dU,P.info? e,P.underlying e with
 |some (.slice a),some i,some _=>a==e&&(match i.zero with|some z=>z.cells.size==sz|none=>false)&&P.cellsOf e==sz&&i.bytes==bytes&&bytes !=0
 |_,_,_=>false
structure hF(P:Program)(dU e:TypeId)(sz bytes:Nat):Prop where
 h:x0 P dU e sz bytes=true
theorem hF.out{P:Program}{dU e:TypeId}{sz bytes:Nat}(h:hF P dU e sz bytes):
 P.underlying dU=some (.slice e)/\∃i z,P.info? e=some i/\(P.underlying e).isSome=true/\i.zero=some z/\z.cells.size=sz/\P.cellsOf e=sz/\i.bytes=bytes/\bytes≠0:=by
 have h:=h.h;unfold x0 at h;split at h
 .rename_i l i d h1 b c
  simp only[dO,jc,bne_iff_ne]at h;obtain⟨⟨⟨⟨rfl,a⟩,f⟩,g⟩,j⟩:=h;split at a
  .rename_i z k
   exact⟨h1,i,z,b,by simp[c],k,by simpa using a,f,g,j⟩
  .cases a
 .cases h
theorem hF.append{P:Program}{w:J}{dU e dG:TypeId}{sz bytes:Nat}{s x:Y}{xs vs:O aa}(h:hF P dU e sz bytes)
 (c:Src sz w x xs) (d:aZ sz e w s vs) (f:∀v∈xs,Plain v) (g:(2*(s.len+x.len)+1000)*bytes<=281474976710656):
 ∃ (b:Y) (w':J),Sem.run P (Builtin.append_ #[dU,dU] dG #[.slice s.a s.len s.cap,.slice x.a x.len x.cap]) w=.ok (.slice b.a b.len b.cap) w'/\
  aZ sz e w' b (vs++xs)/\b.len=s.len+x.len/\ae (aB s) w w'/\(∀k,aB b k->aB s k\/w.heap.size<=k):=by
 obtain⟨h1,i,z,j,l,m,n,o,rfl,p⟩:=h.out;exact BE rfl rfl h1 h1 j l m n o p c d f g
theorem Src.new{sz:Nat}{T:TypeId}(w:J)(xs:O aa)(n:Nat)(b:xs.length=n*sz):Src sz (w.alloc (.cells xs.toArray T)) ⟨some ⟨w.heap.size,0,none⟩,n,n⟩ xs:=by
 refine⟨b,(λh=>by cases h),λa c=>?_⟩
 cases c;rw[nL (bh.new w xs.toArray T) _ _ _ (by simp[b])];simp[←b]
theorem aZ.new{sz:Nat}{T:TypeId}(w:J)(xs:O aa)(n:Nat)(a:xs.length=n*sz)(b:n<=maxLen):aZ sz T (w.alloc (.cells xs.toArray T)) ⟨some ⟨w.heap.size,0,none⟩,n,n⟩ xs:=by
 refine⟨a,br _,b,.inr ⟨_,_,rfl,bh.new w _ _,by simp[a],?_⟩⟩;show List.take (n*sz) xs=xs;rw[←a,il]
theorem aZ.none(sz:Nat)(T:TypeId)(w:J):aZ sz T w ⟨.none,0,0⟩ []:=⟨by simp,br _,by decide,.inl ⟨rfl,rfl⟩⟩
theorem gi(k:Nat):¬aB ⟨.none,0,0⟩ k:=by rintro⟨A,ar,_⟩;cases ar
theorem ml{A:ab}{n m k:Nat}:aB ⟨some A,n,m⟩ k↔A.block=k:=⟨λ⟨B,a,h⟩=>by cases a;exact h,λh=>⟨_,rfl,h⟩⟩
theorem Src.alloc{sz:Nat}{w:J}{s:Y}{vs:O aa}(h:Src sz w s vs)(o:Obj):Src sz (w.alloc o) s vs:=h.ad (W:=λ_=>False) (ae.alloc (.refl _ _) o) (λ_ _ h=>h)
theorem aZ.ext{sz:Nat}{T:TypeId}{w w':J}{s:Y}{vs:O aa}(h:aZ sz T w s vs)(hc:Ext w w'):aZ sz T w' s vs:=h.ad hc λ_ _ h=>h
theorem Src.ext{sz:Nat}{w w':J}{s:Y}{vs:O aa}(h:Src sz w s vs)(hc:Ext w w'):Src sz w' s vs:=h.ad hc λ_ _ h=>h
theorem hF.push{P:Program}{w:J}{dU e dG:TypeId}{sz bytes:Nat}{s:Y}{vs xs:O aa}(h:hF P dU e sz bytes)(hx:xs.length=sz)
 (c:aZ sz e w s vs) (d:∀v∈xs,Plain v) (f:(2*(s.len+1)+1000)*bytes<=281474976710656):
 ∃ (b:Y) (w':J),Sem.run P (Builtin.append_ #[dU,dU] dG #[.slice s.a s.len s.cap,.slice (some ⟨w.heap.size,0,none⟩) 1 1]) (w.alloc (.cells xs.toArray e))=.ok (.slice b.a b.len b.cap) w'/\
  aZ sz e w' b (vs++xs)/\b.len=s.len+1/\ae (aB s) w w'/\(∀k,aB b k->aB s k\/w.heap.size<=k):=by
 have hc:Ext w (w.alloc (.cells xs.toArray e)):=ae.alloc (.refl _ _) _;obtain⟨b,w',h1,g,i,j,l⟩:=h.append (dG:=dG) (Src.new (T:=e) w xs 1 (by simpa using hx)) (c.ext hc) d f;exact⟨b,w',h1,g,i,(ae.cJ hc).trans j,λk m=>(l k m).imp id (λh=>by simp at h;omega)⟩
theorem hF.clone{P:Program}{w:J}{dU e dG:TypeId}{sz bytes:Nat}{x:Y}{xs:O aa}(h:hF P dU e sz bytes)
 (n:Src sz w x xs) (r:∀v∈xs,Plain v) (t:(2*x.len+1000)*bytes<=281474976710656):
 ∃ (f:Y) (w':J),Sem.run P (Builtin.append_ #[dU,dU] dG #[.slice (some ⟨w.heap.size,0,none⟩) 0 0,.slice x.a x.len x.cap]) (w.alloc (.cells #[] e))=.ok (.slice f.a f.len f.cap) w'/\
  aZ sz e w' f xs/\f.len=x.len/\Ext w w'/\(∀k,aB f k->w.heap.size<=k)/\f.a.isSome=true:=by
 have u:=aZ.new (sz:=sz) (T:=e) w [] 0 (by simp) (by decide);have o:=n.alloc (.cells #[] e);obtain⟨f,w',h1,j,p,g,y⟩:=h.append (dG:=dG) o u r (by simpa using t);refine⟨f,w',h1,by simpa using j,by simpa using p,?_,λk l=>?_,?_⟩
 .refine⟨g.os.trans rfl,g.tape.trans rfl,g.output.trans rfl,?_,λk l _=>?_⟩
  .have:=g.size;simp at this;omega
  .rw[g.block k (by simp;omega) (by rintro⟨A,ar,h⟩;cases ar;simp at h;omega)]
   exact Below.heap_alloc _ _ _ l
 .rcases y k l with ⟨A,ar,h⟩|h
  .cases ar;simp at h;omega
  .simp at h;omega
 .obtain⟨_,i,z,G,B,H,I,C,rfl,K⟩:=h.out
  have m:=j.2.2.2;rcases m with ⟨D,hc⟩|⟨b,c,m,_⟩
  .
   exfalso;have hl:=j.2.1;have q:x.len=0:=by simp at p;omega
   have E:xs=[]:=l2.1 (by rw[n.len,q,Nat.zero_mul]);obtain⟨d,hd⟩:=jf _ B;have:=xZ (P:=P) (w:=w.alloc (.cells #[] e)) (fN:= #[dU,dU]) (dG:=dG) (s:=⟨some ⟨w.heap.size,0,Option.none⟩,0,0⟩) rfl rfl h.out.1 h.out.1 hd C o (by simp[q]) (λa _=>by
    rw[E];exact⟨λi hi=>by simp at hi,λv F=>by simp at F⟩)
   rw[this]at h1;simp only[Result.ok.injEq,Value.slice.injEq]at h1;rw[D]at h1
   cases h1.1.1
  .rw[m];rfl
theorem nK.src{k:IntKind}{w:J}{s:Y}(h:nK k w s):∃ns:O Int,ns.length=s.len/\(∀n∈ns,k.min<=n/\n<=k.max)/\Src 1 w s (ns.map (.int k)):=by
 obtain⟨o,p,e,f⟩:=h
 cases b:s.a with
 |none=>
  have q:=e b;exact⟨[],by simp;omega,by simp,by simp;omega,λ_=>rfl,(λa h=>by rw[b]at h;cases h)⟩
 |some A=>
  have key:∀n i,i+n<=s.cap->∃ns:O Int,ns.length=n/\(∀n∈ns,k.min<=n/\n<=k.max)/\cy w A i n=some (ns.map (.int k)):=by
   intro n
   induction n with
   |zero=>intro i _;exact⟨[],rfl,by simp,rfl⟩
   |succ n g=>
    intro i hi;obtain⟨ns,h1,c,d⟩:=g (i+1) I;obtain⟨v,j,l,m⟩:=f A b i I;refine⟨v::ns,by simp[h1],?_,by simp[cy,j,d]⟩;intro x hx;rcases cR.1 hx with rfl|hx
    .exact⟨l,m⟩
    .exact c x hx
  obtain⟨ns,h1,c,d⟩:=key s.len 0 I;exact⟨ns,h1,c,by simp[h1],(λh=>by rw[b]at h;cases h),(λa h=>by rw[b]at h;cases h;simpa using d)⟩
theorem BF(k:IntKind)(ns:O Int):∀v∈ns.map (Value.int k),Plain v:=by
 intro v a;obtain⟨n,_,rfl⟩:=dZ.1 a;trivial
theorem aZ.at{T:TypeId}{w:J}{s:Y}{vs:O aa}(h:aZ 1 T w s vs){i:Nat}{v:aa}(g:vs[i]? =some v):
 ∃A:ab,s.a=some A/\((0:Int)<=(i:Int)/\(i:Int)<((s.len:Nat):Int))/\w.cell? (A.add (Int.toNat (i:Int)*1))=some v/\w.frozen? (A.add (Int.toNat (i:Int)*1))=false/\
  aB s (A.add (Int.toNat (i:Int)*1)).block/\∀d,aZ 1 T (w.setCell (A.add (Int.toNat (i:Int)*1)) d) s (vs.set i d):=by
 obtain⟨b,c,f,j,k,hi,l,hc,_⟩:=h.cell g;have e:(Addr.mk b 0 Option.none).add (Int.toNat (i:Int)*1)=⟨b,i,Option.none⟩:=by rw[fu,du,ax,cH]
 exact⟨_,f,⟨I,I⟩,by rw[e];exact hc,by rw[e];exact j.frozen _ rfl,by rw[e];exact⟨_,f,rfl⟩,λd=>by rw[e];exact h.set f d⟩
end aX
namespace aX
open Go Go.RowKit
def x1(ns:O Int):ByteArray:=ns.foldl (λr n=>r.push (UInt8.ofNat n.toNat)) ByteArray.empty
theorem BG{P:Program}{w:J}{src dst e:TypeId}{s:Y}{ns:O Int}(hs:P.underlying src=some (.slice e))(he:P.underlying e=some (.int .u8))(hd:P.underlying dst=some .string)
 (h:Src 1 w s (ns.map (.int .u8))):Sem.run P (convert src dst (.slice s.a s.len s.cap)) w=.ok (.string (x1 ns)) w:=by
 rw[run_convert_bytes_string w src dst e s.a s.len s.cap hs he hd]
 cases b:s.a with
 |none=>
  have:=h.nil b;have d:ns=[]:=by simpa using this
  subst d;rfl
 |some A=>
  have c:=h.rd A b;rw[fu]at c;exact run_bytesToString w A s.len s.cap ns (by
   unfold loadCells;rw[run_loadCellsFrom _ _ _ _ c];simp)
theorem x2{P:Program}{e:TypeId}{v:aa}(a:((P.info? e).bind (·.zero)).map (·.cells)=some #[v])(hc:P.cellsOf e=1)(n:Nat):gq P e n=(List.replicate n v).toArray:=by
 unfold gq;rw[hc]
 cases hi:(P.info? e).bind (·.zero) with
 |none=>rw[hi]at a;cases a
 |some z=>
  rw[hi]at a;simp only[kr,Option.some.injEq]at a;simp only[oX,a,fu];apply Array.ext
  .simp
  .intro i h1 b
   have c:n≠0:=by
    intro h;subst h;simp at b
   simp[c,Nat.mod_one]
section
variable {P:Program}{w:J}{T:TypeId}{fuel:Nat}{cs:O aa}
theorem uK{k:IntKind}(h:gy P w fuel T cs)(a:P.underlying T=some (.int k)):∃n:Int,cs=[.int k n]/\k.min<=n/\n<=k.max:=by
 cases fuel with
 |zero=>cases h
 |succ f=>simpa only[gy,a] using h
theorem x3{fs:Array Field}(h:gy P w fuel T cs)(a:P.underlying T=some (.struct fs)):cs.length=P.cellsOf T/\∀f∈fs,∃fuel,gy P w fuel f.type ((cs.drop f.offset).take (P.cellsOf f.type)):=by
 cases fuel with
 |zero=>cases h
 |succ f=>
  simp only[gy,a]at h;exact⟨h.1,λg hg=>⟨f,h.2 g hg⟩⟩
end
theorem rj{w:J}{A:ab}:∀ {n i:Nat}{vs:O aa}{j:Nat}{v:aa},cy w A i n=some vs->vs[j]? =some v->w.cell? (A.add (i+j))=some v
 |0,i,vs,j,v,h,a=>by simp[cy]at h;subst h;simp at a
 |n+1,i,vs,j,v,h,a=>by
  simp only[cy]at h
  cases h1:w.cell? (A.add i) with
  |none=>simp[h1]at h
  |some u=>
   cases b:cy w A (i+1) n with
   |none=>simp[h1,b]at h
   |some us=>
    simp only[h1,b,Option.some.injEq]at h
    subst h
    cases j with
    |zero=>simp at a;subst a;exact h1
    |succ j=>
     have:=rj b (j:=j) (by simpa using a)
     rw[show i+(j+1)=i+1+j from I]
     exact this
theorem Src.at{w:J}{s:Y}{vs:O aa}(h:Src 1 w s vs){i:Nat}{v:aa}(b:vs[i]? =some v):
 ∃A:ab,s.a=some A/\((0:Int)<=(i:Int)/\(i:Int)<((s.len:Nat):Int))/\w.cell? (A.add (Int.toNat (i:Int)*1))=some v:=by
 have hi:i<vs.length:=(jA.1 b).1;have hl:=h.len
 cases c:s.a with
 |none=>have:=h.nil c;subst this;simp at hi
 |some A=>
  have:=rj (h.rd A c) b;exact⟨A,rfl,⟨I,I⟩,by rw[fu,du];simpa using this⟩
end aX
