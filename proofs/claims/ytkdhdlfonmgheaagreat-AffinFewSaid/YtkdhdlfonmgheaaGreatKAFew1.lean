/- What a Go program of the model must show, as text that can be read; sound against the kit. -/
import Derived.Below
import Derived.KernelRfl
import Derived.Laws.BytesString
import Derived.OpenShut
import Derived.OrdersHeld
import Derived.ProofKit
import Derived.StillTail
import Derived.Tactics
import Derived.WalkKit
import Derived.WideKeyArgs
namespace Go
theorem bl:type_of% @Nat.le_refl:=@Nat.le_refl
theorem cu:type_of% @of_decide_eq_true:=@of_decide_eq_true
theorem cA:type_of% @decide_eq_true_eq:=@decide_eq_true_eq
theorem cI:type_of% @List.getElem_mem:=@List.getElem_mem
theorem cK:type_of% @List.length_take:=@List.length_take
theorem cL:type_of% @List.mem_append:=@List.mem_append
theorem cM:type_of% @List.length_append:=@List.length_append
theorem cQ:type_of% @of_decide_eq_false:=@of_decide_eq_false
theorem cU:type_of% @Nat.zero_add:=@Nat.zero_add
theorem cX:type_of% @Nat.zero_le:=@Nat.zero_le
theorem cY:type_of% @List.append_assoc:=@List.append_assoc
theorem c7:type_of% @List.mem_cons:=@List.mem_cons
theorem dc:type_of% @List.length_drop:=@List.length_drop
theorem dd:type_of% @List.length_set:=@List.length_set
theorem dn:type_of% @Bool.and_eq_true:=@Bool.and_eq_true
theorem dw:type_of% @decide_eq_true:=@decide_eq_true
theorem dG:type_of% @List.length_map:=@List.length_map
theorem dI:type_of% @List.getElem?_eq_getElem:=@List.getElem?_eq_getElem
theorem dJ:type_of% @List.take_of_length_le:=@List.take_of_length_le
theorem dO:type_of% @Int.toNat_natCast:=@Int.toNat_natCast
theorem ed:type_of% @Nat.lt_or_ge:=@Nat.lt_or_ge
theorem ei:type_of% @Nat.le_trans:=@Nat.le_trans
theorem eP:type_of% @List.mem_of_mem_drop:=@List.mem_of_mem_drop
theorem eQ:type_of% @List.mem_of_mem_take:=@List.mem_of_mem_take
theorem eX:type_of% @List.getElem_set_ne:=@List.getElem_set_ne
theorem e0:type_of% @List.getElem_of_mem:=@List.getElem_of_mem
theorem e5:type_of% @Bool.not_eq_true:=@Bool.not_eq_true
theorem e6:type_of% @List.mem_map:=@List.mem_map
theorem ff:type_of% @List.not_mem_nil:=@List.not_mem_nil
theorem fl:type_of% @Bool.false_eq_true:=@Bool.false_eq_true
theorem fm:type_of% @Nat.lt_of_lt_of_le:=@Nat.lt_of_lt_of_le
theorem fo:type_of% @List.mem_singleton:=@List.mem_singleton
theorem fp:type_of% @or_false:=@or_false
theorem fA:type_of% @Bool.eq_iff_iff:=@Bool.eq_iff_iff
theorem fB:type_of% @List.map_append:=@List.map_append
theorem fH:type_of% @Nat.mul_one:=@Nat.mul_one
theorem fI:type_of% @List.getD_eq_getElem?_getD:=@List.getD_eq_getElem?_getD
theorem fY:type_of% @List.append_nil:=@List.append_nil
theorem gf:type_of% @List.mem_filter:=@List.mem_filter
theorem gg:type_of% @List.take_append_drop:=@List.take_append_drop
theorem gD:type_of% @List.mem_append_right:=@List.mem_append_right
theorem gZ:type_of% @Nat.eq_of_beq_eq_true:=@Nat.eq_of_beq_eq_true
theorem g0:type_of% @List.map_cons:=@List.map_cons
theorem g1:type_of% @List.getElem_set_self:=@List.getElem_set_self
theorem hG:type_of% @Nat.mod_lt:=@Nat.mod_lt
theorem hJ:type_of% @List.length_cons:=@List.length_cons
theorem h4:type_of% @Bool.true_and:=@Bool.true_and
theorem h5:type_of% @Bool.or_eq_true:=@Bool.or_eq_true
theorem h6:type_of% @List.length_singleton:=@List.length_singleton
theorem h7:type_of% @List.mem_of_find?_eq_some:=@List.mem_of_find?_eq_some
theorem iv:type_of% @List.mem_append_left:=@List.mem_append_left
theorem iw:type_of% @decide_eq_false:=@decide_eq_false
theorem iI:type_of% @Bool.not_eq_true':=@Bool.not_eq_true'
theorem iJ:type_of% @List.mem_cons_of_mem:=@List.mem_cons_of_mem
theorem iK:type_of% @Nat.add_mul:=@Nat.add_mul
theorem iL:type_of% @Nat.mod_eq_of_lt:=@Nat.mod_eq_of_lt
theorem iM:type_of% @List.find?_eq_none:=@List.find?_eq_none
theorem iN:type_of% @List.find?_some:=@List.find?_some
theorem iO:type_of% @List.getElem?_append_right:=@List.getElem?_append_right
theorem iP:type_of% @List.count_pos_iff:=@List.count_pos_iff
theorem jh:type_of% @List.mem_range:=@List.mem_range
theorem ji:type_of% @beq_iff_eq:=@beq_iff_eq
theorem jj:type_of% @List.take_length:=@List.take_length
theorem jk:type_of% @List.drop_zero:=@List.drop_zero
theorem jl:type_of% @Nat.min_eq_left:=@Nat.min_eq_left
theorem jL:type_of% @List.getElem?_eq_some_iff:=@List.getElem?_eq_some_iff
theorem jM:type_of% @List.drop_drop:=@List.drop_drop
theorem j9:type_of% @decide_eq_false_iff_not:=@decide_eq_false_iff_not
theorem j_:type_of% @List.take_succ_eq_append_getElem:=@List.take_succ_eq_append_getElem
theorem kc:type_of% @List.nil_append:=@List.nil_append
theorem kB:type_of% @Array.getElem?_eq_some_iff:=@Array.getElem?_eq_some_iff
theorem kC:type_of% @Option.map_some:=@Option.map_some
theorem kD:type_of% @List.filter_eq_self:=@List.filter_eq_self
theorem kE:type_of% @List.filter_append:=@List.filter_append
theorem kF:type_of% @List.pairwise_cons:=@List.pairwise_cons
theorem kG:type_of% @Bool.false_and:=@Bool.false_and
theorem k8:type_of% @Nat.add_zero:=@Nat.add_zero
theorem k9:type_of% @Nat.testBit_or:=@Nat.testBit_or
theorem k_:type_of% @Bool.false_or:=@Bool.false_or
theorem ld:type_of% @Nat.le_of_ble_eq_true:=@Nat.le_of_ble_eq_true
theorem lf:type_of% @List.perm_middle:=@List.perm_middle
theorem lg:type_of% @List.sum_append:=@List.sum_append
theorem lh:type_of% @List.pairwise_iff_getElem:=@List.pairwise_iff_getElem
theorem lj:type_of% @List.getElem?_map:=@List.getElem?_map
theorem lk:type_of% @List.mem_or_eq_of_mem_set:=@List.mem_or_eq_of_mem_set
theorem ll:type_of% @List.length_nil:=@List.length_nil
theorem ln:type_of% @List.length_replicate:=@List.length_replicate
theorem lp:type_of% @Nat.eq_zero_or_pos:=@Nat.eq_zero_or_pos
theorem l9:type_of% @List.getElem?_cons_zero:=@List.getElem?_cons_zero
theorem l_:type_of% @List.drop_eq_getElem_cons:=@List.drop_eq_getElem_cons
theorem mb:type_of% @List.map_drop:=@List.map_drop
theorem mc:type_of% @List.map_take:=@List.map_take
theorem me:type_of% @List.getElem?_eq_none:=@List.getElem?_eq_none
theorem mf:type_of% @List.count_append:=@List.count_append
theorem nq:type_of% @Option.isSome_iff_exists:=@Option.isSome_iff_exists
theorem nr:type_of% @List.all_eq_true:=@List.all_eq_true
theorem nt:type_of% @Nat.sub_self:=@Nat.sub_self
theorem nu:type_of% @List.length_eq_zero_iff:=@List.length_eq_zero_iff
theorem nv:type_of% @Nat.mul_le_mul_right:=@Nat.mul_le_mul_right
theorem nw:type_of% @List.map_map:=@List.map_map
theorem nx:type_of% @Option.some_get:=@Option.some_get
theorem ny:type_of% @UInt8.toNat_lt:=@UInt8.toNat_lt
theorem nz:type_of% @Bool.not_eq_false':=@Bool.not_eq_false'
theorem nA:type_of% @UInt8.toNat_ofNat':=@UInt8.toNat_ofNat'
theorem nB:type_of% @List.count_cons:=@List.count_cons
theorem nC:type_of% @List.count_nil:=@List.count_nil
theorem o3:type_of% @List.cons_append:=@List.cons_append
theorem o4:type_of% @List.any_eq_false:=@List.any_eq_false
theorem o5:type_of% @List.filterMap_cons:=@List.filterMap_cons
theorem o6:type_of% @List.filterMap_append:=@List.filterMap_append
theorem o7:type_of% @Nat.testBit_two_pow:=@Nat.testBit_two_pow
theorem o8:type_of% @Bool.or_eq_false_iff:=@Bool.or_eq_false_iff
theorem o9:type_of% @List.getElem_set:=@List.getElem_set
theorem o_:type_of% @List.filter_eq_nil_iff:=@List.filter_eq_nil_iff
theorem pb:type_of% @List.pairwise_append:=@List.pairwise_append
theorem pc:type_of% @List.length_zip:=@List.length_zip
theorem pd:type_of% @List.exists_mem_of_ne_nil:=@List.exists_mem_of_ne_nil
theorem pe:type_of% @List.perm_append_comm:=@List.perm_append_comm
theorem pg:type_of% @List.getElem_take:=@List.getElem_take
theorem ph:type_of% @List.getElem_append_left:=@List.getElem_append_left
theorem pj:type_of% @List.toList_toArray:=@List.toList_toArray
theorem pk:type_of% @Int.tmod_eq_emod_of_nonneg:=@Int.tmod_eq_emod_of_nonneg
theorem pn:type_of% @List.length_filter_le:=@List.length_filter_le
theorem qM:type_of% @Array.getElem?_modify:=@Array.getElem?_modify
theorem qN:type_of% @List.getElem?_drop:=@List.getElem?_drop
theorem qO:type_of% @List.range_eq_range':=@List.range_eq_range'
theorem qP:type_of% @Option.map_eq_some_iff:=@Option.map_eq_some_iff
theorem qQ:type_of% @List.getElem?_toArray:=@List.getElem?_toArray
theorem qR:type_of% @List.getElem?_take:=@List.getElem?_take
theorem qS:type_of% @List.mem_cons_self:=@List.mem_cons_self
theorem qT:type_of% @List.ext_getElem:=@List.ext_getElem
theorem qU:type_of% @Nat.pow_le_pow_right:=@Nat.pow_le_pow_right
theorem qV:type_of% @List.zipWith_append:=@List.zipWith_append
theorem qW:type_of% @List.getElem_drop:=@List.getElem_drop
theorem qX:type_of% @List.getElem_append_right:=@List.getElem_append_right
theorem qY:type_of% @List.take_append_of_le_length:=@List.take_append_of_le_length
theorem qZ:type_of% @List.size_toArray:=@List.size_toArray
theorem q0:type_of% @List.filter_cons:=@List.filter_cons
theorem um:type_of% @List.eq_of_mem_replicate:=@List.eq_of_mem_replicate
theorem uo:type_of% @Int.eq_ofNat_of_zero_le:=@Int.eq_ofNat_of_zero_le
theorem I{p:Prop}(h:p:=by omega):p:=h
abbrev J:=World
abbrev Y:=Value
abbrev ar(α:Type):=Option α
abbrev O(α:Type):=List α
abbrev ag:=Addr
abbrev al:=Bool
end Go
namespace aR
open Go
structure ad where
 a:ar ag
 len:Nat
 cap:Nat
instance:Coe ad Value:=⟨λs=>.slice s.a s.len s.cap⟩
instance:Coe Int Value:=⟨λn=>.int .i64 n⟩
instance:Coe Nat Value:=⟨λn=>.int .i64 (n:Int)⟩
instance:Coe Bool Value:=⟨λb=>.bool b⟩
instance:Coe Nat Addr:=⟨λb=>⟨b,0,none⟩⟩
instance:Coe (Option Addr) Value:=⟨λp=>.pointer p⟩
instance:Coe Unit Value:=⟨λ_=>.slice none 0 0⟩
structure iQ where
 f:FuncId
 pre:Array Y
 cap:Array Y
inductive cB where
 |int (k:IntKind)|bool|str|ptr|slice|map|agg|fn|any
def cB.T:cB->Type
 | .int _=>Int
 | .bool=>al
 | .str=>ByteArray
 | .ptr=>ar ag
 | .slice=>ad
 | .map=>ar Nat
 | .agg=>Array Y
 | .fn=>iQ
 | .any=>Y
def cB.v:(l:cB)->l.T->Y
 | .int k,(n:Int)=>.int k n
 | .bool,(b:al)=>.bool b
 | .str,(s:ByteArray)=>.string s
 | .ptr,(p:ar ag)=>.pointer p
 | .slice,(s:ad)=>.slice s.a s.len s.cap
 | .map,(r:ar Nat)=>.map r
 | .agg,(cs:Array Y)=>.agg cs
 | .fn,(F:iQ)=>.func (.func F.f) F.pre F.cap
 | .any,(v:Y)=>v
inductive Kd where
 |one (l:cB)
 |flat (ls:O cB)
def mg(l:cB)(K:Y->Prop):Prop:=
 match l with
 | .int k=>∃n:Int,K (.int k n)
 | .bool=>∃b:al,K (.bool b)
 | .str=>∃s:ByteArray,K (.string s)
 | .ptr=>∃p:ar ag,K (.pointer p)
 | .slice=>∃s:ad,K (.slice s.a s.len s.cap)
 | .map=>∃r:ar Nat,K (.map r)
 | .agg=>∃cs:Array Y,K (.agg cs)
 | .fn=>∃F:iQ,K (.func (.func F.f) F.pre F.cap)
 | .any=>∃v:Y,K v
def uq:O cB->(O Y->Prop)->Prop
 | [],K=>K []
 |l::ls,K=>mg l λv=>uq ls λvs=>K (v::vs)
def ur(k:Kd)(K:Y->Prop):Prop:=
 match k with
 | .one l=>mg l K
 | .flat ls=>uq ls λvs=>K (.agg vs.toArray)
def q1:O Kd->(O Y->Prop)->Prop
 | [],K=>K []
 |k::ks,K=>ur k λv=>q1 ks λvs=>K (v::vs)
theorem nD{l:cB}{K:Y->Prop}(h:mg l K):∃v,K v:=by
 cases l<;>simp only[mg]at h<;>obtain⟨x,h⟩:=h<;>exact⟨_,h⟩
theorem w9:∀ {ls:O cB}{K:O Y->Prop},uq ls K->∃vs,K vs
 | [],_,h=>⟨_,h⟩
 |_::_,_,h=>let ⟨_,h⟩:=nD h;let ⟨_,h⟩:=w9 h;⟨_,h⟩
theorem w_{k:Kd}{K:Y->Prop}(h:ur k K):∃v,K v:=by
 cases k with
 |one l=>exact nD h
 |flat ls=>obtain⟨_,h⟩:=w9 h;exact⟨_,h⟩
theorem uu:∀ {ls:O Kd}{K:O Y->Prop},q1 ls K->∃vs,K vs
 | [],_,h=>⟨_,h⟩
 |_::_,_,h=>let ⟨_,h⟩:=w_ h;let ⟨_,h⟩:=uu h;⟨_,h⟩
abbrev Env:=O (Nat×Y)
def Env.get:Env->Nat->ar Y
 | [],_=>none
 |(k,v)::e,s=>bif Nat.beq k s then some v else Env.get e s
def ev(e:Env):Operand->ar Y
 | .tmp t=>e.get t
 | .const v=>some v
 | .global g=>some (.pointer (some ⟨g,0,none⟩))
 | .func f=>some (.func (.func f) #[] #[])
def ro(e:Env)(x:Operand):Y:=(ev e x).getD undef
def known(e:Env)(xs:Array Operand):al:=xs.toList.all λx=>(ev e x).isSome
structure c8(e:Env)(a:Act):Prop where
 get:∀s v,e.get s=some v->a.tmps[s]? =some v
theorem c8.ev{e:Env}{a:Act}(h:c8 e a){x:Operand}{v:Y}(hx:ev e x=some v):a.eval x=v:=by
 cases x with
 |tmp t=>
  have:=h.get t v hx;simp[Act.eval,Array.getD_eq_getD_getElem?,this]
 |const c=>simpa[aR.ev,Act.eval] using hx
 |global g=>simpa[aR.ev,Act.eval] using hx
 |func f=>simpa[aR.ev,Act.eval] using hx
theorem c8.ro{e:Env}{a:Act}(h:c8 e a){x:Operand}(hx:(aR.ev e x).isSome=true):a.eval x=ro e x:=by
 obtain⟨v,b⟩:=nq.1 hx;rw[h.ev b,aR.ro,b];rfl
def c1(d:ar Nat)(v:Y)(e:Env):Env:=
 match d with
 |some d=>(d,v)::e
 |none=>e
theorem mh(d:Nat)(v:Y)(e:Env)(s:Nat):Env.get ((d,v)::e) s=if d=s then some v else e.get s:=by
 simp only[Env.get,cond_eq_ite];by_cases a:d=s
 .subst a;simp
 .have:Nat.beq d s=false:=by
   cases b:Nat.beq d s
   .rfl
   .exact absurd (gZ b) a
  simp[this,a]
theorem c8.put{e:Env}{a:Act}(h:c8 e a){d:ar Nat}{v:Y}(hd:∀k,d=some k->k<a.tmps.size):c8 (c1 d v e) (a.put d v):=by
 cases d with
 |none=>exact h
 |some d=>
  constructor;intro s u hs;rw[c1,mh]at hs;simp only[Act.put];by_cases b:d=s
  .subst b
   simp only[if_true,Option.some.injEq]at hs;subst hs;simp[hd d rfl]
  .rw[if_neg b]at hs
   rw[Array.getElem?_setIfInBounds_ne b];exact h.get s u hs
inductive dr where
 |one (k:Kd)
 |eM (ks:O Kd)
def gR(r:dr)(K:Y->Prop):Prop:=
 match r with
 | .one k=>ur k K
 | .eM ks=>q1 ks λvs=>K (.tuple vs.toArray)
theorem g2{r:dr}{K:Y->Prop}(h:gR r K):∃v,K v:=by
 cases r with
 |one k=>exact w_ h
 |eM ks=>obtain⟨_,h⟩:=uu h;exact⟨_,h⟩
def bE(w:J)(A:ag):Nat->Nat->ar (O Y)
 |_,0=>some []
 |i,n+1=>match w.cell? (A.add i),bE w A (i+1) n with
  |some v,some vs=>some (v::vs)
  |_,_=>none
def setCells(w:J)(A:ag):Nat->O Y->J
 |_,[]=>w
 |i,v::vs=>setCells (w.setCell (A.add i) v) A (i+1) vs
def Plain:Y->Prop
 | .agg _=>False
 | .tuple _=>False
 |_=>True
def bh(w:J)(A:ag)(vs:O Y):Prop:=
 (∀i,i<vs.length->(w.cell? (A.add i)).isSome=true/\w.frozen? (A.add i)=false)/\∀v∈vs,Plain v
def gh:TypeDesc->al
 | .struct _=>true
 | .array _ _=>true
 |_=>false
def gw(P:Program)(elem:TypeId)(n:Nat):Array Y:=
 let zero:=if n*P.cellsOf elem=0 then #[] else (((P.info? elem).bind (·.zero)).getD undef).cells
 (Array.range (n*P.cellsOf elem)).map (zero[· %zero.size]!)
section
variable {P:Program}{w:J}
theorem cV{t:TypeId}{d:TypeDesc}(h:P.underlying t=some d):(underlying t).run P w=.ok d w:=by
 simp[underlying,program,Sem.run,bind,Sem.bind,h,pure]
theorem mi{t:TypeId}{d:TypeInfo}(h:P.info? t=some d):(typeInfo t).run P w=.ok d w:=by
 simp[typeInfo,program,Sem.run,bind,Sem.bind,h,pure]
theorem info_of_underlying{t:TypeId}{d:TypeDesc}(h:P.underlying t=some d):∃i,P.info? t=some i:=by
 unfold Program.underlying at h
 cases hi:P.info? t with
 |none=>simp[hi]at h
 |some i=>exact⟨i,rfl⟩
theorem gE{t:TypeId}{d:TypeDesc}(h:P.underlying t=some d):(Go.sizeOf t).run P w=.ok (P.cellsOf t) w:=by
 obtain⟨i,hi⟩:=info_of_underlying h;simp[Go.sizeOf,mi hi,Program.cellsOf,hi]
theorem nE{t:TypeId}{d:TypeDesc}(h:P.underlying t=some d):(isAgg t).run P w=.ok (gh d) w:=by
 simp only[isAgg,Sem.run_bind,cV h,Result.andThen]
 cases d<;>rfl
theorem uv{A:ag}{v:Y}(h:w.cell? A=some v):(load A).run P w=.ok v w:=by
 simp[load,Sem.run,h]
theorem run_loadCellsFrom{A:ag}:∀ (n i:Nat) (acc:Array Y) (vs:O Y),bE w A i n=some vs->
 (loadCellsFrom A i n acc).run P w=.ok (acc++vs.toArray) w
 |0,i,acc,vs,h=>by
  simp only[bE,Option.some.injEq]at h
  subst h
  simp[loadCellsFrom]
 |n+1,i,acc,vs,h=>by
  simp only[bE]at h
  cases h1:w.cell? (A.add i) with
  |none=>simp[h1]at h
  |some v=>
   cases a:bE w A (i+1) n with
   |none=>simp[h1,a]at h
   |some us=>
    simp only[h1,a,Option.some.injEq]at h
    subst h
    simp only[loadCellsFrom,Sem.run_bind,uv h1,Result.andThen]
    rw[run_loadCellsFrom n (i+1) (acc.push v) us a]
    simp
theorem q2{T:TypeId}{d:TypeDesc}(a:P.underlying T=some d)(hd:gh d=true){A:ag}{vs:O Y}(h:bE w A 0 (P.cellsOf T)=some vs):
 (loadVar T A).run P w=.ok (.agg vs.toArray) w:=by
 simp only[loadVar,Sem.run_bind,nE a,Result.andThen,hd,if_true,gE a,loadCells,run_loadCellsFrom _ _ _ _ h];simp
theorem xa{T:TypeId}{d:TypeDesc}(a:P.underlying T=some d)(hd:gh d=false){A:ag}{v:Y}(h:w.cell? A=some v):
 (loadVar T A).run P w=.ok v w:=by
 simp only[loadVar,Sem.run_bind,nE a,Result.andThen,hd,fl,if_false,uv h]
theorem Bc{A:ag}{v u:Y}(a:Plain v)(h:w.cell? A=some u)(hf:w.frozen? A=false):(store A v).run P w=.ok () (w.setCell A v):=by
 cases v<;>simp_all [store,Sem.run,Plain]
theorem Bd(w:J)(A B:ag)(v:Y):((w.setCell A v).cell? B).isSome=(w.cell? B).isSome:=by
 simp only[World.setCell,World.cell?,qM];by_cases a:A.block=B.block
 .simp only[a,if_true]
  cases w.heap[B.block]? with
  |none=>rfl
  |some o=>
   cases o<;>simp
   by_cases hs:B.spot.isSome<;>simp[hs]
   by_cases b:A.spot.isSome<;>simp[b]
   rw[fA];simp
 .simp[a]
theorem Be(w:J)(A B:ag)(v:Y):(w.setCell A v).frozen? B=w.frozen? B:=by
 simp only[World.setCell,World.frozen?,qM];by_cases a:A.block=B.block
 .simp only[a,if_true]
  cases w.heap[B.block]? with
  |none=>rfl
  |some o=>cases o<;>rfl
 .simp[a]
theorem po{A:ag}:∀ (vs:O Y) (i:Nat) (w:J),(∀j,j<vs.length->(w.cell? (A.add (i+j))).isSome=true/\w.frozen? (A.add (i+j))=false)->(∀v∈vs,Plain v)->
 (storeCells A vs i).run P w=.ok () (setCells w A i vs)
 | [],i,w,_,_=>rfl
 |v::vs,i,w,h,a=>by
  have h0:=h 0 (by simp)
  simp only[k8]at h0
  obtain⟨u,hu⟩:=nq.1 h0.1
  simp only[storeCells,Sem.run_bind,Bc (P:=P) (a v (by simp)) hu h0.2,Result.andThen,setCells]
  refine po vs (i+1) (w.setCell (A.add i) v) (λj b=>?_) (λx hx=>a x (by simp[hx]))
  have:=h (j+1) (by simp;omega)
  rw[Bd,Be,show i+1+j=i+(j+1) from I]
  exact this
theorem xb{T:TypeId}{d:TypeDesc}(a:P.underlying T=some d){A:ag}{v:Y}(hs:v.cells.size=P.cellsOf T)(h:bh w A v.cells.toList):
 (storeVar T A v).run P w=.ok () (setCells w A 0 v.cells.toList):=by
 simp only[storeVar,Sem.run_bind,gE a,Result.andThen,hs,ne_eq,not_true,if_false];simpa using po v.cells.toList 0 w (by simpa using h.1) h.2
end
def uw:O cB->ag->Nat->J->(O Y->Prop)->Prop
 | [],_,_,_,K=>K []
 |l::ls,A,i,w,K=>mg l λv=>w.cell? (A.add i)=some v/\uw ls A (i+1) w λvs=>K (v::vs)
def nF(P:Program)(tk:TypeId->dr)(T:TypeId)(A:ag)(w:J)(K:Y->Prop):Prop:=
 match P.underlying T with
 |none=>False
 |some d=>
  bif gh d then
   match tk T with
   | .one (.flat ls)=>bif Nat.beq (P.cellsOf T) ls.length then uw ls A 0 w λvs=>K (.agg vs.toArray) else False
   |_=>∃cs:O Y,bE w A 0 (P.cellsOf T)=some cs/\K (.agg cs.toArray)
  else
   match tk T with
   | .one (.one l)=>mg l λv=>w.cell? A=some v/\K v
   |_=>False
def ux(P:Program)(tk:TypeId->dr)(T:TypeId)(A:ag)(x:Y)(w:J)(K:J->Prop):Prop:=
 match P.underlying T with
 |none=>False
 |some d=>
  bif gh d then
   match x with
   | .agg cs=>bh w A cs.toList/\cs.size=P.cellsOf T/\K (setCells w A 0 cs.toList)
   |_=>False
  else bif Nat.beq (P.cellsOf T) 1 then
   match tk T with
   | .one (.one .any)=>Plain x/\(∃u,w.cell? A=some u)/\w.frozen? A=false/\K (w.setCell A x)
   |_=>match x with
    | .agg _=>False
    | .tuple _=>False
    |_=>(∃u,w.cell? A=some u)/\w.frozen? A=false/\K (w.setCell A x)
  else False
def iR(P:Program)(T:TypeId)(xs ys:Array Y)(b:al):Prop:=
 P.eqGuardType P.depth T=false/\∀w,(Op.equal T (.agg xs) (.agg ys)).run P w=.ok b w
def mj:Y->ar al
 | .nilIface=>some true
 | .iface _ _=>some false
 |_=>none
def ml:ar TypeDesc->al
 |some (.interface _)=>true
 |_=>false
def kH:ar TypeDesc->al
 |some (.pointer _)=>true
 |_=>false
def lq:ar TypeDesc->al
 |some (.slice _)=>true
 |_=>false
def nG:ar TypeDesc->al
 |some (.map _ _)=>true
 |_=>false
def iS:IntKind->IntKind->al:=λa b=>decide (a=b)
def q3(P:Program)(op:BinOp)(T:TypeId)(x y:Y)(K:Y->Prop)(G:Prop):Prop:=
 match y with
 | .nilIface=>bif ml (P.underlying T) then
  match op with
  | .eql=>∃b,mj x=some b/\K (.bool b)
  | .neq=>∃b,mj x=some b/\K (.bool (!b))
  |_=>False
  else False
 | .pointer none=>bif kH (P.underlying T) then
  match op,x with
  | .eql,.pointer p=>K (.bool p.isNone)
  | .neq,.pointer p=>K (.bool (!p.isNone))
  |_,_=>False
  else False
 | .slice none _ _=>bif lq (P.underlying T) then
  match op,x with
  | .eql,.slice a _ _=>K (.bool a.isNone)
  | .neq,.slice a _ _=>K (.bool (!a.isNone))
  |_,_=>False
  else False
 | .map none=>bif nG (P.underlying T) then
  match op,x with
  | .eql,.map r=>K (.bool r.isNone)
  | .neq,.map r=>K (.bool (!r.isNone))
  |_,_=>False
  else False
 | .agg ys=>
  match op,x with
  | .eql,.agg xs=>∃b,iR P T xs ys b/\K (.bool b)
  | .neq,.agg xs=>∃b,iR P T xs ys b/\K (.bool (!b))
  |_,_=>False
 | .int c b=>
  match op,x with
  | .quo,.int k a=>bif iS k c then b≠0/\K (.int k (k.wrap (a.tdiv b))) else False
  | .rem,.int k a=>bif iS k c then b≠0/\K (.int k (a.tmod b)) else False
  | .shl,.int k a=>0<=b/\K (.int k (k.wrap (a*2^(min b.toNat k.bits))))
  | .shr,.int k a=>0<=b/\K (.int k (a.fdiv (2^(min b.toNat k.bits))))
  |_,_=>G
 | .bool b=>match P.underlying T with
  |some .bool=>match op,x with
   | .eql,.bool a=>K (.bool (a==b))
   | .neq,.bool a=>K (.bool (!(a==b)))
   |_,_=>False
  |_=>False
 | .string b=>
  match op,x with
  | .add,.string a=>((a.size+b.size:Nat):Int)<=9223372036854775807/\K (.string (a++b))
  |_,_=>G
 |_=>G
section
variable {P:Program}
theorem nH(T:TypeId)(x y:Y):Op.equal T x y=Op.equalIn (9999+1) T x y:=rfl
theorem Bf(d:Nat){T:TypeId}{x:Y}{b:al}(a:ml (P.underlying T)=true)(h:mj x=some b)(w:J):
 (Op.equalIn (d+1) T x .nilIface).run P w=.ok b w:=by
 cases hu:P.underlying T with
 |none=>simp[hu,ml]at a
 |some d=>
  cases d<;>simp only[hu,ml,fl]at a
  simp only[Op.equalIn,Sem.run_bind,cV hu,Result.andThen]
  cases x<;>simp only[mj,reduceCtorEq,Option.some.injEq]at h<;>subst h<;>rfl
theorem Bg(d:Nat){T:TypeId}{p:ar ag}(a:kH (P.underlying T)=true)(w:J):
 (Op.equalIn (d+1) T (.pointer p) (.pointer none)).run P w=.ok p.isNone w:=by
 cases hu:P.underlying T with
 |none=>simp[hu,kH]at a
 |some d=>
  cases d<;>simp only[hu,kH,fl]at a
  simp only[Op.equalIn,Sem.run_bind,cV hu,Result.andThen]
  cases p<;>rfl
theorem Bh(d:Nat){T:TypeId}{a:ar ag}{l c e c':Nat}(b:lq (P.underlying T)=true)(w:J):
 (Op.equalIn (d+1) T (.slice a l c) (.slice none e c')).run P w=.ok a.isNone w:=by
 cases hu:P.underlying T with
 |none=>simp[hu,lq]at b
 |some d=>
  cases d<;>simp only[hu,lq,fl]at b
  simp only[Op.equalIn,Sem.run_bind,cV hu,Result.andThen]
  cases a<;>rfl
theorem Bi(d:Nat){T:TypeId}{r:ar Nat}(a:nG (P.underlying T)=true)(w:J):
 (Op.equalIn (d+1) T (.map r) (.map none)).run P w=.ok r.isNone w:=by
 cases hu:P.underlying T with
 |none=>simp[hu,nG]at a
 |some d=>
  cases d<;>simp only[hu,nG,fl]at a
  simp only[Op.equalIn,Sem.run_bind,cV hu,Result.andThen]
  cases r<;>rfl
theorem xc{T:TypeId}{x:Y}{b:al}(a:ml (P.underlying T)=true)(h:mj x=some b)(w:J):
 (Op.equal T x .nilIface).run P w=.ok b w:=by rw[nH];exact Bf _ a h w
theorem q4{T:TypeId}{p:ar ag}(a:kH (P.underlying T)=true)(w:J):
 (Op.equal T (.pointer p) (.pointer none)).run P w=.ok p.isNone w:=by rw[nH];exact Bg _ a w
theorem q5{T:TypeId}{a:ar ag}{l c b c':Nat}(d:lq (P.underlying T)=true)(w:J):
 (Op.equal T (.slice a l c) (.slice none b c')).run P w=.ok a.isNone w:=by rw[nH];exact Bh _ d w
theorem xd{T:TypeId}{r:ar Nat}(a:nG (P.underlying T)=true)(w:J):
 (Op.equal T (.map r) (.map none)).run P w=.ok r.isNone w:=by rw[nH];exact Bi _ a w
theorem xe{T:TypeId}{xs ys:Array Y}(h:P.eqGuardType P.depth T=false)(op:BinOp)(x y:Operand)(w:J):
 (eqGuard op T x y (.agg xs) (.agg ys)).run P w=.ok () w:=by
 cases op<;>simp[eqGuard,program,Sem.run,bind,Sem.bind,h,pure]
theorem xf{T:TypeId}{a b:al}(c:P.underlying T=some .bool)(w:J):(Op.equal T (.bool a) (.bool b)).run P w=.ok (a==b) w:=by
 have e:∀ (d:Nat) (w:J),(Op.equalIn (d+1) T (.bool a) (.bool b)).run P w=.ok (a==b) w:=by
  intro d w;simp[Op.equalIn,cV c]
 rw[nH];exact e _ w
theorem xg{op:BinOp}{T:TypeId}{x y:Y}{pq nI:Operand}{K:Y->Prop}{G:Prop}
 (l:y=.nilIface->∃c,nI=.const c)
 (h:q3 P op T x y K G):
 G\/∃v,(∀w,(do eqGuard op T pq nI x y;binOp op T x y:Sem Y).run P w=.ok v w)/\K v:=by
 unfold q3 at h;split at h
 case h_1=>
  obtain⟨c,hc⟩:=l rfl;by_cases d:ml (P.underlying T)=true
  .rw[d]at h
   simp only[cond_true]at h;split at h
   .obtain⟨b,e,f⟩:=h
    refine .inr ⟨_,λw=>?_,f⟩;have:=xc (P:=P) d e w
    cases x<;>simp only[mj,reduceCtorEq,Option.some.injEq]at e<;>subst hc e<;>simp[eqGuard,binOp,this]
   .obtain⟨b,e,f⟩:=h
    refine .inr ⟨_,λw=>?_,f⟩;have:=xc (P:=P) d e w
    cases x<;>simp only[mj,reduceCtorEq,Option.some.injEq]at e<;>subst hc e<;>simp[eqGuard,binOp,this]
   .exact h.elim
  .simp only[e5]at d;rw[d]at h;exact h.elim
 case h_2=>
  by_cases d:kH (P.underlying T)=true
  .rw[d]at h
   simp only[cond_true]at h;split at h
   .exact .inr ⟨_,λw=>by simp[eqGuard,binOp,q4 (P:=P) d],h⟩
   .exact .inr ⟨_,λw=>by simp[eqGuard,binOp,q4 (P:=P) d],h⟩
   .exact h.elim
  .simp only[e5]at d;rw[d]at h;exact h.elim
 case h_3=>
  by_cases d:lq (P.underlying T)=true
  .rw[d]at h
   simp only[cond_true]at h;split at h
   .exact .inr ⟨_,λw=>by simp[eqGuard,binOp,q5 (P:=P) d],h⟩
   .exact .inr ⟨_,λw=>by simp[eqGuard,binOp,q5 (P:=P) d],h⟩
   .exact h.elim
  .simp only[e5]at d;rw[d]at h;exact h.elim
 case h_4=>
  by_cases d:nG (P.underlying T)=true
  .rw[d]at h
   simp only[cond_true]at h;split at h
   .exact .inr ⟨_,λw=>by simp[eqGuard,binOp,xd (P:=P) d],h⟩
   .exact .inr ⟨_,λw=>by simp[eqGuard,binOp,xd (P:=P) d],h⟩
   .exact h.elim
  .simp only[e5]at d;rw[d]at h;exact h.elim
 case h_5=>
  split at h
  .obtain⟨b,⟨h1,i⟩,f⟩:=h
   exact .inr ⟨_,λw=>by simp[xe h1,binOp,i],f⟩
  .obtain⟨b,⟨h1,i⟩,f⟩:=h
   exact .inr ⟨_,λw=>by simp[xe h1,binOp,i],f⟩
  .exact h.elim
 case h_6 j b=>
  split at h
  .rename_i k a
   by_cases g:k=j
   .subst g
    simp only[iS,decide_true,cond_true]at h;exact .inr ⟨_,λw=>by simp[eqGuard,binOp,Op.intDiv,h.1],h.2⟩
   .simp[iS,g]at h
  .rename_i k a
   by_cases g:k=j
   .subst g
    simp only[iS,decide_true,cond_true]at h;exact .inr ⟨_,λw=>by simp[eqGuard,binOp,Op.intDiv,h.1],h.2⟩
   .simp[iS,g]at h
  .exact .inr ⟨_,λw=>by simp[eqGuard,binOp,Op.shift,show¬b<0 from I],h.2⟩
  .exact .inr ⟨_,λw=>by simp[eqGuard,binOp,Op.shift,show¬b<0 from I],h.2⟩
  .exact .inl h
 case h_7 b=>
  split at h
  .rename_i d
   split at h
   .exact .inr ⟨_,λw=>by simp[eqGuard,binOp,xf d],h⟩
   .exact .inr ⟨_,λw=>by simp[eqGuard,binOp,xf d],h⟩
   .exact h.elim
  .exact h.elim
 case h_8 b=>
  split at h
  .rename_i a
   refine .inr ⟨_,λw=>?_,h.2⟩;have h1:=h.1;simp[eqGuard,binOp,Op.stringOp,IntKind.max,IntKind.signed,IntKind.bits];omega
  .exact .inl h
 case h_9=>exact .inl h
end
def q6(P:Program)(T:TypeId)(x:Y)(K:Y->Prop):Prop:=
 match P.underlying T with
 |some (.array n _)=>match x with
  | .slice a len _=>n<=len/\∃A,a=some A/\K (.pointer (some A))
  |_=>False
 |_=>False
def q7(P:Program)(T:TypeId)(x i:Y)(K:Y->Prop):Prop:=
 match i with
 | .int _ n=>
  match P.underlying T with
  |some (.slice elem)=>bif (P.underlying elem).isSome then
   match x with
   | .slice a len _=>∃A,a=some A/\(0<=n/\n<(len:Int))/\K (.pointer (some (A.add (n.toNat*P.cellsOf elem))))
   |_=>False
   else False
  |some (.array len elem)=>bif (P.underlying elem).isSome then
   match x with
   | .pointer (some A)=>(0<=n/\n<(len:Int))/\K (.pointer (some (A.add (n.toNat*P.cellsOf elem))))
   |_=>False
   else False
  |_=>False
 |_=>False
def pr(P:Program)(tk:TypeId->dr)(T:TypeId)(cs:Array Y)(off:Nat)(K:Y->Prop):Prop:=
 match P.underlying T with
 |none=>False
 |some d=>
  bif gh d then K (.agg (cs.extract off (off+P.cellsOf T)))
  else match tk T with
   | .one (.one l)=>mg l λv=>cs[off]? =some v/\K v
   |_=>False
def q8(P:Program)(tk:TypeId->dr)(T:TypeId)(x i:Y)(K:Y->Prop):Prop:=
 match i with
 | .int _ n=>
  match P.underlying T with
  |some (.array len elem)=>match x with
   | .agg cs=>(0<=n/\n<(len:Int))/\pr P tk elem cs (n.toNat*P.cellsOf elem) K
   |_=>False
  |some .string=>match x with
   | .string s=>0<=n/\∃b:UInt8,s.data.toList[n.toNat]? =some b/\K (.int .u8 b.toNat)
   |_=>False
  |_=>False
 |_=>False
def q9(P:Program)(tk:TypeId->dr)(T:TypeId)(x:Y)(i:Nat)(K:Y->Prop):Prop:=
 match P.underlying T with
 |some (.struct fs)=>match fs[i]? with
  |some f=>match x with
   | .agg cs=>pr P tk f.type cs f.offset K
   |_=>False
  |none=>False
 |_=>False
def jN(v:ar Y)(y d:Nat)(K:Nat->Prop):Prop:=
 match v with
 |none=>K d
 |some (.int _ i)=>(0<=i/\i<=(y:Int))/\K i.toNat
 |_=>False
def aJ(a:ar ag)(sz l m:Nat):ar ag:=if m=l then a else a.map (·.add (l*sz))
def q_(P:Program)(T:TypeId)(x:Y)(lo hi b:ar Y)(K:Y->Prop):Prop:=
 match P.underlying T with
 |some .string=>match b,x with
  |none,.string s=>jN hi s.size s.size λh=>jN lo h 0 λl=>K (.string (s.extract l h))
  |_,_=>False
 |some (.slice elem)=>bif (P.underlying elem).isSome then
  match x with
  | .slice a len cap=>match b with
   |none=>jN hi cap len λh=>jN lo h 0 λl=>K (.slice (aJ a (P.cellsOf elem) l cap) (h-l) (cap-l))
   |some c=>match hi with
    |none=>False
    |some d=>jN (some c) cap 0 λm=>jN (some d) m 0 λh=>jN lo h 0 λl=>K (.slice (aJ a (P.cellsOf elem) l m) (h-l) (m-l))
  |_=>False
  else False
 |some (.array n elem)=>bif (P.underlying elem).isSome then
  match b,x with
  |none,.pointer (some A)=>jN hi n n λh=>jN lo h 0 λl=>K (.slice (aJ (some A) (P.cellsOf elem) l n) (h-l) (n-l))
  |_,_=>False
  else False
 |_=>False
def uy(P:Program)(T:TypeId)(l c:Y)(w:J)(K:Y->J->Prop):Prop:=
 match P.underlying T with
 |some (.slice elem)=>bif (P.underlying elem).isSome then
  bif ((P.info? elem).bind (·.zero)).isSome then
  match l,c with
  | .int _ n,.int _ m=>(0<=n/\n<=m/\m<=9223372036854775807/\(P.bytesOf elem:Int)*m<=140737488355328)/\
   K (.slice (some ⟨w.heap.size,0,none⟩) n.toNat m.toNat) {w with heap:=w.heap.push (.cells (gw P elem m.toNat) elem)}
  |_,_=>False
  else False
  else False
 |_=>False
section
variable {P:Program}{w:J}
theorem jm(o:ar TypeDesc)(h:o.isSome=true):∃d,o=some d:=nq.1 h
theorem xh{T:TypeId}{x:Y}{K:Y->Prop}(h:q6 P T x K):∃v,(∀w,(Instr.arrayAt T x).run P w=.ok v w)/\K v:=by
 unfold q6 at h;split at h
 .rename_i n e b
  split at h
  .rename_i a len cap
   obtain⟨h1,A,rfl,c⟩:=h;exact⟨_,λw=>by simp[Instr.arrayAt,cV b,Nat.not_lt.2 h1],c⟩
  .exact h.elim
 .exact h.elim
theorem xi{T:TypeId}{x i:Y}{K:Y->Prop}(h:q7 P T x i K):∃v,(∀w,(Instr.indexAt T x i).run P w=.ok v w)/\K v:=by
 unfold q7 at h;split at h
 .rename_i k n
  split at h
  .rename_i elem a
   by_cases he:(P.underlying elem).isSome=true
   .rw[he]at h
    simp only[cond_true]at h;split at h
    .obtain⟨A,rfl,b,c⟩:=h
     obtain⟨d,hd⟩:=jm _ he;exact⟨_,λw=>by simp[Instr.indexAt,asIntOf,cV a,b,gE hd],c⟩
    .exact h.elim
   .simp only[e5]at he;rw[he]at h;exact h.elim
  .rename_i len elem a
   by_cases he:(P.underlying elem).isSome=true
   .rw[he]at h
    simp only[cond_true]at h;split at h
    .obtain⟨b,c⟩:=h
     obtain⟨d,hd⟩:=jm _ he;exact⟨_,λw=>by simp[Instr.indexAt,asIntOf,Instr.sureAddr,cV a,b,gE hd],c⟩
    .exact h.elim
   .simp only[e5]at he;rw[he]at h;exact h.elim
  .exact h.elim
 .exact h.elim
theorem xj{tk:TypeId->dr}{T:TypeId}{cs:Array Y}{off:Nat}{K:Y->Prop}(h:pr P tk T cs off K):∃v,(∀w,(part T cs off).run P w=.ok v w)/\K v:=by
 unfold pr at h;split at h
 .exact h.elim
 .rename_i d a
  cases hd:gh d with
  |true=>
   rw[hd]at h;exact⟨_,λw=>by simp[part,nE a,hd,gE a],h⟩
  |false=>
   rw[hd]at h;simp only[cond_false]at h;split at h
   .obtain⟨v,b,c⟩:=nD h
    exact⟨v,λw=>by simp[part,nE a,hd,b],c⟩
   .exact h.elim
theorem xk{tk:TypeId->dr}{T:TypeId}{x i:Y}{K:Y->Prop}(h:q8 P tk T x i K):∃v,(∀w,(Instr.index T x i).run P w=.ok v w)/\K v:=by
 unfold q8 at h;split at h
 .rename_i k n
  split at h
  .rename_i len elem a
   split at h
   .obtain⟨c,h⟩:=h
    obtain⟨v,f,e⟩:=xj h;refine⟨v,λw=>?_,e⟩;have hs:(Go.sizeOf elem).run P w=.ok (P.cellsOf elem) w:=by
     unfold pr at h
     cases he:P.underlying elem with
     |none=>simp[he]at h
     |some d=>exact gE he
    simp[Instr.index,asIntOf,cV a,c,hs,f]
   .exact h.elim
  .rename_i a
   split at h
   .rename_i s
    obtain⟨c,b,hs,e⟩:=h;have g:s[n.toNat]? =some b:=by
     obtain⟨h1,j⟩:=jL.1 hs;have l:n.toNat<s.size:=by simpa using h1
     rw[getElem?_pos s n.toNat l];simp only[Option.some.injEq];rw[←j];rfl
    exact⟨_,λw=>by simp[Instr.index,asIntOf,cV a,c,g],e⟩
   .exact h.elim
  .exact h.elim
 .exact h.elim
theorem xl{tk:TypeId->dr}{T:TypeId}{x:Y}{i:Nat}{K:Y->Prop}(h:q9 P tk T x i K):∃v,(∀w,(Instr.field T x i).run P w=.ok v w)/\K v:=by
 unfold q9 at h;split at h
 .rename_i fs a
  split at h
  .rename_i f hf
   split at h
   .obtain⟨v,b,c⟩:=xj h
    exact⟨v,λw=>by simp[Instr.field,cV a,hf,asAgg,b],c⟩
   .exact h.elim
  .exact h.elim
 .exact h.elim
theorem jn{v:ar Y}{y d:Nat}{c:BoundsCode}{K:Nat->Prop}(h:jN v y d K):
 (v=none/\K d)\/∃u n,v=some u/\(∀w,(Instr.sliceBound u y c).run P w=.ok n w)/\K n:=by
 unfold jN at h;split at h
 .exact .inl ⟨rfl,h⟩
 .exact .inr ⟨_,_,rfl,λw=>by simp[Instr.sliceBound,asIntOf,h.1],h.2⟩
 .exact h.elim
theorem xm{T:TypeId}{x:Y}{lo hi p:ar Y}{K:Y->Prop}(h:q_ P T x lo hi p K):
 ∃v,(∀w,(Instr.sliceAt T x lo hi p).run P w=.ok v w)/\K v:=by
 unfold q_ at h;split at h
 .rename_i g
  split at h
  .rename_i s
   rcases jn (P:=P) (c:=.sliceAlen) h with ⟨f,h1⟩|⟨u,n,f,j,h1⟩
   .rcases jn (P:=P) (c:=.sliceB) h1 with ⟨b,e⟩|⟨m,bx,b,i,e⟩
    .exact⟨_,λw=>by simp[Instr.sliceAt,Instr.slice,cV g,Instr.sliceBounds,f,b],e⟩
    .exact⟨_,λw=>by simp[Instr.sliceAt,Instr.slice,cV g,Instr.sliceBounds,f,b,i],e⟩
   .rcases jn (P:=P) (c:=.sliceB) h1 with ⟨b,e⟩|⟨m,bx,b,i,e⟩
    .exact⟨_,λw=>by simp[Instr.sliceAt,Instr.slice,cV g,Instr.sliceBounds,f,b,j],e⟩
    .exact⟨_,λw=>by simp[Instr.sliceAt,Instr.slice,cV g,Instr.sliceBounds,f,b,j,i],e⟩
  .exact h.elim
 .rename_i elem g
  by_cases he:(P.underlying elem).isSome=true
  .rw[he]at h
   simp only[cond_true]at h;obtain⟨d,hd⟩:=jm _ he;have k:=λw:J=>gE (w:=w) hd;split at h
   .rename_i a len cap
    split at h
    .rcases jn (P:=P) (c:=.sliceAcap) h with ⟨f,h1⟩|⟨u,n,f,j,h1⟩
     .rcases jn (P:=P) (c:=.sliceB) h1 with ⟨b,e⟩|⟨m,bx,b,i,e⟩
      .exact⟨_,λw=>by simp[Instr.sliceAt,Instr.slice,cV g,Instr.sliceBounds,k,aJ,f,b],e⟩
      .exact⟨_,λw=>by simp[Instr.sliceAt,Instr.slice,cV g,Instr.sliceBounds,i,k,aJ,f,b],e⟩
     .rcases jn (P:=P) (c:=.sliceB) h1 with ⟨b,e⟩|⟨m,bx,b,i,e⟩
      .exact⟨_,λw=>by simp[Instr.sliceAt,Instr.slice,cV g,Instr.sliceBounds,j,k,aJ,f,b],e⟩
      .exact⟨_,λw=>by simp[Instr.sliceAt,Instr.slice,cV g,Instr.sliceBounds,j,i,k,aJ,f,b],e⟩
    .split at h
     .exact h.elim
     .rcases jn (P:=P) (c:=.slice3Acap) h with ⟨l,h1⟩|⟨u,n,l,j,h1⟩
      .cases l
      .cases l
       rcases jn (P:=P) (c:=.slice3B) h1 with ⟨l,e⟩|⟨r,bL,l,q,e⟩
       .cases l
       .cases l
        rcases jn (P:=P) (c:=.slice3C) e with ⟨b,o⟩|⟨m,bx,b,i,o⟩
        .exact⟨_,λw=>by simp[Instr.sliceAt,Instr.slice,cV g,Instr.sliceBounds,j,q,k,aJ,b],o⟩
        .exact⟨_,λw=>by simp[Instr.sliceAt,Instr.slice,cV g,Instr.sliceBounds,j,q,i,k,aJ,b],o⟩
   .exact h.elim
  .simp only[e5]at he;rw[he]at h;exact h.elim
 .rename_i n elem g
  by_cases he:(P.underlying elem).isSome=true
  .rw[he]at h
   simp only[cond_true]at h;obtain⟨d,hd⟩:=jm _ he;have k:=λw:J=>gE (w:=w) hd;split at h
   .rename_i A
    rcases jn (P:=P) (c:=.sliceAlen) h with ⟨f,h1⟩|⟨u,bL,f,j,h1⟩
    .rcases jn (P:=P) (c:=.sliceB) h1 with ⟨b,e⟩|⟨m,bx,b,i,e⟩
     .refine⟨_,λw=>?_,e⟩
      simp[Instr.sliceAt,cV g,Instr.sureAddr,Instr.sliceBounds,k,aJ,f,b];try (split<;>rfl)
     .refine⟨_,λw=>?_,e⟩
      simp[Instr.sliceAt,cV g,Instr.sureAddr,Instr.sliceBounds,i,k,aJ,f,b];try (split<;>rfl)
    .rcases jn (P:=P) (c:=.sliceB) h1 with ⟨b,e⟩|⟨m,bx,b,i,e⟩
     .refine⟨_,λw=>?_,e⟩
      simp[Instr.sliceAt,cV g,Instr.sureAddr,Instr.sliceBounds,j,k,aJ,f,b];try (split<;>rfl)
     .refine⟨_,λw=>?_,e⟩
      simp[Instr.sliceAt,cV g,Instr.sureAddr,Instr.sliceBounds,j,i,k,aJ,f,b];try (split<;>rfl)
   .exact h.elim
  .simp only[e5]at he;rw[he]at h;exact h.elim
 .exact h.elim
theorem uz{n:Int}(h0:0<=n)(h1:n<=9223372036854775807):IntKind.i64.wrap n=n:=by
 have e:n%18446744073709551616=n:=Int.emod_eq_of_lt h0 I;simp[IntKind.wrap,IntKind.signed,IntKind.bits,e];omega
theorem Bj{T:TypeId}{l c:Y}{K:Y->J->Prop}(h:uy P T l c w K):
 ∃v w',(Instr.makeSlice T l c).run P w=.ok v w'/\K v w':=by
 unfold uy at h;split at h
 .rename_i elem e
  by_cases he:(P.underlying elem).isSome=true
  .rw[he]at h
   simp only[cond_true]at h;by_cases a:((P.info? elem).bind (·.zero)).isSome=true
   .rw[a]at h
    simp only[cond_true]at h;split at h
    .rename_i k n t m
     obtain⟨⟨h0,h1,f,g⟩,j⟩:=h;obtain⟨d,hd⟩:=jm _ he;obtain⟨i,hi⟩:=info_of_underlying hd;obtain⟨z,b⟩:=nq.1 a;simp only[hi,Option.bind_some]at b;have o:P.bytesOf elem=i.bytes:=by simp[Program.bytesOf,hi]
     have hc:P.cellsOf elem=i.size:=by simp[Program.cellsOf,hi]
     rw[o]at g;have p:=uz h0 I;have q:=uz (n:=m) I f;refine⟨_,_,?_,j⟩;have r:¬(m<0):=by omega
     have s:¬(281474976710656<(i.bytes:Int)*m):=by omega
     simp[Instr.makeSlice,cV e,asInt,asIntOf,mi hi,p,q,r,s,gE hd,show¬n<0 from I,show¬m<n from I];by_cases hs:m.toNat*P.cellsOf elem=0
     .simp[hs,newRow,newObj,Sem.run,gw]
     .simp[zeroValue,mi hi,b,newRow,newObj,Sem.run,gw,hs,hi]
    .exact h.elim
   .simp only[e5]at a;rw[a]at h;exact h.elim
  .simp only[e5]at he;rw[he]at h;exact h.elim
 .exact h.elim
end
def an(w:J)(K:J->Prop):Prop:=K w
def uA(s:ByteArray)(n:Nat):ar UInt8:=s.data.toList[n]?
def cellAt(cs:Array Y)(n:Nat):ar Y:=cs[n]?
def h8(k:IntKind)(a b:Int):Int:=k.wrap ((BitVec.ofInt k.bits a&&&BitVec.ofInt k.bits b).toNat:Int)
def lr(k:IntKind)(a b:Int):Int:=k.wrap ((BitVec.ofInt k.bits a|||BitVec.ofInt k.bits b).toNat:Int)
def mm(k:IntKind)(a b:Int):Int:=k.wrap ((BitVec.ofInt k.bits a^^^BitVec.ofInt k.bits b).toNat:Int)
def xn(k:IntKind)(a b:Int):Int:=k.wrap ((BitVec.ofInt k.bits a&&&~~~BitVec.ofInt k.bits b).toNat:Int)
def pt(P:Program)(o:Oper)(K:Y->J->Prop)(e:Env)(w:J):Prop:=
 bif known e o.op.operands then
  match (execOp (ro e) o).run P w with
  | .ok (.value v) w'=>an w' λw1=>K v w1
  |_=>False
 else False
def xo(P:Program)(tk:TypeId->dr)(T:TypeId):dr:=
 match P.underlying T with
 |some (.slice e)=>tk e
 |_=>.one (.one .agg)
def cB.Bk:cB->al
 | .slice=>true
 |_=>false
def xp:dr->al
 | .one (.one .agg)=>true
 | .one (.flat ls)=>ls.any cB.Bk
 |_=>false
def gen(P:Program)(tk:TypeId->dr)(o:Oper)(K:Y->J->Prop)(e:Env)(w:J):Prop:=
 bif known e o.op.operands then
  match (execOp (ro e) o).run P w with
  | .ok (.value v) w'=>K v w'
  | .ok .skip w'=>K undef w'
  | .ok (.enter f args) w'=>Calls P f args w' λa b=>gR (tk o.type) λv=>a=.returned v/\K v b
  |_=>False
 else False
def iT(P:Program)(f:FuncId):Prop:=∃fn,P.funcs[f]? =some fn/\(fn.name== "runtime.NumGoroutine")=false/\fn.body.isNone=false
theorem xq{P:Program}{f:FuncId}(h:iT P f)(args:Array Y)(w:J):(callFunc f args).run P w=.ok (.enter f args) w:=by
 obtain⟨fn,h1,b,a⟩:=h;have c:¬fn.name= "runtime.NumGoroutine" :=by simpa using b
 have d:¬fn.body=none:=by
  intro h;rw[h]at a;cases a
 simp[callFunc,program,Sem.run,bind,Sem.bind,h1,c,d,pure]
def uB:Op->al
 | .select _ _=>true
 |_=>false
def xr(P:Program)(T:TypeId):Operand->al
 | .const _=>false
 |_=>ml (P.underlying T)||kH (P.underlying T)
def Bl(P:Program)(op:BinOp)(T:TypeId)(pq nI:Operand)(x y:Y)(b:al):Prop:=
 ∀w,Sem.run P (do eqGuard op T pq nI x y;binOp op T x y:Sem Y) w=.ok (.bool b) w
def nJ:Operand->Y->al
 | .const _,_=>true
 |_,.nilIface=>false
 |_,_=>true
def ix(P:Program)(tk:TypeId->dr)(o:Oper)(K:Y->J->Prop)(e:Env)(w:J):Prop:=
 match o.op with
 | .nilCheck x=>match ev e x with
  |some (.pointer p)=>∃A,p=some A/\K (.pointer (some A)) w
  |_=>False
 | .load T x=>match ev e x with
  |some (.pointer (some A))=>nF P tk T A w λv=>K v w
  |_=>False
 | .store T x y=>match ev e x,ev e y with
  |some (.pointer (some A)),some v=>ux P tk T A v w λw'=>an w' λw1=>K undef w1
  |_,_=>False
 | .binOp op T x y _=>match ev e x,ev e y with
  |some a,some u=>bif xr P T y then (∃b:al,Bl P op T x y a u b/\K (.bool b) w) else
   bif nJ y u then q3 P op T a u (λv=>K v w) (gen P tk o K e w) else False
  |_,_=>False
 | .indexAddr T x i=>match ev e x,ev e i with
  |some a,some g=>q7 P T a g λv=>K v w
  |_,_=>False
 | .index T x i=>match ev e x,ev e i with
  |some a,some g=>q8 P tk T a g λv=>K v w
  |_,_=>False
 | .field T x i=>match ev e x with
  |some a=>q9 P tk T a i λv=>K v w
  |_=>False
 | .alloc _=>pt P o K e w
 | .box _ _=>pt P o K e w
 | .buildSlice T n z=>bif xp (xo P tk T) then
  (bif known e o.op.operands then
    gR (tk o.type) λr=>∃w1,(Instr.buildSlice T n (z.map λp=>(p.1,ro e p.2))).run P w=.ok r w1/\K r w1
  else False)
  else pt P o K e w
 | .slice T x lo hi B=>bif known e o.op.operands then
  q_ P T (ro e x) (lo.map (ro e)) (hi.map (ro e)) (B.map (ro e)) λv=>K v w
  else False
 | .makeSlice T l c=>match ev e l,ev e c with
  |some C,some D=>uy P T C D w λv w'=>an w' λw1=>K v w1
  |_,_=>False
 | .convert s d x=>match ev e x with
  |some (.int j n)=>bif (P.underlying s).isSome then
   match P.underlying d with
   |some (.int k)=>K (.int k (k.wrap n)) w
   |_=>gR (tk o.type) λr=>∃w1,(convert s d (.int j n)).run P w=.ok r w1/\K r w1
   else False
  |some v=>gR (tk o.type) λr=>∃w1,(convert s d v).run P w=.ok r w1/\K r w1
  |none=>False
 | .build t z=>match tk t with
  | .one (.flat _)=>gen P tk o K e w
  |_=>bif known e o.op.operands then
   ∃cs:Array Y,(Instr.build t (z.map λp=>(p.1,ro e p.2))).run P w=.ok (.agg cs) w/\K (.agg cs) w
   else False
 | .lookup T m i ok=>match ev e m,ev e i with
  |some h,some g=>gR (tk o.type) λr=>∃w1,(Instr.lookup T h g ok).run P w=.ok r w1/\K r w1
  |_,_=>False
 | .mapUpdate T m i x=>match ev e m,ev e i,ev e x with
  |some h,some g,some a=>∃w1,(Instr.mapUpdate T h g a).run P w=.ok () w1/\K undef w1
  |_,_,_=>False
 | .makeMap T r=>bif known e o.op.operands then gR (tk o.type) λv=>∃w1,(Instr.makeMap T (r.map (ro e))).run P w=.ok v w1/\K v w1 else False
 | .range T x=>match ev e x with
  |some a=>∃v w1,(Instr.range T a).run P w=.ok v w1/\K v w1
  |_=>False
 | .next it q=>match ev e it with
  |some a=>(bif q then ∃ (n:Int) (c:Int) (w1:J),(Instr.next a q o.type).run P w=.ok (.tuple #[.bool true,.int .i64 n,.int .i32 c]) w1/\K (.tuple #[.bool true,.int .i64 n,.int .i32 c]) w1
   else ∃ (k:Y) (v:Y) (w1:J),(Instr.next a q o.type).run P w=.ok (.tuple #[.bool true,k,v]) w1/\K (.tuple #[.bool true,k,v]) w1)\/
   (∃w1:J,(Instr.next a q o.type).run P w=.ok (.tuple #[.bool false]) w1/\K (.tuple #[.bool false]) w1)
  |_=>False
 | .call c=>match c.callee with
  | .value (.tmp k)=>match e.get k with
   |some (.func (.func f) pre cap)=>bif known e o.op.operands then
    iT P f/\Calls P f (pre++c.args.map (ro e)++cap) w λE w1=>gR (tk o.type) λv=>E=.returned v/\K v w1
    else False
   |_=>gen P tk o K e w
  | .builtin .append=>bif known e o.op.operands then gR (tk o.type) λr=>∃w1,(Builtin.append_ c.argTypes o.type (c.args.map (ro e))).run P w=.ok r w1/\K r w1 else False
  | .builtin .copy=>bif known e o.op.operands then gR (tk o.type) λr=>∃w1,(Builtin.copy_ c.argTypes o.type (c.args.map (ro e))).run P w=.ok r w1/\K r w1 else False
  | .builtin .min=>bif known e o.op.operands then gR (tk o.type) λr=>∃w1,(Builtin.min_ c.argTypes o.type (c.args.map (ro e))).run P w=.ok r w1/\K r w1 else False
  | .builtin .max=>bif known e o.op.operands then gR (tk o.type) λr=>∃w1,(Builtin.max_ c.argTypes o.type (c.args.map (ro e))).run P w=.ok r w1/\K r w1 else False
  | .builtin .delete=>bif known e o.op.operands then ∃r w1,(Builtin.delete_ c.argTypes o.type (c.args.map (ro e))).run P w=.ok r w1/\K r w1 else False
  | .value (.func f)=>match P.funcs[f]? with
   |some fn=>match fn.body with
    |some _=>gen P tk o K e w
    |none=>bif known e o.op.operands then gR (tk o.type) λr=>∃w1,(callFunc f (c.args.map (ro e))).run P w=.ok (.value r) w1/\K r w1 else False
   |none=>False
  | .builtin .unsafeString=>bif known e o.op.operands then gR (tk o.type) λr=>∃w1,(Builtin.unsafeString_ c.argTypes o.type (c.args.map (ro e))).run P w=.ok r w1/\K r w1 else False
  | .builtin .unsafeSliceData=>bif known e o.op.operands then gR (tk o.type) λr=>∃w1,(Builtin.unsafeSliceData_ c.argTypes o.type (c.args.map (ro e))).run P w=.ok r w1/\K r w1 else False
  | .builtin .clear=>bif known e o.op.operands then ∃r w1,(Builtin.clear_ c.argTypes o.type (c.args.map (ro e))).run P w=.ok r w1/\K r w1 else False
  | .builtin .len=>match ((c.args.map (ro e))[0]? :ar Y) with
   |some (Value.map _)=>bif known e o.op.operands then gR (tk o.type) λr=>∃w1,(Builtin.len_ c.argTypes o.type (c.args.map (ro e))).run P w=.ok r w1/\K r w1 else False
   |_=>gen P tk o K e w
  |_=>gen P tk o K e w
 | .sliceToArrayPointer T x=>match ev e x with
  |some a=>q6 P T a λv=>K v w
  |_=>False
 | .mapEntry T m i=>match ev e m,ev e i with
  |some h,some g=>∃ (v0:Y) (st:Int) (w1:J),(Instr.mapEntry T h g).run P w=.ok (.tuple #[v0,.int .i64 st]) w1/\K (.tuple #[v0,.int .i64 st]) w1
  |_,_=>False
 | .entryStore T m s x=>match ev e m,ev e s,ev e x with
  |some h,some vs,some a=>∃w1,(Instr.entryStore T h vs a).run P w=.ok () w1/\K undef w1
  |_,_,_=>False
 | .entry it=>match ev e it with
  |some a=>gR (tk o.type) λv=>∃w1,(Instr.entry a).run P w=.ok v w1/\K v w1
  |_=>False
 | .select _ _=>False
 |_=>gen P tk o K e w
def kI(P:Program)(o:Oper)(a:Act)(w:J)(K:Y->J->Prop):Prop:=
 (∃v w',(execOp a.eval o).run P w=.ok (.value v) w'/\K v w')\/
 (∃w',(execOp a.eval o).run P w=.ok .skip w'/\K undef w')\/
 (∃f args w',(execOp a.eval o).run P w=.ok (.enter f args) w'/\Calls P f args w' λb c=>∃v,b=.returned v/\K v c)
theorem kI.wp{P:Program}{o:Oper}{a:Act}{w:J}{K:Y->J->Prop}{next:Act->J->Prop}{Q:Exit->Act->J->Prop}
 (h:kI P o a w K) (c:∀v w',K v w'->next (a.put o.dst v) w'):o.wp P a w next Q:=by
 unfold Oper.wp;rcases h with ⟨v,w',h,b⟩|⟨w',h,b⟩|⟨f,args,w',h,hc⟩
 .rw[h];exact c _ _ b
 .rw[h];exact c _ _ b
 .rw[h]
  exact hc.mono λe g ⟨v,d,b⟩=>by subst d;exact c _ _ b
section
variable {P:Program}{tk:TypeId->dr}{o:Oper}{K:Y->J->Prop}{e:Env}{a:Act}{w:J}
theorem Bm(aq:c8 e a){xs:Array Operand}(h:known e xs=true):∀x∈xs,a.eval x=ro e x:=by
 intro x hx;exact aq.ro (nr.1 h x (by simpa using hx))
theorem jo(aq:c8 e a)(hs:uB o.op=false)(h:known e o.op.operands=true):execOp a.eval o=execOp (ro e) o:=
 execOp_congr o (λcs b hc=>by rw[hc]at hs;cases hs) (Bm aq h)
theorem mn(aq:c8 e a)(hs:uB o.op=false)(h:gen P tk o K e w):kI P o a w K:=by
 unfold gen at h;by_cases c:known e o.op.operands=true
 .rw[c]at h
  simp only[cond_true]at h;have hc:=jo aq hs c;unfold kI;rw[hc];split at h
  .rename_i v w' b
   exact .inl ⟨v,w',b,h⟩
  .rename_i w' b
   exact .inr (.inl ⟨w',b,h⟩)
  .rename_i f args w' b
   refine .inr (.inr ⟨f,args,w',b,h.mono λg i d=>?_⟩);exact g2 d
  .exact h.elim
 .simp only[e5]at c
  rw[c]at h;exact h.elim
theorem uC(aq:c8 e a)(hs:uB o.op=false)(h:pt P o K e w):kI P o a w K:=by
 unfold pt at h;by_cases b:known e o.op.operands=true
 .rw[b]at h
  simp only[cond_true]at h;have hc:=jo aq hs b;unfold kI;rw[hc];split at h
  .rename_i v w' c
   exact .inl ⟨v,w',c,h⟩
  .exact h.elim
 .simp only[e5]at b
  rw[b]at h;exact h.elim
theorem uD:∀ {ls:O cB}{A:ag}{i:Nat}{K:O Y->Prop},uw ls A i w K->∃vs,bE w A i ls.length=some vs/\K vs
 | [],_,_,_,h=>⟨[],rfl,h⟩
 |l::ls,A,i,K,h=>by
  obtain⟨v,a,h⟩:=nD h
  obtain⟨vs,b,h⟩:=uD h
  exact⟨v::vs,by simp[bE,a,b],h⟩
theorem xt{T:TypeId}{A:ag}{K:Y->Prop}(h:nF P tk T A w K):∃v,(Instr.loadAt T (.pointer (some A))).run P w=.ok v w/\K v:=by
 have e:(Instr.loadAt T (.pointer (some A))).run P w=(loadVar T A).run P w:=by simp[Instr.loadAt,Instr.sureAddr]
 rw[e];unfold nF at h;split at h
 .exact h.elim
 .rename_i d b
  cases hd:gh d with
  |true=>
   rw[hd]at h;simp only[cond_true]at h;split at h
   .rename_i ls _
    by_cases a:Nat.beq (P.cellsOf T) ls.length=true
    .rw[a]at h
     simp only[cond_true]at h;obtain⟨vs,c,h⟩:=uD h;rw[←gZ a]at c;exact⟨_,q2 b hd c,h⟩
    .simp only[e5]at a;rw[a]at h;exact h.elim
   .obtain⟨cs,hc,h⟩:=h
    exact⟨_,q2 b hd hc,h⟩
  |false=>
   rw[hd]at h;simp only[cond_false]at h;split at h
   .obtain⟨v,f,h⟩:=nD h
    exact⟨v,xa b hd f,h⟩
   .exact h.elim
theorem uE{v:Y}(h:Plain v):v.cells= #[v]:=by cases v<;>first|rfl|exact h.elim
theorem add_zero'(A:ag):A.add 0=A:=rfl
theorem Bn{T:TypeId}{A:ag}{x:Y}{K:J->Prop}(h:ux P tk T A x w K):
 ∃w',(Instr.storeAt T (.pointer (some A)) x).run P w=.ok () w'/\K w':=by
 have f:(Instr.storeAt T (.pointer (some A)) x).run P w=(storeVar T A x).run P w:=by simp[Instr.storeAt,Instr.sureAddr]
 rw[f];unfold ux at h;split at h
 .exact h.elim
 .rename_i d c
  cases hd:gh d with
  |true=>
   rw[hd]at h;simp only[cond_true]at h;split at h
   .rename_i cs
    exact⟨_,xb (v:=.agg cs) c h.2.1 h.1,h.2.2⟩
   .exact h.elim
  |false=>
   rw[hd]at h;simp only[cond_false]at h;have one:∀ (b:Plain x) (a:Nat.beq (P.cellsOf T) 1=true),((∃u,w.cell? A=some u)/\w.frozen? A=false/\K (w.setCell A x))->∃w',(storeVar T A x).run P w=.ok () w'/\K w':=by
    intro b a ⟨⟨u,hu⟩,hf,g⟩;refine⟨_,xb (v:=x) c ?_ ?_,?_⟩
    .rw[uE b,gZ a];rfl
    .rw[uE b]
     refine⟨λi hi=>?_,λv j=>?_⟩
     .have:i=0:=by simpa using hi
      subst this;rw[add_zero',hu];exact⟨rfl,hf⟩
     .have:v=x:=by simpa using j
      subst this;exact b
    .rw[uE b]
     exact g
   by_cases a:Nat.beq (P.cellsOf T) 1=true
   .have e:=a
    rw[a]at h;simp only[cond_true]at h;split at h
    .exact one h.1 e h.2
    .split at h
     .exact h.elim
     .exact h.elim
     .rename_i h1 k
      refine one ?_ e h
      cases x<;>first|exact trivial|(exact absurd rfl (h1 _))|(exact absurd rfl (k _))
   .simp only[e5]at a;rw[a]at h;exact h.elim
theorem ra(aq:c8 e a)(h:ix P tk o K e w):kI P o a w K:=by
 unfold ix at h;split at h
 case h_1 x j=>
  split at h
  .rename_i p hx
   obtain⟨A,rfl,g⟩:=h;exact .inl ⟨_,_,by simp[execOp,j,aq.ev hx],g⟩
  .exact h.elim
 case h_2 T x j=>
  split at h
  .rename_i A hx
   obtain⟨v,B,g⟩:=xt h;exact .inl ⟨v,w,by simp[execOp,j,aq.ev hx,B],g⟩
  .exact h.elim
 case h_3 T x y j=>
  split at h
  .rename_i A v hx H
   obtain⟨w',U,g⟩:=Bn h;exact .inr (.inl ⟨w',by simp[execOp,j,aq.ev hx,aq.ev H,U],g⟩)
  .exact h.elim
 case h_4 op T x y ad j=>
  split at h
  .rename_i D R hx H
   by_cases N:xr P T y=true
   .rw[N]at h
    simp only[cond_true]at h;obtain⟨b,z,g⟩:=h;exact .inl ⟨_,w,by
     simp only[execOp,j,aq.ev hx,aq.ev H];have G:=z w;simp only[Sem.run_bind]at G⊢;rw[G];rfl,g⟩
   simp only[e5]at N;rw[N]at h;simp only[cond_false]at h;by_cases I:nJ y R=true
   .rw[I]at h
    simp only[cond_true]at h;have V:R=.nilIface->∃c,y=.const c:=by
     intro B;subst B
     cases y<;>simp[nJ]at I⊢
    rcases xg (pq:=x) (nI:=y) V h with hg|⟨v,B,g⟩
    .exact mn aq (by rw[j];rfl) hg
    .exact .inl ⟨v,w,by
      simp only[execOp,j,aq.ev hx,aq.ev H];have G:=B w;simp only[Sem.run_bind]at G⊢;rw[G];rfl,g⟩
   .simp only[e5]at I;rw[I]at h;exact h.elim
  .exact h.elim
 case h_5 T x i j=>
  split at h
  .rename_i D L hx hi
   obtain⟨v,B,g⟩:=xi h;exact .inl ⟨v,w,by simp[execOp,j,aq.ev hx,aq.ev hi,B],g⟩
  .exact h.elim
 case h_6 T x i j=>
  split at h
  .rename_i D L hx hi
   obtain⟨v,B,g⟩:=xk h;exact .inl ⟨v,w,by simp[execOp,j,aq.ev hx,aq.ev hi,B],g⟩
  .exact h.elim
 case h_7 T x i j=>
  split at h
  .rename_i D hx
   obtain⟨v,B,g⟩:=xl h;exact .inl ⟨v,w,by simp[execOp,j,aq.ev hx,B],g⟩
  .exact h.elim
 case h_8 T j=>exact uC aq (by rw[j];rfl) h
 case h_9 T x j=>exact uC aq (by rw[j];rfl) h
 case h_10 T n W j=>
  cases S:xp (xo P tk T) with
  |true=>
   rw[S]at h;simp only[cond_true]at h;by_cases u:known e o.op.operands=true
   .rw[u]at h
    simp only[cond_true]at h;have hc:=jo aq (by rw[j];rfl) u;obtain⟨r,w1,q,g⟩:=g2 h;exact .inl ⟨r,w1,by rw[hc];simp[execOp,j];rw[q];rfl,g⟩
   .simp only[e5]at u;rw[u]at h;exact h.elim
  |false=>
   rw[S]at h;exact uC aq (by rw[j];rfl) h
 case h_11 T x lo hi ae j=>
  by_cases u:known e o.op.operands=true
  .rw[u]at h
   simp only[cond_true]at h;have hc:=jo aq (by rw[j];rfl) u;obtain⟨v,B,g⟩:=xm h;exact .inl ⟨v,w,by rw[hc];simp[execOp,j,B],g⟩
  .simp only[e5]at u;rw[u]at h;exact h.elim
 case h_12 T l c j=>
  split at h
  .rename_i af ag Z hc
   obtain⟨v,w',B,g⟩:=Bj h;exact .inl ⟨v,w',by simp[execOp,j,aq.ev Z,aq.ev hc,B],g⟩
  .exact h.elim
 case h_13 s d x j=>
  split at h
  .rename_i k n hx
   by_cases hs:(P.underlying s).isSome=true
   .rw[hs]at h
    simp only[cond_true]at h;obtain⟨ds,aa⟩:=jm _ hs;split at h
    .rename_i ah hd
     exact .inl ⟨_,_,by simp[execOp,j,aq.ev hx,convert,cV aa,cV hd,Conv.intToInt],h⟩
    .obtain⟨r,w1,q,g⟩:=g2 h
     exact .inl ⟨r,w1,by simp[execOp,j,aq.ev hx,q],g⟩
   .simp only[e5]at hs;rw[hs]at h;exact h.elim
  .rename_i v _ hx
   obtain⟨r,w1,q,g⟩:=g2 h;exact .inl ⟨r,w1,by simp[execOp,j,aq.ev hx,q],g⟩
  .exact h.elim
 case h_14 t W j=>
  split at h
  .exact mn aq (by rw[j];rfl) h
  .by_cases u:known e o.op.operands=true
   .rw[u]at h
    simp only[cond_true]at h;have hc:=jo aq (by rw[j];rfl) u;obtain⟨cs,q,g⟩:=h;exact .inl ⟨_,_,by rw[hc];simp[execOp,j];rw[q];rfl,g⟩
   .simp only[e5]at u;rw[u]at h;exact h.elim
 case h_15 T m i ok j=>
  split at h
  .rename_i O L F hi
   obtain⟨r,w1,q,g⟩:=g2 h;exact .inl ⟨r,w1,by simp[execOp,j,aq.ev F,aq.ev hi,q],g⟩
  .exact h.elim
 case h_16 T m i x j=>
  split at h
  .rename_i O L D F hi hx
   obtain⟨w1,q,g⟩:=h;exact .inr (.inl ⟨w1,by simp[execOp,j,aq.ev F,aq.ev hi,aq.ev hx,q],g⟩)
  .exact h.elim
 case h_17 T r j=>
  by_cases u:known e o.op.operands=true
  .rw[u]at h
   simp only[cond_true]at h;have hc:=jo aq (by rw[j];rfl) u;obtain⟨v,w1,q,g⟩:=g2 h;exact .inl ⟨v,w1,by rw[hc];simp[execOp,j,q],g⟩
  .simp only[e5]at u;rw[u]at h;exact h.elim
 case h_18 T x j=>
  split at h
  .rename_i D hx
   obtain⟨v,w1,q,g⟩:=h;exact .inl ⟨v,w1,by simp[execOp,j,aq.ev hx,q],g⟩
  .exact h.elim
 case h_19 it ab j=>
  split at h
  .rename_i D hx
   rcases h with h|⟨w1,q,g⟩
   .cases ab with
    |true=>
     obtain⟨n,c,w1,q,g⟩:=h;exact .inl ⟨_,w1,by simp[execOp,j,aq.ev hx,q],g⟩
    |false=>
     obtain⟨k,v,w1,q,g⟩:=h;exact .inl ⟨_,w1,by simp[execOp,j,aq.ev hx,q],g⟩
   .exact .inl ⟨_,w1,by simp[execOp,j,aq.ev hx,q],g⟩
  .exact h.elim
 case h_20 c j=>
  have E:∀ (b:Builtin) (r:Y) (w1:J),c.callee=.builtin b->known e o.op.operands=true->
   (∀cs,(Go.builtin b c.argTypes o.type cs (c.args.map (ro e))).run P w=.ok (.value r) w1)->K r w1->kI P o a w K:=by
   intro b r w1 z u q g;have hc:=jo aq (by rw[j];rfl) u;exact .inl ⟨r,w1,by rw[hc];simp[execOp,j,resolve,z,invoke,q],g⟩
  have C:∀ {X:Prop},(bif known e o.op.operands then X else False)->known e o.op.operands=true/\X:=by
   intro X M;by_cases u:known e o.op.operands=true
   .rw[u]at M;exact⟨u,M⟩
   .simp only[e5]at u;rw[u]at M;exact M.elim
  split at h
  .rename_i k z
   split at h
   .rename_i f pre cap hg
    obtain⟨u,ac,h⟩:=C h;have hc:=jo aq (by rw[j];rfl) u;refine .inr (.inr ⟨f,pre++c.args.map (ro e)++cap,w,?_,h.mono λai w1 h1=>?_⟩)
    .have Q:ro e (.tmp k)=.func (.func f) pre cap:=by simp[ro,ev,hg]
     rw[hc];simp[execOp,j,resolve,z,Q,Deferred.ofValue,invoke,xq ac]
    .obtain⟨v,B,g⟩:=g2 h1
     exact⟨v,B,g⟩
   .exact mn aq (by rw[j];rfl) h
  .rename_i z
   obtain⟨u,h⟩:=C h;obtain⟨r,w1,q,g⟩:=g2 h;exact E _ r w1 z u (λ_=>by simp[Go.builtin,q]) g
  .rename_i z
   obtain⟨u,h⟩:=C h;obtain⟨r,w1,q,g⟩:=g2 h;exact E _ r w1 z u (λ_=>by simp[Go.builtin,q]) g
  .rename_i z
   obtain⟨u,h⟩:=C h;obtain⟨r,w1,q,g⟩:=g2 h;exact E _ r w1 z u (λ_=>by simp[Go.builtin,q]) g
  .rename_i z
   obtain⟨u,h⟩:=C h;obtain⟨r,w1,q,g⟩:=g2 h;exact E _ r w1 z u (λ_=>by simp[Go.builtin,q]) g
  .rename_i z
   obtain⟨u,r,w1,q,g⟩:=C h;exact E _ r w1 z u (λ_=>by simp[Go.builtin,q]) g
  .rename_i f z
   split at h
   .rename_i fn aj
    split at h
    .exact mn aq (by rw[j];rfl) h
    .obtain⟨u,h⟩:=C h
     obtain⟨r,w1,q,g⟩:=g2 h;have hc:=jo aq (by rw[j];rfl) u;refine .inl ⟨r,w1,?_,g⟩;rw[hc];have Q:ro e (.func f)=.func (.func f) #[] #[]:=by simp[ro,ev]
     simp[execOp,j,resolve,z,Q,Deferred.ofValue,invoke,q]
   .exact h.elim
  .rename_i z
   obtain⟨u,h⟩:=C h;obtain⟨r,w1,q,g⟩:=g2 h;exact E _ r w1 z u (λ_=>by simp[Go.builtin,q]) g
  .rename_i z
   obtain⟨u,h⟩:=C h;obtain⟨r,w1,q,g⟩:=g2 h;exact E _ r w1 z u (λ_=>by simp[Go.builtin,q]) g
  .rename_i z
   obtain⟨u,r,w1,q,g⟩:=C h;exact E _ r w1 z u (λ_=>by simp[Go.builtin,q]) g
  .rename_i z
   split at h
   .obtain⟨u,h⟩:=C h
    obtain⟨r,w1,q,g⟩:=g2 h;exact E _ r w1 z u (λ_=>by simp[Go.builtin,q]) g
   .exact mn aq (by rw[j];rfl) h
  .exact mn aq (by rw[j];rfl) h
 case h_21 T x j=>
  split at h
  .rename_i D hx
   obtain⟨v,B,g⟩:=xh h;exact .inl ⟨v,w,by simp[execOp,j,aq.ev hx,B],g⟩
  .exact h.elim
 case h_22 T m i j=>
  split at h
  .rename_i O L F hi
   obtain⟨v0,st,w1,q,g⟩:=h;exact .inl ⟨_,w1,by simp[execOp,j,aq.ev F,aq.ev hi,q],g⟩
  .exact h.elim
 case h_23 T m s x j=>
  split at h
  .rename_i O vs D F hs hx
   obtain⟨w1,q,g⟩:=h;exact .inr (.inl ⟨w1,by simp[execOp,j,aq.ev F,aq.ev hs,aq.ev hx,q],g⟩)
  .exact h.elim
 case h_24 it j=>
  split at h
  .rename_i D hx
   obtain⟨v,w1,q,g⟩:=g2 h;exact .inl ⟨v,w1,by simp[execOp,j,aq.ev hx,q],g⟩
  .exact h.elim
 case h_25=>exact h.elim
 case h_26=>
  refine mn aq ?_ h
  cases j:o.op<;>first|rfl|simp_all
end
end aR
namespace aR
open Go
inductive jO where
 |run
 |split (n:Nat)
 |pure (n:Nat)
 |rf (ks:O Kd)
def eG(P:Program)(o:Oper)(e:Env):ar Y:=
 match o.op with
 | .move x=>ev e x
 | .assign x=>ev e x
 | .unOp .not _ x=>match ev e x with
  |some (.bool b)=>some (.bool (!b))
  |_=>none
 | .binOp op T x y _=>match ev e y with
  |some (.int f b)=>match ev e x with
   |some (.int k a)=>bif iS k f then
    match op with
    | .add=>some (.int k (k.wrap (a+b)))
    | .sub=>some (.int k (k.wrap (a-b)))
    | .mul=>some (.int k (k.wrap (a*b)))
    | .quo=>match b with
     | .ofNat (.succ m)=>some (.int k (k.wrap (a.tdiv (.ofNat (.succ m)))))
     |_=>none
    | .rem=>match b with
     | .ofNat (.succ m)=>some (.int k (a.tmod (.ofNat (.succ m))))
     |_=>none
    | .and=>some (.int k (k.wrap (BitVec.ofInt k.bits a&&&BitVec.ofInt k.bits b).toNat))
    | .or=>some (.int k (k.wrap (BitVec.ofInt k.bits a|||BitVec.ofInt k.bits b).toNat))
    | .xor=>some (.int k (k.wrap (BitVec.ofInt k.bits a^^^BitVec.ofInt k.bits b).toNat))
    | .eql=>some (.bool (a==b))
    | .neq=>some (.bool (a !=b))
    | .lss=>some (.bool (a<b))
    | .leq=>some (.bool (a<=b))
    | .gtr=>some (.bool (a>b))
    | .geq=>some (.bool (a>=b))
    |_=>none
    else none
   |_=>none
  |some (.bool b)=>match ev e x with
   |some (.bool a)=>match P.underlying T with
    |some .bool=>match op with
     | .eql=>some (.bool (a==b))
     | .neq=>some (.bool (!(a==b)))
     |_=>none
    |_=>none
   |_=>none
  |some (.string b)=>match ev e x with
   |some (.string a)=>match op with
    | .eql=>some (.bool (a.toList==b.toList))
    | .neq=>some (.bool (!(a.toList==b.toList)))
    |_=>none
   |_=>none
  |some (.pointer none)=>match ev e x with
   |some (.pointer p)=>bif kH (P.underlying T) then match op with
    | .eql=>some (.bool p.isNone)
    | .neq=>some (.bool (!p.isNone))
    |_=>none
    else none
   |_=>none
  |some (.slice none _ _)=>match ev e x with
   |some (.slice p _ _)=>bif lq (P.underlying T) then match op with
    | .eql=>some (.bool p.isNone)
    | .neq=>some (.bool (!p.isNone))
    |_=>none
    else none
   |_=>none
  |_=>none
 | .convert s d x=>match ev e x with
  |some (.int _ n)=>match P.underlying d with
   |some (.int k)=>bif (P.underlying s).isSome then some (.int k (k.wrap n)) else none
   |_=>none
  |_=>none
 | .call {callee:=.builtin .len,args:=args,argTypes:=fP}=>match args[0]?,fP[0]? with
  |some x,some T=>match ev e x,P.underlying T with
   |some (.slice _ n _),some (.slice _)=>some (.int .i64 n)
   |some (.string s),some .string=>some (.int .i64 s.size)
   |_,_=>none
  |_,_=>none
 | .call {callee:=.builtin .cap,args:=args,argTypes:=fP}=>match args[0]?,fP[0]? with
  |some x,some T=>match ev e x,P.underlying T with
   |some (.slice _ _ c),some (.slice _)=>some (.int .i64 c)
   |_,_=>none
  |_,_=>none
 |_=>none
def pv(ops:Array Oper)(e:Env)(j:Nat):ar Y:=((ops[j]?).bind (·.dst)).bind e.get
def Bo(ops:Array Oper)(j:Nat):ar Nat:=(ops[j]?).bind (·.dst)
def GA(o:Oper)(e:Env)(K:al->Prop):Prop:=
 match o.guard with
 |none=>match o.op with
  | .pick x y z=>match ev e x with
   |some (.bool b)=>match ev e (bif b then y else z) with
    |some (.bool r)=>K r
    |_=>False
   |_=>False
  |_=>False
 |some _=>False
def gi(ops:Array Oper)(o:Oper)(e:Env)(run skip:Prop):Prop:=
 match o.guard with
 |none=>run
 |some (j,want)=>match pv ops e j with
  |none=>False
  |some (.bool b)=>bif Bool.xor b want then skip else run
  |some _=>skip
def ke{α:Type}(ops:Array Oper)(o:Oper)(e:Env)(run skip:ar α):ar α:=
 match o.guard with
 |none=>run
 |some (j,want)=>match pv ops e j with
  |none=>none
  |some (.bool b)=>bif Bool.xor b want then skip else run
  |some _=>skip
def jP(o:Oper)(e:Env):ar al:=
 match o.op with
 | .pick x y z=>match ev e x with
  |some (.bool b)=>match ev e (bif b then y else z) with
   |some (.bool r)=>some r
   |_=>none
  |_=>none
 |_=>none
def pw(ops:Array Oper)(o:Oper)(e:Env):ar (Nat×al):=
 match o.guard with
 |none=>none
 |some (j,_)=>match Bo ops j with
  |none=>none
  |some s=>match e.get s with
   |some (.bool c)=>some (s,c)
   |_=>none
def kJ(ops:Array Oper)(o:Oper)(e:Env):al:=
 match o.guard with
 |none=>true
 |some (j,want)=>match pv ops e j with
  |some (.bool b)=> !(Bool.xor b want)
  |_=>false
def lu(e:Env)(ds:O Nat):al:=e.all λp=> !(ds.any λd=>Nat.beq d p.1)
def bA(l:O Oper):O Nat:=l.filterMap (·.dst)
def hK(P:Program)(ops:Array Oper):Nat->O Oper->O jO->Env->ar Env
 |0,_,_,_=>none
 |_+1,[],_,e=>some e
 |n+1,o::rest,.pure m::as,e=>
  match pw ops o e,rest.drop (m-1) with
  |none,_=>
   match ke ops o e none (some undef) with
   |some v=>hK P ops n rest as (c1 o.dst v e)
   |none=>none
  |some (s,c),a::b=>
   match hK P ops n (o::rest.take (m-1)) (.run::as.take (m-1)) ((s,.bool true)::e),hK P ops n (o::rest.take (m-1)) (.run::as.take (m-1)) ((s,.bool false)::e) with
   |some d,some f=>
    match jP a d,jP a f with
    |some r1,some aF=>bif kJ ops a e&&lu e (bA (o::rest.take (m-1))) then hK P ops n b (as.drop m) (c1 a.dst (.bool (cond c r1 aF)) e) else none
    |_,_=>none
   |_,_=>none
  |_,_=>none
 |n+1,o::rest,_::as,e=>
  match ke ops o e (eG P o e) (some undef) with
  |some v=>hK P ops n rest as (c1 o.dst v e)
  |none=>none
 |n+1,o::rest,[],e=>
  match ke ops o e (eG P o e) (some undef) with
  |some v=>hK P ops n rest [] (c1 o.dst v e)
  |none=>none
inductive b1 {α:Type} (B:α->Prop) (k:α):Prop where
 |mk (h:B k)
theorem b1.out{α:Type}{B:α->Prop}{k:α}(h:b1 B k):B k:=by cases h with|mk h=>exact h
def rh(P:Program)(ks:O Kd)(o:Oper)(K:Y->J->Prop)(e:Env)(w:J):Prop:=
 match o.op with
 | .entry it=>match ev e it with
  |some a=>q1 ks λvs=>∃w1,(Instr.entry a).run P w=.ok (.tuple vs.toArray) w1/\K (.tuple vs.toArray) w1
  |_=>False
 |_=>False
theorem Bp{P:Program}{ks:O Kd}{o:Oper}{K:Y->J->Prop}{e:Env}{w:J}{a:Act}(aq:c8 e a)(h:rh P ks o K e w):kI P o a w K:=by
 unfold rh at h;split at h
 .rename_i it b
  split at h
  .rename_i f hx
   obtain⟨v,w1,c,d⟩:=uu h;exact .inl ⟨_,w1,by simp[execOp,b,aq.ev hx,c],d⟩
  .exact h.elim
 .exact h.elim
def fg(P:Program)(tk:TypeId->dr)(ops:Array Oper):Nat->O Oper->O jO->(Env->J->Prop)->Env->J->Prop
 |0,_,_,_,_,_=>False
 |_+1,[],_,K,e,w=>K e w
 |n+1,o::rest,.rf ks::as,K,e,w=>
  gi ops o e (rh P ks o (λv w'=>fg P tk ops n rest as K (c1 o.dst v e) w') e w) (fg P tk ops n rest as K (c1 o.dst undef e) w)
 |n+1,o::rest,.pure m::as,K,e,w=>
  match pw ops o e,rest.drop (m-1) with
  |none,_=>gi ops o e False (fg P tk ops n rest as K (c1 o.dst undef e) w)
  |some (s,c),a::b=>
   match hK P ops n (o::rest.take (m-1)) (.run::as.take (m-1)) ((s,.bool true)::e),hK P ops n (o::rest.take (m-1)) (.run::as.take (m-1)) ((s,.bool false)::e) with
   |some f,some g=>
    match jP a f,jP a g with
    |some r1,some aF=>bif kJ ops a e&&lu e (bA (o::rest.take (m-1))) then fg P tk ops n b (as.drop m) K (c1 a.dst (.bool (cond c r1 aF)) e) w else False
    |_,_=>False
   |_,_=>False
  |_,_=>False
 |n+1,o::rest,.split m::as,K,e,w=>
  match pw ops o e,rest.drop (m-1) with
  |none,_=>gi ops o e False (fg P tk ops n rest as K (c1 o.dst undef e) w)
  |some (s,c),a::b=>
   bif kJ ops a e&&lu e (bA (o::rest.take (m-1))) then
    b1 (λk:al->J->Prop=>
     (c=true->fg P tk ops n (o::rest.take (m-1)) (.run::as.take (m-1)) (λd w'=>match jP a d with|some r=>k r w'|none=>False) ((s,.bool true)::e) w)/\
     (c=false->fg P tk ops n (o::rest.take (m-1)) (.run::as.take (m-1)) (λd w'=>match jP a d with|some r=>k r w'|none=>False) ((s,.bool false)::e) w))
     (λr w'=>fg P tk ops n b (as.drop m) K (c1 a.dst (.bool r) e) w')
   else False
  |_,_=>False
 |n+1,o::rest,_::as,K,e,w=>
  gi ops o e (ix P tk o (λv w'=>fg P tk ops n rest as K (c1 o.dst v e) w') e w) (fg P tk ops n rest as K (c1 o.dst undef e) w)
 |n+1,o::rest,[],K,e,w=>
  gi ops o e (ix P tk o (λv w'=>fg P tk ops n rest [] K (c1 o.dst v e) w') e w) (fg P tk ops n rest [] K (c1 o.dst undef e) w)
structure dA(ds:O Nat)(a b:Act):Prop where
 defers:b.defers=a.defers
 size:b.tmps.size=a.tmps.size
 same:∀s,s∉ds->b.tmps[s]? =a.tmps[s]?
theorem dA.refl(ds:O Nat)(a:Act):dA ds a a:=⟨rfl,rfl,λ_ _=>rfl⟩
theorem dA.trans{ds:O Nat}{a b c:Act}(h:dA ds a b)(k:dA ds b c):dA ds a c:=
 ⟨k.defers.trans h.defers,k.size.trans h.size,λs hs=>(k.same s hs).trans (h.same s hs)⟩
theorem dA.mono{ds es:O Nat}{a b:Act}(h:dA ds a b)(hs:∀s,s∈ds->s∈es):dA es a b:=
 ⟨h.defers,h.size,λs c=>h.same s λd=>c (hs s d)⟩
theorem dA.put{a:Act}{d:ar Nat}{v:Y}{ds:O Nat}(hd:∀k,d=some k->k∈ds):dA ds a (a.put d v):=by
 cases d with
 |none=>exact .refl _ _
 |some d=>exact⟨rfl,by simp[Act.put],λs hs=>by
  have:d≠s:=λh=>hs (h▸hd d rfl);simp[Act.put,Array.getElem?_setIfInBounds_ne this]⟩
def fQ(a:Act)(ds:O Nat)(K:Env->J->Prop)(x:Exit)(b:Act)(w':J):Prop:=
 x=.normal/\dA ds a b/\∃c,c8 c b/\K c w'
theorem hL{P:Program}{ops:Array Oper}{Q Q':Exit->Act->J->Prop}(b:∀x a w,Q x a w->Q' x a w):
 ∀ (l:O Oper) (a:Act) (w:J),wpList P ops Q l a w->wpList P ops Q' l a w
 | [],_,_,h=>b _ _ _ h
 |o::l,a,w,h=>by
  simp only[wpList]at h⊢
  split
  .rename_i d
   rw[if_pos d]at h
   refine h.imp (λh=>?_) (λ⟨h1,f,w',g⟩=>⟨h1,f,w',b _ _ _ g⟩)
   have:=Oper.wp_mono (Q:=Q) (λa w=>hL b l a w) h
   unfold Oper.wp at this⊢
   revert this
   generalize (execOp a.eval o).run P w=r
   intro this
   cases r with
   |ok aX w'=>
    cases aX<;>simp only[Oper.upon]at this⊢<;>first
     |exact this
     |(exact Calls.mono this λe i he=>by
        cases e with
        |returned v=>exact he
        |panicked c=>exact b _ _ _ he
        |outgrown=>exact let ⟨f,w',g⟩:=he;⟨f,w',b _ _ _ g⟩)
   |halt x w'=>cases x<;>simp only[Oper.upon]at this⊢<;>first|exact b _ _ _ this|exact this
  .rename_i d
   rw[if_neg d]at h
   exact hL b l _ _ h
theorem px{P:Program}{ops:Array Oper}{Q:Exit->Act->J->Prop}(b:O Oper):
 ∀ (g:O Oper) (a:Act) (w:J),wpList P ops (λx a w=>x=.normal/\wpList P ops Q b a w) g a w->wpList P ops Q (g++b) a w
 | [],_,_,h=>h.2
 |o::l,a,w,h=>by
  simp only[o3,wpList]at h⊢
  split
  .rename_i d
   rw[if_pos d]at h
   rcases h with h|⟨_,i,w',f,_⟩
   .left
    have:=Oper.wp_mono (λa w=>px b l a w) h
    unfold Oper.wp at this⊢
    revert this
    generalize (execOp a.eval o).run P w=r
    intro this
    cases r with
    |ok aX w'=>
     cases aX<;>simp only[Oper.upon]at this⊢<;>first
      |exact this
      |(exact Calls.mono this λe j he=>by
         cases e with
         |returned v=>exact he
         |panicked c=>cases he.1
         |outgrown=>exact let ⟨i,w',f⟩:=he;by cases f.1)
    |halt x w'=>cases x<;>simp only[Oper.upon]at this⊢<;>first|(cases this.1;done)|exact this
   .cases f
  .rename_i d
   rw[if_neg d]at h
   exact px b l _ _ h
section
variable {P:Program}{tk:TypeId->dr}{ops:Array Oper}
def kK:Y->ar al
 | .bool b=>some b
 |_=>none
theorem py{e:Env}{a:Act}(aq:c8 e a){j:Nat}{v:Y}(h:pv ops e j=some v):
 yielded ops a.tmps j=kK v:=by
 unfold pv at h;unfold yielded
 cases hd:(ops[j]?).bind (·.dst) with
 |none=>rw[hd]at h;simp at h
 |some s=>
  rw[hd]at h;simp only[Option.bind_some]at h⊢;rw[aq.get _ _ h]
  cases v<;>rfl
theorem pz{o:Oper}{e:Env}{a:Act}(aq:c8 e a){R S:Prop}(h:gi ops o e R S):
 (Region.wanted o (yielded ops a.tmps)=true/\R)\/(Region.wanted o (yielded ops a.tmps)=false/\S):=by
 unfold gi at h;unfold Region.wanted;split at h
 .rename_i hg;rw[hg];exact .inl ⟨rfl,h⟩
 .rename_i j want hg
  rw[hg];simp only;split at h
  .exact h.elim
  .rename_i b c
   rw[py aq c]
   cases b<;>cases want<;>first|exact .inl ⟨rfl,h⟩|exact .inr ⟨rfl,h⟩
  .rename_i v d c
   rw[py aq c]
   cases v<;>first|exact absurd rfl (d _)|exact .inr ⟨by cases want<;>rfl,h⟩
theorem xu{o:Oper}{e:Env}{R a S:Prop}(h:gi ops o e R S)(c:R->a):gi ops o e a S:=by
 unfold gi at h⊢;split at h
 .exact c h
 .rename_i j want hg
  split at h
  .exact h
  .rename_i b f
   cases d:Bool.xor b want<;>rw[d]at h<;>first|exact c h|exact h
  .exact h
theorem Bq{α:Type}{o:Oper}{e:Env}{R S:ar α}{r:α}(h:ke ops o e none S=some r):ke ops o e R S=some r:=by
 unfold ke at h⊢;split at h
 .cases h
 .rename_i j want hg
  split at h
  .exact h
  .rename_i b c
   cases a:Bool.xor b want with
   |true=>rw[a]at h;exact h
   |false=>rw[a]at h;cases h
  .exact h
theorem Br{α:Type}{o:Oper}{e:Env}{a:Act}(aq:c8 e a){R S:ar α}{r:α}(h:ke ops o e R S=some r):
 (Region.wanted o (yielded ops a.tmps)=true/\R=some r)\/(Region.wanted o (yielded ops a.tmps)=false/\S=some r):=by
 unfold ke at h;unfold Region.wanted;split at h
 .rename_i hg;rw[hg];exact .inl ⟨rfl,h⟩
 .rename_i j want hg
  rw[hg];simp only;split at h
  .cases h
  .rename_i b c
   rw[py aq c]
   cases b<;>cases want<;>first|exact .inl ⟨rfl,h⟩|exact .inr ⟨rfl,h⟩
  .rename_i v d c
   rw[py aq c]
   cases v<;>first|exact absurd rfl (d _)|exact .inr ⟨by cases want<;>rfl,h⟩
theorem xv{o:Oper}{e:Env}{a:Act}(aq:c8 e a){v:Y}(h:eG P o e=some v)(w:J):(execOp a.eval o).run P w=.ok (.value v) w:=by
 unfold eG at h;split at h
 .rename_i x f
  simp[execOp,f,aq.ev h]
 .rename_i x f
  simp[execOp,f,aq.ev h]
 .rename_i t x f
  split at h
  .rename_i b hx
   cases h;simp[execOp,f,aq.ev hx,Op.unary]
  .cases h
 .rename_i op T x y D f
  split at h
  .rename_i u b i
   split at h
   .rename_i k c hx
    by_cases z:k=u
    .subst z
     simp only[iS,decide_true,cond_true]at h;split at h
     case h_4=>
      split at h
      .cases h
       simp[execOp,f,aq.ev hx,aq.ev i,eqGuard,binOp,Op.intDiv];intro r;exfalso;revert r;simp;omega
      .cases h
     case h_5=>
      split at h
      .cases h
       simp[execOp,f,aq.ev hx,aq.ev i,eqGuard,binOp,Op.intDiv];intro r;exfalso;revert r;simp;omega
      .cases h
     all_goals first
      |(cases h;simp[execOp,f,aq.ev hx,aq.ev i,eqGuard,binOp,Op.intArith,Op.intBits,Op.intCmp];done)
      |cases h
    .simp[iS,z]at h
   .cases h
  .rename_i b i
   split at h
   .rename_i c hx
    split at h
    .rename_i g
     have j:∀ (d:Nat) (w:J),(Op.equalIn (d+1) T (.bool c) (.bool b)).run P w=.ok (c==b) w:=by
      intro d w;simp[Op.equalIn,cV g]
     have A:∀w:J,(Op.equal T (.bool c) (.bool b)).run P w=.ok (c==b) w:=λw=>by rw[nH];exact j _ w
     split at h
     .cases h
      simp[execOp,f,aq.ev hx,aq.ev i,eqGuard,binOp,A]
     .cases h
      simp[execOp,f,aq.ev hx,aq.ev i,eqGuard,binOp,A]
     .cases h
    .cases h
   .cases h
  .rename_i b i
   split at h
   .rename_i c hx
    split at h
    .cases h
     have j:(binOp .eql T (.string c) (.string b)).run P w=.ok (.bool (c.toList==b.toList)) w:=rfl;simp only[execOp,f,aq.ev hx,aq.ev i];simp[eqGuard,j]
    .cases h
     have j:(binOp .neq T (.string c) (.string b)).run P w=.ok (.bool (!(c.toList==b.toList))) w:=rfl;simp only[execOp,f,aq.ev hx,aq.ev i];simp[eqGuard,j]
    .cases h
   .cases h
  .rename_i i
   split at h
   .rename_i p hx
    by_cases g:kH (P.underlying T)=true
    .rw[g]at h
     simp only[cond_true]at h;split at h
     .cases h;simp[execOp,f,aq.ev hx,aq.ev i,eqGuard,binOp,q4 (P:=P) g]
     .cases h;simp[execOp,f,aq.ev hx,aq.ev i,eqGuard,binOp,q4 (P:=P) g]
     .cases h
    .simp only[e5]at g;rw[g]at h;cases h
   .cases h
  .rename_i l c i
   split at h
   .rename_i p _ _ hx
    by_cases g:lq (P.underlying T)=true
    .rw[g]at h
     simp only[cond_true]at h;split at h
     .cases h;simp[execOp,f,aq.ev hx,aq.ev i,eqGuard,binOp,q5 (P:=P) g]
     .cases h;simp[execOp,f,aq.ev hx,aq.ev i,eqGuard,binOp,q5 (P:=P) g]
     .cases h
    .simp only[e5]at g;rw[g]at h;cases h
   .cases h
  .cases h
 .rename_i s d x f
  split at h
  .rename_i k n hx
   split at h
   .rename_i u hd
    by_cases hs:(P.underlying s).isSome=true
    .rw[hs]at h
     cases h;obtain⟨ds,B⟩:=jm _ hs;simp[execOp,f,aq.ev hx,convert,cV B,cV hd,Conv.intToInt]
    .simp only[e5]at hs;rw[hs]at h;cases h
   .cases h
  .cases h
 .rename_i args fP f
  split at h
  .rename_i x T m q
   split at h
   .rename_i p n c C hx g
    cases h;simp[execOp,f,resolve,invoke,Go.builtin,Builtin.len_,q,m,cV g,aq.ev hx,goInt]
   .rename_i s hx g
    cases h;simp[execOp,f,resolve,invoke,Go.builtin,Builtin.len_,q,m,cV g,aq.ev hx,goInt]
   .cases h
  .cases h
 .rename_i args fP f
  split at h
  .rename_i x T m q
   split at h
   .rename_i p n c C hx g
    cases h;simp[execOp,f,resolve,invoke,Go.builtin,Builtin.cap_,q,m,cV g,aq.ev hx,goInt]
   .cases h
  .cases h
 .cases h
theorem uF{e:Env}{ds:O Nat}{a b:Act}(aq:c8 e a)(hd:lu e ds=true)(d:dA ds a b):c8 e b:=by
 constructor;intro s v hs;have f:∃u,(s,u)∈e:=by
  clear hd aq
  induction e with
  |nil=>cases hs
  |cons p e g=>
   obtain⟨k,u⟩:=p;rw[mh]at hs;by_cases c:k=s
   .subst c;exact⟨u,by simp⟩
   .rw[if_neg c]at hs
    obtain⟨u,hu⟩:=g hs;exact⟨u,by simp[hu]⟩
 obtain⟨u,hu⟩:=f;have h1:=nr.1 hd _ hu;simp only[iI,o4]at h1;rw[d.same s λh=>h1 s h (Nat.beq_refl s)];exact aq.get s v hs
theorem uG{d:Oper}{e:Env}{a:Act}(aq:c8 e a){r:al}(h:jP d e=some r)(w:J):
 (execOp a.eval d).run P w=.ok (.value (.bool r)) w:=by
 unfold jP at h;split at h
 .rename_i x y z f
  split at h
  .rename_i b g
   split at h
   .rename_i i c
    cases h;simp only[execOp,f,aq.ev g]
    cases b
    .simp only[cond_false]at c
     simp[asBool,aq.ev c]
    .simp only[cond_true]at c
     simp[asBool,aq.ev c]
   .cases h
  .cases h
 .cases h
theorem uH{c:Oper}{e:Env}{a:Act}(aq:c8 e a)(h:kJ ops c e=true):Region.wanted c (yielded ops a.tmps)=true:=by
 unfold kJ at h;unfold Region.wanted;split at h
 .rename_i hg;rw[hg]
 .rename_i j want hg
  rw[hg];simp only;split at h
  .rename_i b d
   rw[py aq d]
   cases b<;>cases want<;>first|rfl|cases h
  .cases h
theorem uI{o:Oper}{e:Env}{s:Nat}{c:al}(h:pw ops o e=some (s,c)):e.get s=some (.bool c):=by
 unfold pw at h;split at h
 .cases h
 .split at h
  .cases h
  .split at h
   .rename_i hs;cases h;exact hs
   .cases h
theorem c8.lit{e:Env}{a:Act}(aq:c8 e a){s:Nat}{v:Y}(h:e.get s=some v):c8 ((s,v)::e) a:=by
 constructor;intro t u ht;rw[mh]at ht;by_cases b:s=t
 .subst b
  rw[if_pos rfl]at ht
  cases ht;exact aq.get _ _ h
 .rw[if_neg b]at ht
  exact aq.get _ _ ht
theorem uJ{α:Type}(o:α)(rest:O α)(m:Nat){a:α}{b:O α}(h:rest.drop m=a::b):
 o::rest=(o::rest.take m)++(a::b):=by
 rw[←h];simp
theorem Bs{b c:al}{α:Type}{x y z:α}(h:(bif b&&c then x else y)=z)(a:y≠z):b=true/\c=true/\x=z:=by
 cases b<;>cases c<;>first|exact absurd h a|exact⟨rfl,rfl,h⟩
theorem xw:∀ (n:Nat) (l:O Oper) (as:O jO) (e j:Env) (a:Act) (w:J),c8 e a->(∀d∈bA l,d<a.tmps.size)->
 hK P ops n l as e=some j->wpList P ops (λx f w'=>x=.normal/\dA (bA l) a f/\c8 j f/\w'=w) l a w:=by
 intro n
 induction n with
 |zero=>intro l as e j a w _ _ h;cases h
 |succ n B=>
  intro l as e j a w aq g h;have one:∀ (o:Oper) (rest:O Oper) (E:O jO),(∀d∈bA (o::rest),d<a.tmps.size)->
   (match ke ops o e (eG P o e) (some undef) with|some v=>hK P ops n rest E (c1 o.dst v e)|none=>none)=some j->
   wpList P ops (λx f w'=>x=.normal/\dA (bA (o::rest)) a f/\c8 j f/\w'=w) (o::rest) a w:=by
   intro o rest E g h;have K:∀k,o.dst=some k->k∈bA (o::rest):=λk b=>by simp[bA,b]
   have q:∀k,k∈bA rest->k∈bA (o::rest):=λk b=>by
    simp only[bA,o5];split
    .exact b
    .exact iJ _ b
   split at h
   .rename_i v t
    have next:∀ (f:Act),f=a.put o.dst v->wpList P ops (λx f w'=>x=.normal/\dA (bA (o::rest)) a f/\c8 j f/\w'=w) rest f w:=by
     intro f T;subst T;have b:dA (bA (o::rest)) a (a.put o.dst v):=dA.put K;have:=B rest E (c1 o.dst v e) j (a.put o.dst v) w (aq.put λk b=>g k (K k b)) (λd hd=>by rw[b.size];exact g d (q d hd)) h;exact hL (λx f w' ⟨h1,F,U,V⟩=>⟨h1,b.trans (F.mono q),U,V⟩) _ _ _ this
    rcases Br aq t with ⟨G,u⟩|⟨G,u⟩
    .simp only[wpList,G,if_true]
     left;unfold Oper.wp;rw[xv aq u w];exact next _ rfl
    .simp only[wpList,G,fl,if_false]
     cases u;exact next _ rfl
   .cases h
  cases l with
  |nil=>
   simp only[hK,Option.some.injEq]at h;subst h;exact⟨rfl,.refl _ _,aq,rfl⟩
  |cons o rest=>
   cases as with
   |nil=>exact one o rest [] g (by simpa only[hK] using h)
   |cons W as=>
    cases W with
    |run=>exact one o rest as g (by simpa only[hK] using h)
    |split m=>exact one o rest as g (by simpa only[hK] using h)
    |rf ks=>exact one o rest as g (by simpa only[hK] using h)
    |pure m=>
     simp only[hK]at h;split at h
     .refine one o rest as g ?_
      cases t:ke ops o e none (some undef) with
      |none=>rw[t]at h;cases h
      |some v=>rw[t]at h;rw[Bq t];exact h
     .rename_i s c i p hg hd
      split at h
      .rename_i L M h1 F
       split at h
       .rename_i r1 aF X Y
        obtain⟨Z,aa,h⟩:=Bs h (by simp);rw[uJ o rest (m-1) hd]at g⊢;have N:=uI hg;refine px _ _ _ _ ?_;have H:∀k,k∈bA (o::rest.take (m-1))->k∈bA ((o::rest.take (m-1))++(i::p)):=λk b=>by
         simp only[bA,o6,cL];exact .inl b
        have C:∀k,k∈bA (i::p)->k∈bA ((o::rest.take (m-1))++(i::p)):=λk b=>by
         simp only[bA,o6,cL];exact .inr b
        have Q:∀k,i.dst=some k->k∈bA (i::p):=λk b=>by simp[bA,b]
        have q:∀k,k∈bA p->k∈bA (i::p):=λk b=>by
         simp only[bA,o5];split
         .exact b
         .exact iJ _ b
        have fin:∀ (I:Env) (r:al) (a1:Act),dA (bA (o::rest.take (m-1))) a a1->c8 I a1->jP i I=some r->r=cond c r1 aF->
         wpList P ops (λx f w'=>x=.normal/\dA (bA ((o::rest.take (m-1))++(i::p))) a f/\c8 j f/\w'=w) (i::p) a1 w:=by
         intro I r a1 D ab u ac;have R:=uF aq aa D;simp only[wpList,uH R Z,if_true];left;unfold Oper.wp;rw[uG ab u w];simp only[Oper.upon];have S:dA (bA (i::p)) a1 (a1.put i.dst (.bool r)):=dA.put Q;have:=B p (as.drop m) (c1 i.dst (.bool (cond c r1 aF)) e) j (a1.put i.dst (.bool r)) w
          (by rw[ac];exact R.put λk b=>by rw[D.size];exact g k (C k (Q k b)))
          (λd hd=>by rw[S.size,D.size];exact g d (C d (q d hd))) h
         refine hL (λx f w' ⟨av,y,z,A⟩=>⟨av,(D.mono H).trans ((S.mono C).trans (y.mono λk b=>C k (q k b))),z,A⟩) _ _ _ this
        cases c with
        |true=>
         have:=B _ _ _ L a w (aq.lit N) (λd hd=>g d (H d hd)) h1;exact hL (λx f w' ⟨av,y,z,A⟩=>⟨av,by subst A;exact fin L r1 f y z X rfl⟩) _ _ _ this
        |false=>
         have:=B _ _ _ M a w (aq.lit N) (λd hd=>g d (H d hd)) F;exact hL (λx f w' ⟨av,y,z,A⟩=>⟨av,by subst A;exact fin M aF f y z Y rfl⟩) _ _ _ this
       .cases h
      .cases h
     .cases h
theorem xx:∀ (n:Nat) (l:O Oper) (as:O jO) (K:Env->J->Prop) (e:Env) (a:Act) (w:J),c8 e a->(∀d∈bA l,d<a.tmps.size)->
 fg P tk ops n l as K e w->wpList P ops (fQ a (bA l) K) l a w:=by
 intro n
 induction n with
 |zero=>intro l as K e a w _ _ h;cases h
 |succ n E=>
  intro l as K e a w aq i h;have one:∀ (o:Oper) (rest:O Oper) (j:O jO),(∀d∈bA (o::rest),d<a.tmps.size)->
   gi ops o e (ix P tk o (λv w'=>fg P tk ops n rest j K (c1 o.dst v e) w') e w) (fg P tk ops n rest j K (c1 o.dst undef e) w)->
   wpList P ops (fQ a (bA (o::rest)) K) (o::rest) a w:=by
   intro o rest j i h;have F:∀k,o.dst=some k->k∈bA (o::rest):=λk b=>by simp[bA,b]
   have p:∀k,k∈bA rest->k∈bA (o::rest):=λk b=>by
    simp only[bA,o5];split
    .exact b
    .exact iJ _ b
   have next:∀ (v:Y) (w':J),fg P tk ops n rest j K (c1 o.dst v e) w'->wpList P ops (fQ a (bA (o::rest)) K) rest (a.put o.dst v) w':=by
    intro v w' h;have b:dA (bA (o::rest)) a (a.put o.dst v):=dA.put F;have:=E rest j K (c1 o.dst v e) (a.put o.dst v) w' (aq.put λk b=>i k (F k b)) (λd hd=>by rw[b.size];exact i d (p d hd)) h;exact hL (λx z w' ⟨h1,A,N⟩=>⟨h1,b.trans (A.mono p),N⟩) _ _ _ this
   rcases pz aq h with ⟨B,q⟩|⟨B,q⟩
   .simp only[wpList,B,if_true]
    exact .inl ((ra aq q).wp next)
   .simp only[wpList,B,fl,if_false]
    exact next _ _ q
  have W:∀ (o:Oper) (rest:O Oper) (ks:O Kd) (j:O jO),(∀d∈bA (o::rest),d<a.tmps.size)->
   gi ops o e (rh P ks o (λv w'=>fg P tk ops n rest j K (c1 o.dst v e) w') e w) (fg P tk ops n rest j K (c1 o.dst undef e) w)->
   wpList P ops (fQ a (bA (o::rest)) K) (o::rest) a w:=by
   intro o rest ks j i h;have F:∀k,o.dst=some k->k∈bA (o::rest):=λk b=>by simp[bA,b]
   have p:∀k,k∈bA rest->k∈bA (o::rest):=λk b=>by
    simp only[bA,o5];split
    .exact b
    .exact iJ _ b
   have next:∀ (v:Y) (w':J),fg P tk ops n rest j K (c1 o.dst v e) w'->wpList P ops (fQ a (bA (o::rest)) K) rest (a.put o.dst v) w':=by
    intro v w' h;have b:dA (bA (o::rest)) a (a.put o.dst v):=dA.put F;have:=E rest j K (c1 o.dst v e) (a.put o.dst v) w' (aq.put λk b=>i k (F k b)) (λd hd=>by rw[b.size];exact i d (p d hd)) h;exact hL (λx z w' ⟨h1,A,N⟩=>⟨h1,b.trans (A.mono p),N⟩) _ _ _ this
   rcases pz aq h with ⟨B,q⟩|⟨B,q⟩
   .simp only[wpList,B,if_true]
    exact .inl ((Bp aq q).wp next)
   .simp only[wpList,B,fl,if_false]
    exact next _ _ q
  cases l with
  |nil=>exact⟨rfl,.refl _ _,e,aq,h⟩
  |cons o rest=>
   cases as with
   |nil=>exact one o rest [] i (by simpa only[fg] using h)
   |cons X as=>
    cases X with
    |run=>exact one o rest as i (by simpa only[fg] using h)
    |rf ks=>exact W o rest ks as i (by simpa only[fg] using h)
    |split m=>
     simp only[fg]at h;split at h
     .exact one o rest as i (xu h False.elim)
     .rename_i s c f g hg hd
      obtain⟨Q,R,h⟩:kJ ops f e=true/\lu e (bA (o::rest.take (m-1)))=true/\_:=by
       cases h1:kJ ops f e<;>cases A:lu e (bA (o::rest.take (m-1)))<;>rw[h1,A]at h<;>first|exact h.elim|exact⟨rfl,rfl,h⟩
      rw[uJ o rest (m-1) hd]at i⊢;have G:=uI hg;refine px _ _ _ _ ?_;have C:∀k,k∈bA (o::rest.take (m-1))->k∈bA ((o::rest.take (m-1))++(f::g)):=λk b=>by
       simp only[bA,o6,cL];exact .inl b
      have t:∀k,k∈bA (f::g)->k∈bA ((o::rest.take (m-1))++(f::g)):=λk b=>by
       simp only[bA,o6,cL];exact .inr b
      have H:∀k,f.dst=some k->k∈bA (f::g):=λk b=>by simp[bA,b]
      have p:∀k,k∈bA g->k∈bA (f::g):=λk b=>by
       simp only[bA,o5];split
       .exact b
       .exact iJ _ b
      have fin:∀ (x:Exit) (a1:Act) (w1:J),fQ a (bA (o::rest.take (m-1)))
       (λZ w'=>match jP f Z with|some r=>fg P tk ops n g (as.drop m) K (c1 f.dst (.bool r) e) w'|none=>False) x a1 w1->
       x=.normal/\wpList P ops (fQ a (bA ((o::rest.take (m-1))++(f::g))) K) (f::g) a1 w1:=by
       rintro x a1 w1 ⟨hx,u,M,S,h⟩;refine⟨hx,?_⟩;have I:=uF aq R u;split at h
       .rename_i r q
        simp only[wpList,uH I Q,if_true];left;unfold Oper.wp;rw[uG S q w1];simp only[Oper.upon];have L:dA (bA (f::g)) a1 (a1.put f.dst (.bool r)):=dA.put H;have:=E g (as.drop m) K (c1 f.dst (.bool r) e) (a1.put f.dst (.bool r)) w1
         (I.put λk b=>by rw[u.size];exact i k (t k (H k b)))
         (λd hd=>by rw[L.size,u.size];exact i d (t d (p d hd))) h
        refine hL (λx z w' ⟨av,y,D⟩=>⟨av,(u.mono C).trans ((L.mono t).trans (y.mono λk b=>t k (p k b))),D⟩) _ _ _ this
       .exact h.elim
      have h:=h.out
      cases c with
      |true=>
       have:=E _ _ _ _ a w (aq.lit G) (λd hd=>i d (C d hd)) (h.1 rfl);exact hL fin _ _ _ this
      |false=>
       have:=E _ _ _ _ a w (aq.lit G) (λd hd=>i d (C d hd)) (h.2 rfl);exact hL fin _ _ _ this
     .exact h.elim
    |pure m=>
     simp only[fg]at h;split at h
     .exact one o rest as i (xu h False.elim)
     .rename_i s c f g hg hd
      split at h
      .rename_i U V h1 A
       split at h
       .rename_i r1 aF aa ab
        obtain⟨Q,R,h⟩:kJ ops f e=true/\lu e (bA (o::rest.take (m-1)))=true/\_:=by
         cases av:kJ ops f e<;>cases y:lu e (bA (o::rest.take (m-1)))<;>rw[av,y]at h<;>first|exact h.elim|exact⟨rfl,rfl,h⟩
        rw[uJ o rest (m-1) hd]at i⊢;have G:=uI hg;refine px _ _ _ _ ?_;have C:∀k,k∈bA (o::rest.take (m-1))->k∈bA ((o::rest.take (m-1))++(f::g)):=λk b=>by
         simp only[bA,o6,cL];exact .inl b
        have t:∀k,k∈bA (f::g)->k∈bA ((o::rest.take (m-1))++(f::g)):=λk b=>by
         simp only[bA,o6,cL];exact .inr b
        have H:∀k,f.dst=some k->k∈bA (f::g):=λk b=>by simp[bA,b]
        have p:∀k,k∈bA g->k∈bA (f::g):=λk b=>by
         simp only[bA,o5];split
         .exact b
         .exact iJ _ b
        have fin:∀ (M:Env) (r:al) (a1:Act),dA (bA (o::rest.take (m-1))) a a1->c8 M a1->jP f M=some r->r=cond c r1 aF->
         wpList P ops (fQ a (bA ((o::rest.take (m-1))++(f::g))) K) (f::g) a1 w:=by
         intro M r a1 u S q ac;have I:=uF aq R u;simp only[wpList,uH I Q,if_true];left;unfold Oper.wp;rw[uG S q w];simp only[Oper.upon];have L:dA (bA (f::g)) a1 (a1.put f.dst (.bool r)):=dA.put H;have:=E g (as.drop m) K (c1 f.dst (.bool (cond c r1 aF)) e) (a1.put f.dst (.bool r)) w
          (by rw[ac];exact I.put λk b=>by rw[u.size];exact i k (t k (H k b)))
          (λd hd=>by rw[L.size,u.size];exact i d (t d (p d hd))) h
         refine hL (λx z w' ⟨av,y,D⟩=>⟨av,(u.mono C).trans ((L.mono t).trans (y.mono λk b=>t k (p k b))),D⟩) _ _ _ this
        cases c with
        |true=>
         have:=xw n _ _ _ U a w (aq.lit G) (λd hd=>i d (C d hd)) h1;exact hL (λx z w' ⟨av,y,D,T⟩=>⟨av,by subst T;exact fin U r1 z y D aa rfl⟩) _ _ _ this
        |false=>
         have:=xw n _ _ _ V a w (aq.lit G) (λd hd=>i d (C d hd)) A;exact hL (λx z w' ⟨av,y,D,T⟩=>⟨av,by subst T;exact fin V aF z y D ab rfl⟩) _ _ _ this
       .exact h.elim
      .exact h.elim
     .exact h.elim
end
end aR
namespace aR
open Go
structure ae(W:Nat->Prop)(w w':J):Prop where
 os:w'.os=w.os
 tape:w'.tape=w.tape
 output:w'.output=w.output
 size:w.heap.size<=w'.heap.size
 block:∀k,k<w.heap.size->¬W k->w'.heap[k]? =w.heap[k]?
theorem ae.refl(W:Nat->Prop)(w:J):ae W w w:=⟨rfl,rfl,rfl,bl _,λ_ _ _=>rfl⟩
theorem ae.trans{W:Nat->Prop}{a b c:J}(h:ae W a b)(k:ae W b c):ae W a c:=
 ⟨k.os.trans h.os,k.tape.trans h.tape,k.output.trans h.output,ei h.size k.size,λi hi d=>(k.block i (fm hi h.size) d).trans (h.block i hi d)⟩
theorem ae.mono{W V:Nat->Prop}{a b:J}(h:ae W a b)(c:∀k,k<a.heap.size->W k->V k):ae V a b:=
 ⟨h.os,h.tape,h.output,h.size,λi hi d=>h.block i hi λcD=>d (c i hi cD)⟩
theorem ae.cell{W:Nat->Prop}{w w':J}(h:ae W w w'){A:ag}(cD:¬W A.block){v:Y}(a:w.cell? A=some v):w'.cell? A=some v:=by
 have b:A.block<w.heap.size:=by
  rcases ed A.block w.heap.size with h1|h1
  .exact h1
  .simp[World.cell?,Array.getElem?_eq_none h1]at a
 unfold World.cell? at a⊢;rw[h.block _ b cD];exact a
theorem ae.bE{W:Nat->Prop}{w w':J}(h:ae W w w'){A:ag}(cD:¬W A.block):∀ (n i:Nat) (vs:O Y),bE w A i n=some vs->bE w' A i n=some vs
 |0,_,_,a=>a
 |n+1,i,vs,a=>by
  simp only[aR.bE]at a⊢
  have c:(A.add i).block=A.block:=by unfold Addr.add;split<;>rfl
  cases h1:w.cell? (A.add i) with
  |none=>simp[h1]at a
  |some v=>
   cases b:aR.bE w A (i+1) n with
   |none=>simp[h1,b]at a
   |some us=>
    simp only[h1,b]at a
    rw[h.cell (by rw[c];exact cD) h1,ae.bE h cD n (i+1) us b]
    exact a
def fh{α:Type}:Sem α->Prop
 | .pure _=>True
 | .program k=>∀p,fh (k p)
 | .halt _=>True
 |_=>False
theorem fh.bind{α β:Type}:∀ {s:Sem α}{f:α->Sem β},fh s->(∀a,fh (f a))->fh (s>>=f)
 | .pure a,_,_,hf=>hf a
 | .program _,_,h,hf=> λp=>fh.bind (h p) hf
 | .halt _,_,_,_=>trivial
 | .load ..,_,h,_=>h.elim
 | .store ..,_,h,_=>h.elim
 | .new ..,_,h,_=>h.elim
 | .shape ..,_,h,_=>h.elim
 | .freeze ..,_,h,_=>h.elim
 | .frozen ..,_,h,_=>h.elim
 | .getObj ..,_,h,_=>h.elim
 | .setObj ..,_,h,_=>h.elim
 | .choose ..,_,h,_=>h.elim
 | .sys ..,_,h,_=>h.elim
 | .mark ..,_,h,_=>h.elim
theorem fh.run{α:Type}{P:Program}:∀ {s:Sem α}{w w':J}{v:α},fh s->s.run P w=.ok v w'->∀u,s.run P u=.ok v u
 | .pure a,w,w',v,_,h,u=>by
  simp only[Sem.run,Result.ok.injEq]at h⊢
  exact⟨h.1,trivial⟩
 | .program k,w,w',v,hf,h,u=>fh.run (hf P) h u
 | .halt _,w,w',v,_,h,_=>by simp[Sem.run]at h
 | .load ..,_,_,_,h,_,_=>h.elim
 | .store ..,_,_,_,h,_,_=>h.elim
 | .new ..,_,_,_,h,_,_=>h.elim
 | .shape ..,_,_,_,h,_,_=>h.elim
 | .freeze ..,_,_,_,h,_,_=>h.elim
 | .frozen ..,_,_,_,h,_,_=>h.elim
 | .getObj ..,_,_,_,h,_,_=>h.elim
 | .setObj ..,_,_,_,h,_,_=>h.elim
 | .choose ..,_,_,_,h,_,_=>h.elim
 | .sys ..,_,_,_,h,_,_=>h.elim
 | .mark ..,_,_,_,h,_,_=>h.elim
theorem xy:fh program:=λ_=>trivial
theorem xz(t:TypeId):fh (underlying t):=by
 unfold underlying;refine fh.bind xy λp=>?_;split<;>trivial
theorem Bt(t:TypeId):fh (typeInfo t):=by
 unfold typeInfo;refine fh.bind xy λp=>?_;split<;>trivial
theorem Bu(t:TypeId):fh (Go.sizeOf t):=fh.bind (Bt t) λ_=>trivial
theorem Bv(t:TypeId):fh (isAgg t):=by
 unfold isAgg;refine fh.bind (xz t) λd=>?_;split<;>trivial
theorem Bw(t:TypeId)(cs:Array Y)(off:Nat):fh (part t cs off):=by
 unfold part;refine fh.bind (Bv t) λd=>?_;split
 .exact fh.bind (Bu t) λ_=>trivial
 .split<;>trivial
theorem Bx(t:TypeId)(x:Y)(i:Nat):fh (Instr.field t x i):=by
 unfold Instr.field;refine fh.bind (xz t) λd=>?_;split
 .split
  .refine fh.bind ?_ λ_=>Bw _ _ _
   unfold asAgg;split<;>trivial
  .trivial
 .trivial
def xA:Op->al
 | .move _=>true
 | .assign _=>true
 | .pick _ _ _=>true
 | .field _ _ _=>true
 |_=>false
def pA(P:Program)(o:Oper)(K:Y->Prop)(e:Env)(w:J):Prop:=
 bif xA o.op&&known e o.op.operands then
  match (execOp (ro e) o).run P w with
  | .ok (.value v) _=>K v
  |_=>False
 else False
def nK(P:Program)(o:Oper)(K:Y->Prop)(e:Env):Prop:=
 match eG P o e with
 |some v=>K v
 |none=>False
def xB(P:Program)(T:TypeId)(x:Y)(i:Nat)(K:Y->Prop):Prop:=
 match P.underlying T with
 |some (.struct fs)=>match fs[i]? with
  |some f=>match x with
   | .pointer (some A)=>match P.underlying f.type with
    |some _=>bif Nat.beq (P.cellsOf f.type) 0 then False else K (.pointer (some (A.add f.offset)))
    |none=>False
   |_=>False
  |none=>False
 |_=>False
def xC(x:Y)(i:Nat)(K:Y->Prop):Prop:=
 match x with
 | .tuple vs=>match vs[i]? with
  |some v=>K v
  |none=>False
 |_=>False
def iy(o:Oper):al:=
 match o.op with
 | .load _ _=>true
 | .convert _ _ _=>true
 |_=>false
def jQ:Nat->O Oper->Nat
 |_,[]=>0
 |i,o::l=>bif iy o then 2^i|||jQ (i+1) l else jQ (i+1) l
def uK(P:Program)(tk:TypeId->dr)(W:Nat->Prop)(w:J)(o:Oper)(K:Y->Prop)(e:Env):Prop:=
 match o.op with
 | .nilCheck x=>match ev e x with
  |some (.pointer p)=>∃A,p=some A/\K (.pointer (some A))
  |_=>False
 | .load T x=>match ev e x with
  |some (.pointer (some A))=>¬W A.block/\nF P tk T A w K
  |_=>False
 | .binOp op T x y _=>match ev e x,ev e y with
  |some a,some c=>bif nJ y c then q3 P op T a c K (nK P o K e) else False
  |_,_=>False
 | .indexAddr T x i=>match ev e x,ev e i with
  |some a,some b=>q7 P T a b K
  |_,_=>False
 | .index T x i=>match ev e x,ev e i with
  |some a,some b=>q8 P tk T a b K
  |_,_=>False
 | .field T x i=>match ev e x with
  |some a=>q9 P tk T a i K
  |_=>False
 | .fieldAddr T x i=>match ev e x with
  |some a=>xB P T a i K
  |_=>False
 | .extract x i=>match ev e x with
  |some a=>xC a i K
  |_=>False
 | .slice T x lo hi f=>bif known e o.op.operands then
  q_ P T (ro e x) (lo.map (ro e)) (hi.map (ro e)) (f.map (ro e)) K
  else False
 | .convert s d x=>match ev e x with
  |some (.int _ _)=>nK P o K e
  |some v=>gR (tk o.type) λr=>(∀w',ae W w w'->(convert s d v).run P w'=.ok r w')/\K r
  |none=>False
 | .build t g=>bif known e o.op.operands then
  ∃cs:Array Y,(∀w',(Instr.build t (g.map λp=>(p.1,ro e p.2))).run P w'=.ok (.agg cs) w')/\K (.agg cs)
  else False
 | .unOp _ _ _=>nK P o K e
 | .call _=>nK P o K e
 | .move _=>pA P o K e w
 | .assign _=>pA P o K e w
 | .pick _ _ _=>pA P o K e w
 | .sliceToArrayPointer T x=>match ev e x with
  |some a=>q6 P T a K
  |_=>False
 |_=>False
section
variable {P:Program}{tk:TypeId->dr}{W:Nat->Prop}{o:Oper}{K:Y->Prop}{e:Env}{a:Act}{w:J}
theorem uL(aq:c8 e a)(h:pA P o K e w):∃v,(∀w',(execOp a.eval o).run P w'=.ok (.value v) w')/\K v:=by
 unfold pA at h
 cases hf:xA o.op with
 |false=>rw[hf]at h;exact h.elim
 |true=>
  cases c:known e o.op.operands with
  |false=>rw[hf,c]at h;exact h.elim
  |true=>
   rw[hf,c]at h;simp only[Bool.and_self,cond_true]at h;have hc:=jo aq (by cases b:o.op<;>rw[b]at hf<;>first|rfl|cases hf) c;rw[hc];split at h
   .rename_i v w' d
    refine⟨v,λu=>fh.run ?_ d u,h⟩
    cases b:o.op<;>rw[b]at hf<;>first|(cases hf;done)|skip
    .simp only[execOp,b];trivial
    .simp only[execOp,b];trivial
    .simp only[execOp,b]
     refine fh.bind ?_ λ_=>trivial;unfold asBool;split<;>trivial
    .simp only[execOp,b]
     exact fh.bind (Bx _ _ _) λ_=>trivial
   .exact h.elim
theorem ri(aq:c8 e a)(h:nK P o K e):∃v,(∀w',(execOp a.eval o).run P w'=.ok (.value v) w')/\K v:=by
 unfold nK at h;split at h
 .rename_i v b
  exact⟨v,xv aq b,h⟩
 .exact h.elim
theorem By(aq:c8 e a)(h:uK P tk W w o K e):∃v,(∀w',(iy o=true->ae W w w')->(execOp a.eval o).run P w'=.ok (.value v) w')/\K v:=by
 have aY:(∃v,(∀w',(execOp a.eval o).run P w'=.ok (.value v) w')/\K v)->∃v,(∀w',(iy o=true->ae W w w')->(execOp a.eval o).run P w'=.ok (.value v) w')/\K v:=
  λ⟨v,h1,F⟩=>⟨v,λw' _=>h1 w',F⟩
 unfold uK at h;split at h
 case h_1 x b=>
  split at h
  .rename_i p hx
   obtain⟨A,rfl,g⟩:=h;exact⟨_,λw' _=>by simp[execOp,b,aq.ev hx],g⟩
  .exact h.elim
 case h_2 T x b=>
  split at h
  .rename_i A hx
   obtain⟨cD,h⟩:=h;have key:∃v,(∀w',ae W w w'->(Instr.loadAt T (.pointer (some A))).run P w'=.ok v w')/\K v:=by
    have z:∀w',(Instr.loadAt T (.pointer (some A))).run P w'=(loadVar T A).run P w':=λw'=>by simp[Instr.loadAt,Instr.sureAddr]
    unfold nF at h;split at h
    .exact h.elim
    .rename_i d m
     cases hd:gh d with
     |true=>
      rw[hd]at h;simp only[cond_true]at h;split at h
      .rename_i ls _
       by_cases n:Nat.beq (P.cellsOf T) ls.length=true
       .rw[n]at h
        simp only[cond_true]at h;obtain⟨vs,C,h⟩:=uD h;rw[←gZ n]at C;exact⟨_,λw' hc=>by rw[z,q2 m hd (hc.bE cD _ _ _ C)],h⟩
       .simp only[e5]at n;rw[n]at h;exact h.elim
      .obtain⟨cs,G,h⟩:=h
       exact⟨_,λw' hc=>by rw[z,q2 m hd (hc.bE cD _ _ _ G)],h⟩
     |false=>
      rw[hd]at h;simp only[cond_false]at h;split at h
      .obtain⟨v,j,h⟩:=nD h
       exact⟨v,λw' hc=>by rw[z,xa m hd (hc.cell cD j)],h⟩
      .exact h.elim
   obtain⟨v,j,g⟩:=key;exact⟨v,λw' hc=>by simp[execOp,b,aq.ev hx,j w' (hc (by unfold iy;rw[b]))],g⟩
  .exact h.elim
 case h_3 op T x y M b=>
  split at h
  .rename_i l D hx H
   by_cases q:nJ y D=true
   .rw[q]at h
    simp only[cond_true]at h;have I:D=.nilIface->∃c,y=.const c:=by
     intro j;subst j
     cases y<;>simp[nJ]at q⊢
    rcases xg (pq:=x) (nI:=y) I h with hg|⟨v,j,g⟩
    .exact aY (ri aq hg)
    .exact⟨v,λw' _=>by
      simp only[execOp,b,aq.ev hx,aq.ev H];have E:=j w';simp only[Sem.run_bind]at E⊢;rw[E];rfl,g⟩
   .simp only[e5]at q;rw[q]at h;exact h.elim
  .exact h.elim
 case h_4 T x i b=>
  split at h
  .rename_i l J hx hi
   obtain⟨v,j,g⟩:=xi h;exact⟨v,λw' _=>by simp[execOp,b,aq.ev hx,aq.ev hi,j],g⟩
  .exact h.elim
 case h_5 T x i b=>
  split at h
  .rename_i l J hx hi
   obtain⟨v,j,g⟩:=xk h;exact⟨v,λw' _=>by simp[execOp,b,aq.ev hx,aq.ev hi,j],g⟩
  .exact h.elim
 case h_6 T x i b=>
  split at h
  .rename_i l hx
   obtain⟨v,j,g⟩:=xl h;exact⟨v,λw' _=>by simp[execOp,b,aq.ev hx,j],g⟩
  .exact h.elim
 case h_7 T x i b=>
  split at h
  .rename_i l hx
   unfold xB at h;split at h
   .rename_i fs m
    split at h
    .rename_i f hf
     split at h
     .rename_i A
      split at h
      .rename_i d hd
       cases u:Nat.beq (P.cellsOf f.type) 0 with
       |true=>rw[u]at h;exact h.elim
       |false=>
        rw[u]at h;have L:¬P.cellsOf f.type=0:=λh0=>by rw[h0]at u;cases u
        exact⟨_,λw' _=>by simp[execOp,b,aq.ev hx,Instr.fieldAt,cV m,hf,Instr.sureAddr,fieldPlace,gE hd,L],h⟩
      .exact h.elim
     .exact h.elim
    .exact h.elim
   .exact h.elim
  .exact h.elim
 case h_8 x i b=>
  split at h
  .rename_i l hx
   unfold xC at h;split at h
   .rename_i vs
    split at h
    .rename_i v j
     exact⟨v,λw' _=>by simp[execOp,b,aq.ev hx,Instr.extract,j],h⟩
    .exact h.elim
   .exact h.elim
  .exact h.elim
 case h_9 T x lo hi N b=>
  by_cases k:known e o.op.operands=true
  .rw[k]at h
   simp only[cond_true]at h;have hc:=jo aq (by rw[b];rfl) k;obtain⟨v,j,g⟩:=xm h;exact⟨v,λw' _=>by rw[hc];simp[execOp,b,j],g⟩
  .simp only[e5]at k;rw[k]at h;exact h.elim
 case h_10 s d x b=>
  split at h
  .exact aY (ri aq h)
  .rename_i v _ hx
   obtain⟨r,B,g⟩:=g2 h;exact⟨r,λw' hc=>by simp[execOp,b,aq.ev hx,B w' (hc (by unfold iy;rw[b]))],g⟩
  .exact h.elim
 case h_11 t O b=>
  by_cases k:known e o.op.operands=true
  .rw[k]at h
   simp only[cond_true]at h;have hc:=jo aq (by rw[b];rfl) k;obtain⟨cs,B,g⟩:=h;exact⟨_,λw' _=>by rw[hc];simp[execOp,b];rw[B];rfl,g⟩
  .simp only[e5]at k;rw[k]at h;exact h.elim
 case h_12=>exact aY (ri aq h)
 case h_13=>exact aY (ri aq h)
 case h_14=>exact aY (uL aq h)
 case h_15=>exact aY (uL aq h)
 case h_16=>exact aY (uL aq h)
 case h_17 T x b=>
  split at h
  .rename_i l hx
   obtain⟨v,j,g⟩:=xh h;exact⟨v,λw' _=>by simp[execOp,b,aq.ev hx,j],g⟩
  .exact h.elim
 case h_18=>exact h.elim
end
inductive aP where
 |take (i:Nat) (t:aP)
 |bY (i:Nat) (t:aP)
 |out (i:Nat) (b:al) (t:aP)
 |two (i:Nat) (t:aP) (j:Nat) (u:aP)
 |three (i:Nat) (t:aP) (j:Nat) (u:aP) (k:Nat) (v:aP)
 |sp (s:Nat) (t u:aP)
 |fin
 |tail (as:O jO)
def gS:O Nat->Nat
 | []=>0
 |d::l=>2^d|||gS l
theorem kL:∀ (l:O Nat) (k:Nat),(gS l).testBit k=decide (k∈l)
 | [],k=>by simp[gS]
 |d::l,k=>by
  simp only[gS,k9,kL l k,o7]
  by_cases h:d=k
  .subst h;simp
  .have:¬k=d:=λa=>h a.symm
   simp[h,this]
def lv(o:Oper):O Nat:=(o.after.toList.filter λe=>Region.binds .any e).map (·.on)
structure jq where
 M:O Nat
 A:O Nat
def jr(l:O Nat)(i:Nat):Nat:=l.getD i 0
def js(bI:jq)(m i:Nat):al:= !(m.testBit i)&&Nat.beq (jr bI.M i&&&m) (jr bI.M i)
def xD(bI:jq)(N m i:Nat):al:=Nat.beq (jr bI.A i&&&((2^N-1)^^^m)) 0
def jR(bI:jq)(m:Nat)(is:O Nat):Nat->al
 |0=>true
 |k+1=>(is.any (Nat.beq k)|| !(js bI m k))&&jR bI m is k
def pB(bI:jq):Nat->O Oper->al
 |_,[]=>true
 |i,o::l=>Nat.beq (gS (lv o)) (jr bI.M i)&&pB bI (i+1) l
def pC(M:O Nat)(a i b c:Nat):Nat->O Nat->O Nat->O Nat->al
 |j,e::f,d::g,h::k=>(a.testBit j||(Nat.beq i j||(e.testBit i||(Nat.beq (b&&&(h|||d)) 0&&Nat.beq (d&&&c) 0))))&&pC M a i b c (j+1) f g k
 |_,_,_,_=>true
def rj(bI:jq)(D K:O Nat):Nat->O Nat->O Nat->al
 |i,d::a,k::b=>pC bI.M (jr bI.A i) i d k 0 bI.M D K&&rj bI D K (i+1) a b
 |_,_,_=>true
def xE(ops:O Oper):O Nat:=ops.map λo=>gS o.dst.toList
def xF(a:Array Oper)(ops:O Oper):O Nat:=ops.map λo=>gS (o.looksAt a)
def pD:O Nat->O Nat->al
 | [],[]=>true
 |a::l,b::r=>Nat.beq a b&&pD l r
 |_,_=>false
theorem uM:∀ {l r:O Nat},pD l r=true->l=r
 | [],[],_=>rfl
 |a::l,b::r,h=>by
  simp only[pD,dn]at h
  rw[gZ h.1,uM h.2]
def kf(bI:jq)(D K:O Nat)(a:Array Oper):al:=
 Nat.beq bI.M.length a.size&&(pB bI 0 a.toList&&(pD (xE a.toList) D&&(pD (xF a a.toList) K&&rj bI D K 0 D K)))
def pE(bI:jq):Nat->Nat->Nat->Nat->al
 |0,_,N,m=>jR bI m [] N
 |g+1,k,N,m=>(js bI m k&&jR bI m [k] N)&&pE bI g (k+1) N (m|||2^k)
def dx(P:Program)(tk:TypeId->dr)(ops:Array Oper)(n:Nat)(bI:jq)(W:Nat->Prop):aP->Nat->Nat->(Env->J->Prop)->Env->J->Prop
 | .take i t,f+1,m,K,e,w=>
  bif js bI m i&&(xD bI ops.size m i&&Nat.blt i n) then
   match ops[i]? with
   |some o=>gi ops o e (uK P tk W w o (λv=>dx P tk ops n bI W t f (m|||2^i) K (c1 o.dst v e) w) e) (dx P tk ops n bI W t f (m|||2^i) K (c1 o.dst undef e) w)
   |none=>False
  else False
 | .bY i t,f+1,m,K,e,w=>
  bif (js bI m i&&jR bI m [i] ops.size)&&Nat.blt i n then
   match ops[i]? with
   |some o=>gi ops o e (ix P tk o (λv w'=>ae W w w'/\dx P tk ops n bI W t f (m|||2^i) K (c1 o.dst v e) w') e w) (dx P tk ops n bI W t f (m|||2^i) K (c1 o.dst undef e) w)
   |none=>False
  else False
 | .out i b t,f+1,m,K,e,w=>
  bif (js bI m i&&jR bI m [i] ops.size)&&(Nat.blt i n&&Nat.beq ((jQ 0 ops.toList&&&m)&&&jr bI.M i) (jQ 0 ops.toList&&&m)) then
   match ops[i]? with
   |some o=>gi ops o e (ix P tk o (λv w'=>bif b then ∃V:Nat->Prop,dx P tk ops n bI V t f (m|||2^i) K (c1 o.dst v e) w' else dx P tk ops n bI W t f (m|||2^i) K (c1 o.dst v e) w') e w) (dx P tk ops n bI W t f (m|||2^i) K (c1 o.dst undef e) w)
   |none=>False
  else False
 | .two i t j u,f+1,m,K,e,w=>
  bif (js bI m i&&jR bI m [i,j] ops.size)&&(Nat.blt i n&&Nat.blt j n) then
   match ops[i]?,ops[j]? with
   |some o,some q=>
    gi ops o e (ix P tk o (λv w'=>ae W w w'/\dx P tk ops n bI W t f (m|||2^i) K (c1 o.dst v e) w') e w) (dx P tk ops n bI W t f (m|||2^i) K (c1 o.dst undef e) w)/\
    gi ops q e (ix P tk q (λv w'=>ae W w w'/\dx P tk ops n bI W u f (m|||2^j) K (c1 q.dst v e) w') e w) (dx P tk ops n bI W u f (m|||2^j) K (c1 q.dst undef e) w)
   |_,_=>False
  else False
 | .three i t j u k x,f+1,m,K,e,w=>
  bif (js bI m i&&jR bI m [i,j,k] ops.size)&&(Nat.blt i n&&(Nat.blt j n&&Nat.blt k n)) then
   match ops[i]?,ops[j]?,ops[k]? with
   |some o,some q,some r=>
    gi ops o e (ix P tk o (λv w'=>ae W w w'/\dx P tk ops n bI W t f (m|||2^i) K (c1 o.dst v e) w') e w) (dx P tk ops n bI W t f (m|||2^i) K (c1 o.dst undef e) w)/\
    gi ops q e (ix P tk q (λv w'=>ae W w w'/\dx P tk ops n bI W u f (m|||2^j) K (c1 q.dst v e) w') e w) (dx P tk ops n bI W u f (m|||2^j) K (c1 q.dst undef e) w)/\
    gi ops r e (ix P tk r (λv w'=>ae W w w'/\dx P tk ops n bI W x f (m|||2^k) K (c1 r.dst v e) w') e w) (dx P tk ops n bI W x f (m|||2^k) K (c1 r.dst undef e) w)
   |_,_,_=>False
  else False
 | .sp s t u,f,m,K,e,w=>
  match e.get s with
  |some (.bool c)=>(c=true->dx P tk ops n bI W t f m K ((s,.bool true)::e) w)/\(c=false->dx P tk ops n bI W u f m K ((s,.bool false)::e) w)
  |_=>False
 | .fin,0,m,K,e,w=>bif jR bI m [] ops.size&&Nat.beq n ops.size then K e w else False
 | .tail as,0,m,K,e,w=>bif pE bI (ops.size-n) n ops.size m&&Nat.blt n ops.size then fg P tk ops (ops.size-n+1) (ops.toList.drop n) as K e w else False
 |_,_,_,_,_,_=>False
def dV(N m:Nat):Array al:=(Array.range N).map λi=>m.testBit i
theorem nL{N m i:Nat}{d:al}(h:i<N):(dV N m).getD i d=m.testBit i:=by
 simp[dV,h]
theorem Bz{N m i:Nat}{d:al}(h:N<=i):(dV N m).getD i d=d:=by
 simp[dV,h]
theorem rk(N m i:Nat):(dV N m).setIfInBounds i true=dV N (m|||2^i):=by
 apply Array.ext
 .simp[dV]
 .intro j h1 b
  have c:j<N:=by simpa[dV] using b
  have d:j<(dV N m).size:=by simpa[dV] using c
  rw[Array.getElem_setIfInBounds d];simp only[dV,Array.getElem_map,Array.getElem_range,k9,o7];by_cases a:i=j
  .subst a;simp
  .simp[a]
theorem xG(N:Nat):dV N 0=Array.replicate N false:=by
 apply Array.ext
 .simp[dV]
 .intro j h1 a
  simp[dV]
section
variable {ops:Array Oper}{bI:jq}{D K:O Nat}
theorem xH:∀ (l:O Oper) (i k:Nat) (o:Oper),pB bI i l=true->l[k]? =some o->jr bI.M (i+k)=gS (lv o)
 | [],_,_,_,_,h=>by simp at h
 |p::l,i,0,o,hc,h=>by
  simp only[pB,dn]at hc
  simp only[l9,Option.some.injEq]at h
  subst h
  exact(gZ hc.1).symm
 |p::l,i,k+1,o,hc,h=>by
  simp only[pB,dn]at hc
  have:=xH l (i+1) k o hc.2 (by simpa using h)
  rw[show i+(k+1)=i+1+k from I]
  exact this
theorem rl(h:kf bI D K ops=true){i:Nat}{o:Oper}(a:ops[i]? =some o):jr bI.M i=gS (lv o):=by
 simp only[kf,dn]at h;have:=xH ops.toList 0 i o h.2.1 (by simpa using a);simpa using this
theorem xI{a b:Nat}(h:a&&&b=a){k:Nat}(c:a.testBit k=true):b.testBit k=true:=by
 have:=congrArg (λx=>x.testBit k) h;simp only[Nat.testBit_and,c,h4]at this;exact this
theorem xJ:∀ (l:O Oper) (i k:Nat) (o:Oper),l[k]? =some o->(jQ i l).testBit (i+k)=iy o
 | [],_,_,_,h=>by simp at h
 |p::l,i,0,o,h=>by
  simp only[l9,Option.some.injEq]at h
  subst h
  have low:∀ (l:O Oper) (i k:Nat),k<i->(jQ i l).testBit k=false:=by
   intro l
   induction l with
   |nil=>intro i k _;simp[jQ]
   |cons q l a=>
    intro i k b;simp only[jQ]
    cases iy q
    .exact a (i+1) k I
    .simp only[cond_true,k9,o7,a (i+1) k I,Bool.or_false,j9]
     omega
  simp only[jQ,k8]
  cases iy p
  .exact low l (i+1) i I
  .simp[k9]
 |p::l,i,k+1,o,h=>by
  have:=xJ l (i+1) k o (by simpa using h);rw[show i+1+k=i+(k+1) from I]at this;simp only[jQ]
  cases iy p
  .exact this
  .simp only[cond_true,k9,o7,this]
   simp
theorem rm{o:Oper}{k:Nat}:k∈lv o↔∃e∈o.after,Region.binds .any e=true/\e.on=k:=by
 simp only[lv,e6,gf,Array.mem_toList_iff];constructor
 .rintro⟨e,⟨h1,a⟩,b⟩;exact⟨e,h1,a,b⟩
 .rintro⟨e,h1,a,b⟩;exact⟨e,⟨h1,a⟩,b⟩
def Small(N m:Nat):Prop:=∀k,N<=k->m.testBit k=false
theorem BA(N:Nat):Small N 0:=λk _=>by simp
theorem rn{N m i:Nat}(h:Small N m)(hi:i<N):Small N (m|||2^i):=λk a=>by
 simp only[k9,h k a,o7,k_,j9]
 omega
theorem rp(hc:kf bI D K ops=true){m i:Nat}(g:Small ops.size m):i∈Region.ready .any ops (dV ops.size m)↔i<ops.size/\js bI m i=true:=by
 rw[mem_ready];constructor
 .rintro⟨h1,o,b,j⟩
  have hi:i<ops.size:=(kB.1 b).1;refine⟨hi,?_⟩;rw[nL hi]at h1;simp only[js,h1,Bool.not_false,h4];rw[rl hc b];have:gS (lv o)&&&m=gS (lv o):=by
   apply Nat.eq_of_testBit_eq;intro k;simp only[Nat.testBit_and,kL];by_cases c:k∈lv o
   .obtain⟨e,he,d,l⟩:=rm.1 c
    have a:=j e he d;rw[l]at a;rcases ed k ops.size with aI|n
    .rw[nL aI]at a;simp[c,a]
    .rw[Bz n]at a;cases a
   .simp[c]
  rw[this];exact Nat.beq_refl _
 .rintro⟨hi,h⟩
  simp only[js,dn,iI]at h;have b:ops[i]? =some ops[i]:=by simp[hi]
  refine⟨by rw[nL hi];exact h.1,ops[i],b,λe he d=>?_⟩;have a:=gZ h.2;rw[rl hc b]at a;have f:m.testBit e.on=true:=xI a (by
   rw[kL];simp only[cA];exact rm.2 ⟨e,he,d,rfl⟩)
  have aI:e.on<ops.size:=by
   rcases ed e.on ops.size with h|h
   .exact h
   .rw[g _ h]at f;cases f
  rw[nL aI];exact f
theorem xK:∀ (N:Nat) {m:Nat}{is:O Nat},jR bI m is N=true->∀k,k<N->js bI m k=true->k∈is
 |0,_,_,_,k,c,_=>by omega
 |N+1,m,is,h,k,c,b=>by
  simp only[jR,dn,h5,iI]at h
  rcases ed k N with h1|h1
  .exact xK N h.2 k h1 b
  .have:k=N:=by omega
   subst this
   rcases h.1 with a|a
   .obtain⟨x,hx,d⟩:=List.any_eq_true.1 a
    rw[gZ d];exact hx
   .rw[b]at a;cases a
theorem mo(hc:kf bI D K ops=true){m:Nat}{is:O Nat}(a:Small ops.size m)(h:jR bI m is ops.size=true):
 ∀k∈Region.ready .any ops (dV ops.size m),k∈is:=λk b=>
 let ⟨h1,c⟩:=(rp hc a).1 b
 xK _ h k h1 c
theorem xL:∀ (b c d:O Nat) (n:O Nat) (e i f g j k:Nat) (l a m:Nat),pC n e i f g j b c d=true->b[k]? =some l->c[k]? =some a->d[k]? =some m->
 e.testBit (j+k)=true\/i=j+k\/l.testBit i=true\/(f&&&(m|||a)=0/\a&&&g=0)
 | [],_,_,_,_,_,_,_,_,_,_,_,_,_,h,_,_=>by simp at h
 |_::_,[],_,_,_,_,_,_,_,_,_,_,_,_,_,h,_=>by simp at h
 |_::_,_::_,[],_,_,_,_,_,_,_,_,_,_,_,_,_,h=>by simp at h
 |q::b,r::c,s::d,n,e,i,f,g,j,k,l,a,m,hc,h1,o,p=>by
  simp only[pC,dn,h5]at hc
  cases k with
  |zero=>
   simp only[l9,Option.some.injEq]at h1 o p
   subst h1 o p
   rcases hc.1 with h|h|h|h
   .exact .inl h
   .exact .inr (.inl (gZ h))
   .exact .inr (.inr (.inl h))
   .exact .inr (.inr (.inr ⟨gZ h.1,gZ h.2⟩))
  |succ k=>
   have:=xL b c d n e i f g (j+1) k l a m hc.2 (by simpa using h1) (by simpa using o) (by simpa using p)
   rw[show j+(k+1)=j+1+k from I]
   exact this
theorem xM:∀ (a b:O Nat) (i k:Nat) (c e:Nat),rj bI D K i a b=true->a[k]? =some c->b[k]? =some e->
 pC bI.M (jr bI.A (i+k)) (i+k) c e 0 bI.M D K=true
 | [],_,_,_,_,_,_,h,_=>by simp at h
 |_::_,[],_,_,_,_,_,_,h=>by simp at h
 |d::a,g::b,i,k,c,e,hc,h1,f=>by
  simp only[rj,dn]at hc
  cases k with
  |zero=>
   simp only[l9,Option.some.injEq]at h1 f
   subst h1 f
   exact hc.1
  |succ k=>
   have:=xM a b (i+1) k c e hc.2 (by simpa using h1) (by simpa using f)
   rw[show i+(k+1)=i+1+k from I]
   exact this
theorem uN{a b:Nat}(h:a&&&b=0){k:Nat}(c:a.testBit k=true):b.testBit k=false:=by
 have:=congrArg (λx=>x.testBit k) h;simp only[Nat.testBit_and,c,h4,Nat.zero_testBit]at this;exact this
theorem BB{x y:Oper}(h1:gS x.dst.toList&&&(gS (y.looksAt ops)|||gS y.dst.toList)=0)(b:gS y.dst.toList&&&gS (x.looksAt ops)=0):
 x.apart ops y=true:=by
 unfold Oper.apart;simp only[dn];refine⟨?_,?_⟩
 .cases hx:x.dst with
  |none=>rfl
  |some d=>
   rw[hx]at h1;have a:=uN h1 (k:=d) (by rw[kL];simp);simp only[k9,kL,o8,j9]at a;simp only[dn,iI,bne_iff_ne,ne_eq];refine⟨by simpa using a.1,λh=>?_⟩;rw[h]at a;simp at a
 .cases c:y.dst with
  |none=>rfl
  |some d=>
   rw[c]at b;have a:=uN b (k:=d) (by rw[kL];simp);simp only[kL,j9]at a;simpa using a
theorem BC(hc:kf bI D K ops=true){m i:Nat}{d:Oper}(hi:ops[i]? =some d)(h:xD bI ops.size m i=true):
 ∀j a,ops[j]? =some a->j≠i->(dV ops.size m).getD j true=false->(∀e∈a.after,Region.binds .any e=true->e.on≠i)->d.apart ops a=true:=by
 intro j a b p f q;have r:=hc;simp only[kf,dn]at hc;obtain⟨hlen,C,s,t,aq⟩:=hc;have E:=gZ hlen;have u:=uM s;have v:=uM t;have g:j<ops.size:=(kB.1 b).1;have l:∀ {k:Nat}{o:Oper},ops[k]? =some o->D[k]? =some (gS o.dst.toList):=λ{k o} c=>by
  rw[←u];simp[xE,c]
 have n:∀ {k:Nat}{o:Oper},ops[k]? =some o->K[k]? =some (gS (o.looksAt ops)):=λ{k o} c=>by
  rw[←v];simp[xF,c]
 have w:=xM D K 0 i _ _ aq (l hi) (n hi);have x:bI.M[j]? =some (jr bI.M j):=by
  unfold jr;have:j<bI.M.length:=by omega
  simp[List.getD,this]
 have:=xL bI.M D K bI.M _ _ _ _ 0 j _ _ _ w x (l b) (n b);simp only[cU]at this;rcases this with h1|h1|h1|h1
 .exfalso
  have y:=gZ h;have z:=uN y h1;rw[nL g]at f;simp[Nat.testBit_xor,Nat.testBit_two_pow_sub_one,g,f]at z
 .exact absurd h1.symm p
 .exfalso
  rw[rl r b,kL]at h1;simp only[cA]at h1;obtain⟨e,he,A,B⟩:=rm.1 h1;exact q e he A B
 .exact BB h1.1 h1.2
end
def mq(ops:Array Oper)(listed:Array al)(j:Nat):Prop:=
 ∀k ok a,ops[k]? =some ok->ops[j]? =some a->iy ok=true->listed.getD k false=true->∃e∈a.after,Region.binds .any e=true/\e.on=k
def kg(P:Program)(ops:Array Oper)(Q:Exit->Act->J->Prop)(n:Nat)(L:Array al->Act->J->Prop):Nat->(J->Prop)->Array al->Act->J->Prop
 |0,_,listed,a,w=>L listed a w
 |f+1,S,listed,a,w=>Region.ready .any ops listed≠ []/\
  ∀i∈Region.ready .any ops listed,i<n/\wpOp P ops Q i (λb w'=>∃aE:J->Prop,((∀x,aE x->S x)\/mq ops listed i)/\aE w'/\kg P ops Q n L f aE (listed.setIfInBounds i true) b w') a w
def pF(ops:Array Oper)(n:Nat):Prop:=
 ∀listed,HeadInv .any ops n listed->∀i,i<n->listed.getD i true=false->∀t,n<=t->t∉Region.ready .any ops listed
theorem BD(ops:Array Oper):pF ops ops.size:=by
 intro listed _ i _ _ t ht a;obtain⟨_,o,b,_⟩:=mem_ready.1 a;have:=(kB.1 b).1;omega
theorem BE{ops:Array Oper}{n:Nat}(hs:Region.sinkB .any ops n=true)(hc:Region.chainB .any ops n=true)(a:n<ops.size):pF ops n:=
 λ_ inv i hi b t ht=>tail_waits hs hc a inv _ i rfl hi b t ht
section
variable {P:Program}{ops:Array Oper}{Q:Exit->Act->J->Prop}{n:Nat}{L:Array al->Act->J->Prop}
theorem YieldsIf.mono{S aE:J->Prop}{o:Oper}{v:Y}{a:Act}(h:YieldsIf P ops S o v a)(hs:∀x,aE x->S x):YieldsIf P ops aE o v a:=
 h.imp (λ⟨h1,b⟩=>⟨h1,λw c=>b w (hs w c)⟩) id
theorem BF(E:pF ops n){i:Nat}{l:Oper}{v:Y}(hi:ops[i]? =some l)(F:∀ (j:Nat) (o:Oper) cs b,ops[j]? =some o->o.op≠ .select cs b)
 (ac:∀c a w,Q (.panic c) (a.put l.dst v) w->Q (.panic c) a w) (G:i<n) (ad:∀listed a w,L listed a w->∀j∈Region.ready .any ops listed,n<=j):
 ∀ (f:Nat) (S T:J->Prop) (listed:Array al) (a:Act) (w:J),(∀x,S x->T x)->(iy l=true\/∀x,T x)->HeadInv .any ops n listed->
  (∀j q,ops[j]? =some q->j≠i->listed.getD j true=false->(∀e∈q.after,Region.binds .any e=true->e.on≠i)->l.apart ops q=true)->
  i∈Region.ready .any ops listed->YieldsIf P ops T l v a->S w->
  kg P ops Q n L f S (listed.setIfInBounds i true) (a.put l.dst v) w->kg P ops Q n L (f+1) S listed a w:=by
 intro f
 induction f with
 |zero=>
  intro S T listed a w u I inv _ m y s H;have d:=(mem_ready.1 m).1;refine⟨λh=>(by rw[h]at m;cases m),λj r=>?_⟩;have t:j<n:=by
   rcases ed j n with h|h
   .exact h
   .exact absurd r (E listed inv i G d j h)
  refine⟨t,?_⟩;by_cases p:j=i
  .subst p;exact(YieldsIf.mono y u).wpOp hi s ⟨S,.inl λ_ h=>h,s,H⟩
  .have:=ad _ _ _ H j (ready_mono r p)
   omega
 |succ f K=>
  intro S T listed a w u I inv M m y s H;have d:=(mem_ready.1 m).1;refine⟨λh=>(by rw[h]at m;cases m),λj r=>?_⟩;have t:j<n:=by
   rcases ed j n with h|h
   .exact h
   .exact absurd r (E listed inv i G d j h)
  refine⟨t,?_⟩;by_cases p:j=i
  .subst p;exact(YieldsIf.mono y u).wpOp hi s ⟨S,.inl λ_ h=>h,s,H⟩
  .have h1:=(H.2 j (ready_mono r p)).2
   obtain⟨N,q,z,ae⟩:=mem_ready.1 r;have O:∀e∈q.after,Region.binds .any e=true->e.on≠i:=λe he B af=>by
    have h1:=ae e he B;rw[af,getD_both d]at h1
    cases h1
   have ag:=wpOp_putIf z (M j q z p N O) (λcs b=>F i l cs b hi) (λcs b=>F j q cs b z) ac y h1;have R:∀k ok,ops[k]? =some ok->k≠i->(listed.setIfInBounds j true).getD k true=false->
    (∀e∈ok.after,Region.binds .any e=true->e.on≠i)->l.apart ops ok=true:=λk ok C ah d ai=>by
    refine M k ok C ah ?_ ai;by_cases U:j=k
    .subst U;exact N
    .rw[getD_set_ne true U]at d;exact d
   refine wpOp_mono (λV w' aj=>?_) ag;obtain⟨W,aE,X,A,ak⟩:=aj;have D:=ak;rw[←Array.setIfInBounds_comm _ _ p]at D;have am:mq ops (listed.setIfInBounds i true) j->mq ops listed j:=λan k ok ao C ap hs g=>an k ok ao C ap hs (by
    by_cases Z:i=k
    .subst Z
     have:listed.getD i true=true:=by
      simp only[Array.getD]at g⊢;split at g
      .rename_i aI;simp[aI]at g⊢;exact g
      .cases g
     rw[this]at d;cases d
    .simp only[Array.getD,Array.size_setIfInBounds]at g⊢
     split at g
     .rename_i aI
      simp only[aI,dif_pos];simp only[Array.getInternal_eq_getElem]at g⊢;rw[Array.getElem_setIfInBounds_ne _ Z];exact g
     .cases g)
   rcases I with hs|aa
   .have ab:∀x,aE x->S x:=by
     rcases X with h|h
     .exact h
     .exfalso
      obtain⟨e,he,B,aq⟩:=h i l q hi z hs (by
       have aI:i<listed.size:=by
        rcases ed i listed.size with h|h
        .exact h
        .simp[Array.getD,Nat.not_lt.2 h]at d
       simp[Array.getD,aI])
      exact O e he B aq
    exact⟨aE,.inl ab,A,K aE T (listed.setIfInBounds j true) V w' (λx hx=>u x (ab x hx)) (.inl hs) (inv.set r t) R (ready_mono m (Ne.symm p)) W A D⟩
   .exact⟨aE,X.imp id am,A,K aE T (listed.setIfInBounds j true) V w' (λx _=>aa x) (.inr aa) (inv.set r t) R (ready_mono m (Ne.symm p)) W A D⟩
theorem xN{g:Nat}(b:∀listed a w,L listed a w->wpAny P .any ops Q g listed a w):
 ∀ (f:Nat) (S:J->Prop) (listed:Array al) (a:Act) (w:J),kg P ops Q n L f S listed a w->wpAny P .any ops Q (f+g) listed a w
 |0,_,listed,a,w,h=>by rw[cU];exact b _ _ _ h
 |f+1,S,listed,a,w,h=>by
  rw[show f+1+g=(f+g)+1 from I]
  exact⟨λh0=>absurd h0 h.1,λi hi=>wpOp_mono (λc w' ⟨aE,_,_,d⟩=>xN b f aE _ c w' d) (h.2 i hi).2⟩
def LE(P:Program)(ops:Array Oper)(Q:Exit->Act->J->Prop)(n:Nat)(listed:Array al)(a:Act)(w:J):Prop:=
 (Region.ready .any ops listed=[]/\n=ops.size/\Q .normal a w)\/
 (Region.seqB .any ops (ops.size-n) n listed=true/\n<ops.size/\wpList P ops Q (ops.toList.drop n) a w)
theorem BG:∀listed a w,LE P ops Q n listed a w->∀j∈Region.ready .any ops listed,n<=j:=by
 rintro listed a w (⟨h,_,_⟩|⟨h,c,_⟩) j b
 .rw[h]at b;cases b
 .exact seqB_ready h j b
theorem BH:∀listed a w,LE P ops Q n listed a w->wpAny P .any ops Q (ops.size-n) listed a w:=by
 rintro listed a w (⟨h,c,b⟩|⟨h,c,b⟩)
 .subst c
  rw[nt];exact⟨h,b⟩
 .have:=wpAny_of_seq (md:=.any) (P:=P) (Q':=Q) (ops.toList.drop n) n listed a w (λj=>by simp[qN]) (by simpa using h) b
  simpa using this
end
section
variable {P:Program}{tk:TypeId->dr}{ops:Array Oper}{n:Nat}{bI:jq}{D0 dC:O Nat}{W:Nat->Prop}
theorem xO(hc:kf bI D0 dC ops=true):∀ (g k m:Nat),Small ops.size m->k+g=ops.size->pE bI g k ops.size m=true->Region.seqB .any ops g k (dV ops.size m)=true
 |0,k,m,c,e,h=>by
  simp only[pE]at h
  simp only[Region.seqB,List.isEmpty_iff]
  cases f:Region.ready .any ops (dV ops.size m) with
  |nil=>rfl
  |cons x l=>
   have:=mo hc c h x (by rw[f];simp)
   cases this
 |g+1,k,m,c,e,h=>by
  simp only[pE,dn]at h
  simp only[Region.seqB,dn,cA]
  have d:k<ops.size:=by omega
  have b:k∈Region.ready .any ops (dV ops.size m):=(rp hc c).2 ⟨d,h.1.1⟩
  refine⟨?_,?_⟩
  .have a:=mo hc c h.1.2
   have ej:(Region.ready .any ops (dV ops.size m)).Nodup:=by
    unfold Region.ready;exact List.Pairwise.filter _ List.nodup_range
   revert b a ej
   generalize Region.ready .any ops (dV ops.size m)=l;intro b a ej
   match l,b,a,ej with
   | [],b,_,_=>cases b
   | [x],b,a,_=>rw[fo.1 (a x (by simp))]
   |x::y::l,_,a,ej=>
    have hx:=fo.1 (a x (by simp));have i:=fo.1 (a y (by simp));simp[hx,i]at ej
  .rw[rk]
   exact xO hc g (k+1) (m|||2^k) (rn c d) I h.2
theorem BI(hc:kf bI D0 dC ops=true)(an:pF ops n)(aH:n<=ops.size)(ao:Region.noSelect ops=true){a0:Act}(ad:∀d∈bA ops.toList,d<a0.tmps.size):
 ∀ (t:aP) (W:Nat->Prop) (f:Nat) (m:Nat) (K:Env->J->Prop) (e:Env) (a:Act) (w:J),c8 e a->dA (bA ops.toList) a0 a->Small ops.size m->HeadInv .any ops n (dV ops.size m)->
  dx P tk ops n bI W t f m K e w->kg P ops (fQ a0 (bA ops.toList) K) n (LE P ops (fQ a0 (bA ops.toList) K) n) f (ae W w) (dV ops.size m) a w:=by
 intro t;have Q:∀ (i:Nat) (o:Oper),ops[i]? =some o->∀k,o.dst=some k->k∈bA ops.toList:=by
  intro i o z k g;simp only[bA,List.mem_filterMap];exact⟨o,by simpa using Array.mem_of_getElem? z,g⟩
 have R:∀ (W:Nat->Prop) (t:aP),(∀ (W:Nat->Prop) (f:Nat) (m:Nat) (K:Env->J->Prop) (e:Env) (a:Act) (w:J),c8 e a->dA (bA ops.toList) a0 a->Small ops.size m->HeadInv .any ops n (dV ops.size m)->
  dx P tk ops n bI W t f m K e w->kg P ops (fQ a0 (bA ops.toList) K) n (LE P ops (fQ a0 (bA ops.toList) K) n) f (ae W w) (dV ops.size m) a w)->
  ∀ (f:Nat) (m:Nat) (K:Env->J->Prop) (e:Env) (a:Act) (w:J) (i:Nat) (o:Oper),c8 e a->dA (bA ops.toList) a0 a->Small ops.size m->HeadInv .any ops n (dV ops.size m)->
  i∈Region.ready .any ops (dV ops.size m)->i<n->ops[i]? =some o->
  gi ops o e (ix P tk o (λv w'=>ae W w w'/\dx P tk ops n bI W t f (m|||2^i) K (c1 o.dst v e) w') e w) (dx P tk ops n bI W t f (m|||2^i) K (c1 o.dst undef e) w)->
  wpOp P ops (fQ a0 (bA ops.toList) K) i (λaj w'=>∃aE:J->Prop,((∀x,aE x->ae W w x)\/mq ops (dV ops.size m) i)/\aE w'/\kg P ops (fQ a0 (bA ops.toList) K) n (LE P ops (fQ a0 (bA ops.toList) K) n) f aE ((dV ops.size m).setIfInBounds i true) aj w') a w:=by
  intro W t O f m K e a w i o aq g p inv S L z h;have next:∀ (v:Y) (w':J),ae W w w'->dx P tk ops n bI W t f (m|||2^i) K (c1 o.dst v e) w'->
   ∃aE:J->Prop,((∀x,aE x->ae W w x)\/mq ops (dV ops.size m) i)/\aE w'/\kg P ops (fQ a0 (bA ops.toList) K) n (LE P ops (fQ a0 (bA ops.toList) K) n) f aE ((dV ops.size m).setIfInBounds i true) (a.put o.dst v) w':=by
   intro v w' ap h;have A:dA (bA ops.toList) a (a.put o.dst v):=dA.put (Q i o z);have hinv:=inv.set S L;rw[rk]at hinv⊢;exact⟨ae W w',.inl λx hx=>ap.trans hx,.refl _ _,O W f _ K _ _ w' (aq.put λk U=>by rw[g.size];exact ad k (Q i o z k U)) (g.trans A) (rn p I) hinv h⟩
  unfold wpOp;simp only[z];rcases pz aq h with ⟨G,H⟩|⟨G,H⟩
  .simp only[G,if_true]
   exact .inl ((ra aq H).wp λv w' ⟨h1,F⟩=>next v w' h1 F)
  .simp only[G,fl,if_false]
   exact next _ _ (.refl _ _) H
 have af:∀ {b c d:al}{X:Prop},(bif b&&(c&&d) then X else False)->b=true/\c=true/\d=true/\X:=by
  intro b c d X h
  cases b<;>cases c<;>cases d<;>first|exact h.elim|exact⟨rfl,rfl,rfl,h⟩
 have ah:∀ {b c:al}{X:Prop},(bif b&&c then X else False)->b=true/\c=true/\X:=by
  intro b c X h
  cases b<;>cases c<;>first|exact h.elim|exact⟨rfl,rfl,h⟩
 have B:∀ {i j:Nat},Nat.blt i j=true->i<j:=λh=>by
  have:=ld h;omega
 have ne_nil:∀ {m i:Nat},Small ops.size m->js bI m i=true->i<ops.size->Region.ready .any ops (dV ops.size m)≠ []:=λp h hi h0=>by
  have:=(rp hc p).2 ⟨hi,h⟩;rw[h0]at this;cases this
 induction t with
 |take i t O=>
  intro W f m K e a w aq g p inv h
  cases f with
  |zero=>simp[dx]at h
  |succ f=>
   simp only[dx]at h;obtain⟨h1,F,D,h⟩:=af h;have L:=B D;have S:i∈Region.ready .any ops (dV ops.size m):=(rp hc p).2 ⟨I,h1⟩;split at h
   .rename_i o z
    have fin:∀v,YieldsIf P ops (λx=>iy o=true->ae W w x) o v a->dx P tk ops n bI W t f (m|||2^i) K (c1 o.dst v e) w->
     kg P ops (fQ a0 (bA ops.toList) K) n (LE P ops (fQ a0 (bA ops.toList) K) n) (f+1) (ae W w) (dV ops.size m) a w:=by
     intro v ar h;have A:dA (bA ops.toList) a (a.put o.dst v):=dA.put (Q i o z);refine BF an z (Region.noSelect_spec ao) (λc a w Z=>by cases Z.1) L BG f (ae W w) (λx=>iy o=true->ae W w x) _ a w (λ_ h _=>h) (by cases hs:iy o<;>simp) inv (BC hc z F) S ar (.refl _ _) ?_;have hinv:=inv.set S L;rw[rk]at hinv⊢;exact O W f _ K _ _ w (aq.put λk U=>by rw[g.size];exact ad k (Q i o z k U)) (g.trans A) (rn p I) hinv h
    rcases pz aq h with ⟨G,H⟩|⟨G,H⟩
    .obtain⟨v,au,aw⟩:=By aq H
     exact fin v (.inl ⟨G,λw' hc=>au w' hc⟩) aw
    .exact fin undef (.inr ⟨G,rfl⟩) H
   .exact h.elim
 |bY i t O=>
  intro W f m K e a w aq g p inv h
  cases f with
  |zero=>simp[dx]at h
  |succ f=>
   simp only[dx]at h;obtain⟨C,D,h⟩:=ah h;simp only[dn]at C;have L:=B D;split at h
   .rename_i o z
    refine⟨ne_nil p C.1 I,λj aa=>?_⟩;have ai:j=i:=by simpa using mo hc p C.2 j aa
    subst ai;exact⟨L,R W t O f m K e a w j o aq g p inv aa L z h⟩
   .exact h.elim
 |out i b t O=>
  intro W f m K e a w aq g p inv h
  cases f with
  |zero=>simp[dx]at h
  |succ f=>
   simp only[dx]at h;obtain⟨C,D,N,h⟩:=af h;simp only[dn]at C;have L:=B D;have N:=gZ N;split at h
   .rename_i o z
    refine⟨ne_nil p C.1 I,λj aa=>?_⟩;have ai:j=i:=by simpa using mo hc p C.2 j aa
    subst ai;refine⟨L,?_⟩;have ax:mq ops (dV ops.size m) j:=by
     intro k ok aI A ay hs ak;have az:k<ops.size:=(kB.1 A).1;rw[nL az]at ak;have aA:(jQ 0 ops.toList&&&m).testBit k=true:=by
      rw[Nat.testBit_and,ak,Bool.and_true];exact(xJ ops.toList 0 k ok (by simpa using A)).trans hs|>(by simpa using ·)
     have T:(jr bI.M j).testBit k=true:=xI N aA;rw[rl hc ay,kL]at T;simp only[cA]at T;exact rm.1 T
    have next:∀ (v:Y) (w':J) (V:Nat->Prop),dx P tk ops n bI V t f (m|||2^j) K (c1 o.dst v e) w'->
     ∃aE:J->Prop,((∀x,aE x->ae W w x)\/mq ops (dV ops.size m) j)/\aE w'/\kg P ops (fQ a0 (bA ops.toList) K) n (LE P ops (fQ a0 (bA ops.toList) K) n) f aE ((dV ops.size m).setIfInBounds j true) (a.put o.dst v) w':=by
     intro v w' V h;have A:dA (bA ops.toList) a (a.put o.dst v):=dA.put (Q j o z);have hinv:=inv.set aa L;rw[rk]at hinv⊢;exact⟨ae V w',.inr ax,.refl _ _,O V f _ K _ _ w' (aq.put λk U=>by rw[g.size];exact ad k (Q j o z k U)) (g.trans A) (rn p I) hinv h⟩
    unfold wpOp;simp only[z];rcases pz aq h with ⟨G,H⟩|⟨G,H⟩
    .simp only[G,if_true]
     refine .inl ((ra aq H).wp λv w' F=>?_)
     cases b with
     |true=>
      obtain⟨V,F⟩:=F;exact next v w' V F
     |false=>exact next v w' W F
    .simp only[G,fl,if_false]
     exact next _ _ W H
   .exact h.elim
 |two i t j u ab ac=>
  intro W f m K e a w aq g p inv h
  cases f with
  |zero=>simp[dx]at h
  |succ f=>
   simp only[dx]at h;obtain⟨C,D,N,h⟩:=af h;simp only[dn]at C;have hi:=B D;split at h
   .rename_i o q z Z
    refine⟨ne_nil p C.1 I,λk A=>?_⟩;have E:k=i\/k=j:=by simpa using mo hc p C.2 k A
    rcases E with E|E
    .subst E
     exact⟨B D,R W t ab f m K e a w k o aq g p inv A (B D) z h.1⟩
    .subst E
     exact⟨B N,R W u ac f m K e a w k q aq g p inv A (B N) Z h.2⟩
   .exact h.elim
 |three i t j u k x ab ac aB=>
  intro W f m K e a w aq g p inv h
  cases f with
  |zero=>simp[dx]at h
  |succ f=>
   simp only[dx]at h;obtain⟨C,D,aC,h⟩:=af (d:=_) h;obtain⟨N,T⟩:Nat.blt j n=true/\Nat.blt k n=true:=by simpa using aC
   simp only[dn]at C;have hi:=B D;split at h
   .rename_i o q r z Z aD
    refine⟨ne_nil p C.1 I,λy A=>?_⟩;have E:y=i\/y=j\/y=k:=by simpa using mo hc p C.2 y A
    rcases E with E|E|E
    .subst E
     exact⟨B D,R W t ab f m K e a w y o aq g p inv A (B D) z h.1⟩
    .subst E
     exact⟨B N,R W u ac f m K e a w y q aq g p inv A (B N) Z h.2.1⟩
    .subst E
     exact⟨B T,R W x aB f m K e a w y r aq g p inv A (B T) aD h.2.2⟩
   .exact h.elim
 |sp s t u ab ac=>
  intro W f m K e a w aq g p inv h;have ag:match e.get s with
   |some (.bool c)=>(c=true->dx P tk ops n bI W t f m K ((s,.bool true)::e) w)/\(c=false->dx P tk ops n bI W u f m K ((s,.bool false)::e) w)
   |_=>False:=by cases f<;>simpa only[dx] using h
  split at ag
  .rename_i c hs
   cases c with
   |true=>exact ab W f m K _ a w (aq.lit hs) g p inv (ag.1 rfl)
   |false=>exact ac W f m K _ a w (aq.lit hs) g p inv (ag.2 rfl)
  .exact ag.elim
 |fin=>
  intro W f m K e a w aq g p inv h
  cases f with
  |succ f=>simp[dx]at h
  |zero=>
   simp only[dx]at h;obtain⟨h1,F,h⟩:=ah h;refine .inl ⟨?_,gZ F,rfl,g,e,aq,h⟩
   cases S:Region.ready .any ops (dV ops.size m) with
   |nil=>rfl
   |cons x l=>
    have:=mo hc p h1 x (by rw[S];simp)
    cases this
 |tail as=>
  intro W f m K e a w aq g p inv h
  cases f with
  |succ f=>simp[dx]at h
  |zero=>
   simp only[dx]at h;obtain⟨h1,F,h⟩:=ah h;have am:∀k,k∈bA (ops.toList.drop n)->k∈bA ops.toList:=λk g=>by
    simp only[bA,List.mem_filterMap]at g⊢;obtain⟨o,z,g⟩:=g;exact⟨o,eP z,g⟩
   have:=xx _ _ _ K e a w aq (λd hd=>by rw[g.size];exact ad d (am d hd)) h;exact .inr ⟨xO hc _ _ _ p I h1,B F,hL (λx aj w' ⟨av,aF,aG⟩=>⟨av,g.trans (aF.mono am),aG⟩) _ _ _ this⟩
theorem BJ(ops:Array Oper)(n:Nat):HeadInv .any ops n (Array.replicate ops.size false):=
 ⟨by simp,λj b _ a=>(by rw[getD_replicate_false]at a;cases a),λt _ ht=>getD_in (by simpa using ht) (getD_replicate_false _ _)⟩
def uO(P:Program)(tk:TypeId->dr)(ops:Array Oper)(n:Nat)(a:al)(bI:jq)(D0 dC:O Nat)(t:aP)(K:Env->J->Prop)(e:Env)(w:J):Prop:=
 bif (Region.noSelect ops&&kf bI D0 dC ops)&&(bif Nat.beq n ops.size then true else Nat.blt n ops.size&&(Region.sinkB .any ops n&&Region.chainB .any ops n)) then
  bif a then
   an w.drew λw1=>∃W:Nat->Prop,dx P tk ops n bI W t n 0 K e w1
  else an w.drew λw1=>dx P tk ops n bI (λ_=>False) t n 0 K e w1
 else False
theorem BK{id:Nat}{f:al}{t:aP}{K:Env->J->Prop}{e:Env}{a:Act}{w:J}(i:P.follows .mixedOrders=true)
 (aq:c8 e a) (j:∀d∈bA ops.toList,d<a.tmps.size) (h:uO P tk ops n f bI D0 dC t K e w):
 (Code.region id ops true).wp P (fQ a (bA ops.toList) K) a w:=by
 unfold uO at h
 cases h0:(Region.noSelect ops&&kf bI D0 dC ops) with
 |false=>rw[h0]at h;exact h.elim
 |true=>
  rw[h0]at h;simp only[h4]at h;simp only[dn]at h0;obtain⟨h1,hc⟩:=h0
  cases b:(bif Nat.beq n ops.size then true else Nat.blt n ops.size&&(Region.sinkB .any ops n&&Region.chainB .any ops n)) with
  |false=>rw[b]at h;exact h.elim
  |true=>
   rw[b]at h;simp only[cond_true]at h;have k:pF ops n:=by
    cases c:Nat.beq n ops.size with
    |true=>rw[gZ c];exact BD ops
    |false=>
     rw[c]at b;simp only[cond_false,dn]at b;refine BE b.2.1 b.2.2 ?_;have:=ld b.1;omega
   have l:n<=ops.size:=by
    cases c:Nat.beq n ops.size with
    |true=>rw[gZ c];exact bl _
    |false=>
     rw[c]at b;simp only[cond_false,dn]at b;have:=ld b.1;omega
   have key:∀W,dx P tk ops n bI W t n 0 K e w.drew->(Code.region id ops true).wp P (fQ a (bA ops.toList) K) a w:=by
    intro W h;refine wp_region_any i ?_;have g:=BI hc k l h1 j t W n 0 K e a w.drew aq (.refl _ _) (BA _) (by rw[xG];exact BJ ops n) h;rw[xG]at g;have:=xN BH _ _ _ _ _ g;rw[show n+(ops.size-n)=ops.size from I]at this;exact this
   cases f with
   |true=>obtain⟨W,h⟩:=h;exact key W h
   |false=>exact key _ h
end
end aR
namespace aR
open Go
inductive aO where
 |leaf
 |di (as:O jO)
 |cE (n:Nat) (c:al) (bI:jq) (D0 dC:O Nat) (t:aP)
 |seq (a b:aO)
 |cond (a b:aO)
 |b2 (a:aO)
 |loop (live:O (Nat×cB)) (ee:O Nat) (a:aO)
 |fq (live:O (Nat×cB)) (ee:O Nat) (a:aO)
def fJ:O (Nat×cB)->Type
 | []=>J->Prop
 |(_,l)::r=>l.T->fJ r
def ly:O (Nat×cB)->Type
 | []=>J->Nat
 |(_,l)::r=>l.T->ly r
def nM(l:cB)(v:ar Y)(K:l.T->Prop):Prop:=
 match l,v with
 | .int k,some (.int d n)=>bif iS k d then K n else False
 | .bool,some (.bool b)=>K b
 | .str,some (.string s)=>K s
 | .ptr,some (.pointer p)=>K p
 | .slice,some (.slice a n c)=>K ⟨a,n,c⟩
 | .map,some (.map r)=>K r
 | .agg,some (.agg cs)=>K cs
 | .fn,some (.func (.func f) a b)=>K ⟨f,a,b⟩
 | .any,some v=>K v
 |_,_=>False
def fJ.app:(live:O (Nat×cB))->fJ live->(Nat->ar Y)->J->Prop
 | [],k,_,w=>k w
 |(s,l)::r,k,g,w=>nM l (g s) λx=>fJ.app r (k x) g w
def fJ.lam:(live:O (Nat×cB))->(Env->J->Prop)->fJ live
 | [],F=> λw=>F [] w
 |(s,l)::r,F=> λx=>fJ.lam r λe w=>F ((s,l.v x)::e) w
def uP:(live:O (Nat×cB))->fJ live->ly live->(Env->Nat->J->Prop)->Prop
 | [],a,b,F=>∀w,a w->F [] (b w) w
 |(s,l)::r,a,b,F=>∀x:l.T,uP r (a x) (b x) λe m w=>F ((s,l.v x)::e) m w
def uQ:(live:O (Nat×cB))->fJ live->ly live->Nat->(Nat->ar Y)->J->Prop
 | [],a,b,m,_,w=>a w/\b w<m
 |(s,l)::r,a,b,m,g,w=>nM l (g s) λx=>uQ r (a x) (b x) m g w
def h9:(live:O (Nat×cB))->ly live->(Nat->ar Y)->J->Nat
 | [],d,_,w=>d w
 |(s,l)::r,d,g,w=>
  match l,g s,d with
  | .int _,some (.int _ n),d=>h9 r (d n) g w
  | .bool,some (.bool b),d=>h9 r (d b) g w
  | .str,some (.string b),d=>h9 r (d b) g w
  | .ptr,some (.pointer b),d=>h9 r (d b) g w
  | .slice,some (.slice a n c),d=>h9 r (d (ad.mk a n c)) g w
  | .map,some (.map b),d=>h9 r (d b) g w
  | .agg,some (.agg b),d=>h9 r (d b) g w
  | .fn,some (.func (.func f) a b),d=>h9 r (d (iQ.mk f a b)) g w
  | .any,some v,d=>h9 r (d v) g w
  |_,_,_=>0
def writes:Code->O Nat
 | .region _ ops _=>bA ops.toList
 | .seq a b=>writes a++writes b
 | .cond _ a b=>writes a++writes b
 | .block _ a=>writes a
 | .loop a=>writes a
 | .scope a=>writes a
 |_=> []
def pG(ee ws:O Nat):al:=ee.all λs=> !(ws.any λd=>Nat.beq d s)
def mu(e:Env):O Nat->Env
 | []=> []
 |s::ks=>match e.get s with
  |some v=>(s,v)::mu e ks
  |none=>mu e ks
def nN:Env->Env->Env
 | [],f=>f
 |p::e,f=>p::nN e f
def D(P:Program)(tk:TypeId->dr):aO->Code->(Exit->Env->J->Prop)->Env->J->Prop
 | .leaf,c,K,e,w=>
  match c with
  | .skip=>K .normal e w
  | .label _=>K .normal e w
  | .exit id=>K (.exit id) e w
  | .ret=>K .ret e w
  |_=>False
 | .di as,c,K,e,w=>
  match c with
  | .region _ ops false=>fg P tk ops (ops.size+1) ops.toList as (λd w'=>K .normal d w') e w
  |_=>False
 | .cE n he bI D0 dC t,c,K,e,w=>
  match c with
  | .region _ ops true=>uO P tk ops n he bI D0 dC t (λd w'=>K .normal d w') e w
  |_=>False
 | .seq A B,c,K,e,w=>
  match c with
  | .seq a b=>D P tk A a (λx d w'=>match x with| .normal=>D P tk B b K d w'|x=>K x d w') e w
  |_=>False
 | .cond A B,c,K,e,w=>
  match c with
  | .cond o x y=>match ev e o with
   |some (.bool b)=>(b=true->D P tk A x K e w)/\(b=false->D P tk B y K e w)
   |_=>False
  |_=>False
 | .b2 A,c,K,e,w=>
  match c with
  | .block id b=>D P tk A b (λx d w'=>match x with| .exit h=>bif Nat.beq h id then K .normal d w' else K (.exit h) d w'|x=>K x d w') e w
  |_=>False
 | .loop live ee A,c,K,e,w=>
  match c with
  | .loop b=>bif pG ee (writes b) then
   ∃ (f:fJ live) (i:ly live),fJ.app live f e.get w/\
    uP live f i λg m w'=>D P tk A b (λx d j=>match x with| .normal=>uQ live f i m d.get j|x=>K x d j) (nN g (mu e ee)) w'
   else False
  |_=>False
 | .fq live ee A,c,K,e,w=>
  bif pG ee (writes c) then
   b1 (λk:fJ live=>D P tk A c (λx d w'=>match x with| .normal=>fJ.app live k d.get w'|x=>K x d w') e w)
    (fJ.lam live λg w'=>K .normal (nN g (mu e ee)) w')
  else False
def BL(a:Act)(ds:O Nat)(K:Exit->Env->J->Prop)(x:Exit)(b:Act)(w':J):Prop:=
 dA ds a b/\∃c,c8 c b/\K x c w'
def Sub(e:Env)(g:Nat->ar Y):Prop:=∀s v,e.get s=some v->g s=some v
theorem Sub.cons{e:Env}{g:Nat->ar Y}{s:Nat}{v:Y}(h:Sub e g)(hs:g s=some v):Sub ((s,v)::e) g:=by
 intro t u ht;rw[mh]at ht;by_cases a:s=t
 .subst a;rw[if_pos rfl]at ht;rw[hs];exact ht
 .rw[if_neg a]at ht;exact h t u ht
theorem Sub.nil{g:Nat->ar Y}:Sub [] g:=λ_ _ h=>by cases h
theorem rq{l:cB}{v:ar Y}{K:l.T->Prop}(h:nM l v K):∃x:l.T,v=some (l.v x)/\K x:=by
 unfold nM at h;split at h
 .rename_i k b n K
  by_cases a:k=b
  .subst a
   simp only[iS,decide_true,cond_true]at h;exact⟨n,rfl,h⟩
  .simp[iS,a]at h
 all_goals first
  |exact⟨_,rfl,h⟩
  |exact h.elim
theorem xP{l:cB}{v:ar Y}{K:l.T->Prop}{x:l.T}(a:v=some (l.v x))(h:K x):nM l v K:=by
 subst a
 cases l<;>simp only[nM,cB.v,iS,decide_true,cond_true]<;>exact h
theorem xQ{s:Nat}{l:cB}{r:O (Nat×cB)}{a:ly ((s,l)::r)}{g:Nat->ar Y}{w:J}{x:l.T}(b:g s=some (l.v x)):
 h9 ((s,l)::r) a g w=h9 r (a x) g w:=by
 cases l<;>simp only[h9,b,cB.v]<;>rfl
theorem xR:∀ {live:O (Nat×cB)}{F:Env->J->Prop}{g:Nat->ar Y}{w:J},fJ.app live (fJ.lam live F) g w->∃a,Sub a g/\F a w
 | [],F,g,w,h=>⟨[],Sub.nil,h⟩
 |(s,l)::r,F,g,w,h=>by
  obtain⟨x,b,h⟩:=rq h
  obtain⟨a,hs,h⟩:=xR h
  exact⟨(s,l.v x)::a,hs.cons b,h⟩
theorem xS:∀ {live:O (Nat×cB)}{a:fJ live}{g g':Nat->ar Y}{w:J},(∀s v,g s=some v->g' s=some v)->fJ.app live a g w->fJ.app live a g' w
 | [],_,_,_,_,_,h=>h
 |(s,l)::r,a,g,g',w,hg,h=>by
  obtain⟨x,b,h⟩:=rq h
  exact xP (hg _ _ b) (xS hg h)
theorem xT:∀ {live:O (Nat×cB)}{b:fJ live}{c:ly live}{F:Env->Nat->J->Prop}{g:Nat->ar Y}{w:J},
 uP live b c F->fJ.app live b g w->∃d,Sub d g/\F d (h9 live c g w) w
 | [],b,c,F,g,w,h,a=>⟨[],Sub.nil,h w a⟩
 |(s,l)::r,b,c,F,g,w,h,a=>by
  obtain⟨x,e,a⟩:=rq a
  obtain⟨d,hs,h⟩:=xT (h x) a
  exact⟨(s,l.v x)::d,hs.cons e,by rw[xQ e];exact h⟩
theorem xU:∀ {live:O (Nat×cB)}{a:fJ live}{b:ly live}{m:Nat}{g g':Nat->ar Y}{w:J},
 (∀s v,g s=some v->g' s=some v)->uQ live a b m g w->fJ.app live a g' w/\h9 live b g' w<m
 | [],_,_,_,_,_,_,_,h=>h
 |(s,l)::r,a,b,m,g,g',w,hg,h=>by
  obtain⟨x,c,h⟩:=rq h
  obtain⟨h1,d⟩:=xU hg h
  exact⟨xP (hg _ _ c) h1,by rw[xQ (hg _ _ c)];exact d⟩
theorem xV:∀ {e f:Env}{s:Nat}{v:Y},(nN e f).get s=some v->e.get s=some v\/f.get s=some v
 | [],_,_,_,h=>.inr h
 |(k,u)::e,f,s,v,h=>by
  simp only[nN]at h
  rw[mh]at h⊢
  by_cases a:k=s
  .rw[if_pos a]at h⊢;exact .inl h
  .rw[if_neg a]at h⊢;exact xV h
theorem uR{e:Env}:∀ {ks:O Nat}{s:Nat}{v:Y},(mu e ks).get s=some v->s∈ks/\e.get s=some v
 | [],_,_,h=>by cases h
 |k::ks,s,v,h=>by
  simp only[mu]at h
  split at h
  .rename_i u hu
   rw[mh]at h
   by_cases a:k=s
   .rw[if_pos a]at h
    subst a
    exact⟨by simp,by rw[hu];exact h⟩
   .rw[if_neg a]at h
    have:=uR h
    exact⟨by simp[this.1],this.2⟩
  .have:=uR h
   exact⟨by simp[this.1],this.2⟩
theorem xW{e c:Env}{a b:Act}{ee ws:O Nat}(aq:c8 e a)(f:dA ws a b)(g:pG ee ws=true)(hs:Sub c λs=>b.tmps[s]?):
 c8 (nN c (mu e ee)) b:=by
 constructor;intro s v h;rcases xV h with h|h
 .exact hs s v h
 .obtain⟨h1,i⟩:=uR h
  have d:=nr.1 g s h1;simp only[iI,o4]at d;rw[f.same s λj=>d s j (Nat.beq_refl s)];exact aq.get s v i
section
variable {P:Program}{tk:TypeId->dr}
theorem iz{c:Code}{Q Q':Exit->Act->J->Prop}{a:Act}{w:J}(h:c.wp P Q a w)(b:∀e a w,Q e a w->Q' e a w):c.wp P Q' a w:=wp_mono h b
theorem rr(R:P.follows .mixedOrders=true):∀ (A:aO) (c:Code) (K:Exit->Env->J->Prop) (e:Env) (a:Act) (w:J),c8 e a->(∀d∈writes c,d<a.tmps.size)->
 D P tk A c K e w->c.wp P (BL a (writes c) K) a w:=by
 intro A
 induction A with
 |leaf=>
  intro c K e a w aq j h;simp only[D]at h;split at h
  .exact wp_skip ⟨.refl _ _,e,aq,h⟩
  .exact wp_label ⟨.refl _ _,e,aq,h⟩
  .exact wp_exit ⟨.refl _ _,e,aq,h⟩
  .exact wp_ret ⟨.refl _ _,e,aq,h⟩
  .exact h.elim
 |di as=>
  intro c K e a w aq j h;simp only[D]at h;split at h
  .rename_i id ops
   have:=xx _ _ _ _ e a w aq j h;refine wp_region_list (hL ?_ _ _ _ this);rintro x u w' ⟨rfl,f,E,F,G⟩;exact⟨f,E,F,G⟩
  .exact h.elim
 |cE n he bI D0 dC t=>
  intro c K e a w aq j h;simp only[D]at h;split at h
  .rename_i id ops
   refine iz (BK R aq j h) ?_;rintro x u w' ⟨rfl,f,E,F,G⟩;exact⟨f,E,F,G⟩
  .exact h.elim
 |seq A B H I=>
  intro c K e a w aq j h;simp only[D]at h;split at h
  .rename_i x y
   have hx:∀d,d∈writes x->d∈writes (.seq x y):=λd hd=>by simp[writes,hd]
   have z:∀d,d∈writes y->d∈writes (.seq x y):=λd hd=>by simp[writes,hd]
   refine wp_seq (iz (H x _ e a w aq (λd hd=>j d (hx d hd)) h) ?_);rintro ex a1 w1 ⟨f,i,g,h1⟩
   cases ex with
   |normal=>
    refine iz (I y K i a1 w1 g (λd hd=>by rw[f.size];exact j d (z d hd)) h1) ?_;rintro ex a2 ai ⟨k,q,m,p⟩;exact⟨(f.mono hx).trans (k.mono z),q,m,p⟩
   |exit id=>exact⟨f.mono hx,i,g,h1⟩
   |goto l=>exact⟨f.mono hx,i,g,h1⟩
   |ret=>exact⟨f.mono hx,i,g,h1⟩
   |panic L=>exact⟨f.mono hx,i,g,h1⟩
   |outgrown=>exact⟨f.mono hx,i,g,h1⟩
  .exact h.elim
 |cond A B H I=>
  intro c K e a w aq j h;simp only[D]at h;split at h
  .rename_i o x y
   have hx:∀d,d∈writes x->d∈writes (.cond o x y):=λd hd=>by simp[writes,hd]
   have z:∀d,d∈writes y->d∈writes (.cond o x y):=λd hd=>by simp[writes,hd]
   split at h
   .rename_i b S
    refine wp_cond_split (aq.ev S) (λM=>?_) (λM=>?_)
    .refine iz (H x K e a w aq (λd hd=>j d (hx d hd)) (h.1 M)) ?_
     rintro ex a2 ai ⟨k,q,m,p⟩;exact⟨k.mono hx,q,m,p⟩
    .refine iz (I y K e a w aq (λd hd=>j d (z d hd)) (h.2 M)) ?_
     rintro ex a2 ai ⟨k,q,m,p⟩;exact⟨k.mono z,q,m,p⟩
   .exact h.elim
  .exact h.elim
 |b2 A C=>
  intro c K e a w aq j h;simp only[D]at h;split at h
  .rename_i id b
   refine wp_block (iz (C b _ e a w aq j h) ?_);rintro ex a1 w1 ⟨f,i,g,h1⟩
   cases ex with
   |exit N=>
    simp only[Exit.inBlock];by_cases O:N=id
    .subst O
     simp only[Nat.beq_refl,cond_true]at h1;rw[if_pos rfl];exact⟨f,i,g,h1⟩
    .have:Nat.beq N id=false:=by
      cases T:Nat.beq N id
      .rfl
      .exact absurd (gZ T) O
     simp only[this,cond_false]at h1;rw[if_neg O];exact⟨f,i,g,h1⟩
   |normal=>exact⟨f,i,g,h1⟩
   |goto l=>exact⟨f,i,g,h1⟩
   |ret=>exact⟨f,i,g,h1⟩
   |panic L=>exact⟨f,i,g,h1⟩
   |outgrown=>exact⟨f,i,g,h1⟩
  .exact h.elim
 |loop live ee A C=>
  intro c K e a w aq j h;simp only[D]at h;split at h
  .rename_i b
   cases r:pG ee (writes b) with
   |false=>rw[r]at h;exact h.elim
   |true=>
    rw[r]at h;obtain⟨U,V,h0,W⟩:=h;refine wp_loop (λu w'=>dA (writes b) a u/\fJ.app live U (λs=>u.tmps[s]?) w') (λu w'=>h9 live V (λs=>u.tmps[s]?) w')
     ⟨.refl _ _,xS (λs v hs=>aq.get s v hs) h0⟩ ?_
    rintro a1 w1 ⟨f,X⟩;obtain⟨Y,hs,Q⟩:=xT W X;refine iz (C b _ _ a1 w1 (xW aq f r hs) (λd hd=>by rw[f.size];exact j d hd) Q) ?_;rintro ex a2 ai ⟨k,q,m,p⟩
    cases ex with
    |normal=>
     obtain⟨av,Z⟩:=xU (g':=λs=>a2.tmps[s]?) (λs v hs=>m.get s v hs) p;exact⟨⟨f.trans k,av⟩,Z⟩
    |exit id=>exact⟨f.trans k,q,m,p⟩
    |goto l=>exact⟨f.trans k,q,m,p⟩
    |ret=>exact⟨f.trans k,q,m,p⟩
    |panic L=>exact⟨f.trans k,q,m,p⟩
    |outgrown=>exact⟨f.trans k,q,m,p⟩
  .exact h.elim
 |fq live ee A C=>
  intro c K e a w aq j h;simp only[D]at h
  cases r:pG ee (writes c) with
  |false=>rw[r]at h;exact h.elim
  |true=>
   rw[r]at h;simp only[cond_true]at h;have h:=h.out;refine iz (C c _ e a w aq j h) ?_;rintro ex a1 w1 ⟨f,i,g,h1⟩
   cases ex with
   |normal=>
    obtain⟨Y,hs,Q⟩:=xR h1;exact⟨f,_,xW aq f r (λs v h=>g.get s v (hs s v h)),Q⟩
   |exit id=>exact⟨f,i,g,h1⟩
   |goto l=>exact⟨f,i,g,h1⟩
   |ret=>exact⟨f,i,g,h1⟩
   |panic L=>exact⟨f,i,g,h1⟩
   |outgrown=>exact⟨f,i,g,h1⟩
def kM(P:Program)(tk:TypeId->dr):O ResultVar->Env->J->(O Y->Prop)->Prop
 | [],_,_,K=>K []
 | .tmp t::r,e,w,K=>match e.get t with
  |some v=>kM P tk r e w λvs=>K (v::vs)
  |none=>False
 | .cell t T::r,e,w,K=>match e.get t with
  |some (.pointer (some A))=>nF P tk T A w λv=>kM P tk r e w λvs=>K (v::vs)
  |_=>False
def nO:O Y->Y
 | [v]=>v
 |vs=>.tuple vs.toArray
def xX(P:Program)(tk:TypeId->dr)(a:O ResultVar)(R:Y->J->Prop)(x:Exit)(e:Env)(w:J):Prop:=
 match x with
 | .normal=>kM P tk a e w λvs=>R (nO vs) w
 | .ret=>kM P tk a e w λvs=>R (nO vs) w
 |_=>False
def mv:Nat->O Y->Env
 |_,[]=> []
 |i,v::vs=>(i,v)::mv (i+1) vs
def nP(P:Program)(tk:TypeId->dr)(A:aO)(fn:Func)(args:O Y)(w:J)(R:Y->J->Prop):Prop:=
 match fn.body with
 |some c=>D P tk A c (xX P tk fn.results.toList R) (mv 0 args) w
 |none=>False
def mw(fn:Func)(n:Nat):al:=
 match fn.body with
 |some c=>(writes c).all (λd=>Nat.blt d fn.ntmps)&&Nat.ble n fn.ntmps
 |none=>false
theorem uS:∀ {vs:O Y}{i s:Nat}{v:Y},(mv i vs).get s=some v->i<=s/\vs[s-i]? =some v
 | [],_,_,_,h=>by cases h
 |u::vs,i,s,v,h=>by
  simp only[mv]at h
  rw[mh]at h
  by_cases a:i=s
  .subst a
   rw[if_pos rfl]at h
   simpa using h
  .rw[if_neg a]at h
   obtain⟨h1,b⟩:=uS h
   refine⟨I,?_⟩
   rw[show s-i=(s-(i+1))+1 from I]
   simpa using b
def pH(tmps:Array Y)(r:ResultVar):Sem Y:=
 match r with
 | .tmp t=>pure (tmps.getD t undef)
 | .cell x t=>do loadVar t (←asAddr (tmps.getD x undef))
theorem kN{a:Act}:∀ {f:O ResultVar}{e:Env}{w:J}{K:O Y->Prop},c8 e a->kM P tk f e w K->
 ∃vs,(f.mapM (pH a.tmps)).run P w=.ok vs w/\K vs
 | [],_,_,_,_,h=>⟨[],by simp,h⟩
 | .tmp t::r,e,w,K,aq,h=>by
  simp only[kM]at h
  split at h
  .rename_i v b
   obtain⟨vs,c,d⟩:=kN aq h
   refine⟨v::vs,?_,d⟩
   have ht:a.tmps.getD t undef=v:=by simp[Array.getD_eq_getD_getElem?,aq.get _ _ b]
   simp only[List.mapM_cons,pH,Sem.run_bind,Sem.run_pure,Result.andThen,ht]
   rw[c]
  .exact h.elim
 | .cell t T::r,e,w,K,aq,h=>by
  simp only[kM]at h
  split at h
  .rename_i A b
   obtain⟨v,g,h⟩:=xt h
   obtain⟨vs,c,d⟩:=kN aq h
   refine⟨v::vs,?_,d⟩
   have ht:a.tmps.getD t undef=.pointer (some A):=by simp[Array.getD_eq_getD_getElem?,aq.get _ _ b]
   have i:(loadVar T A).run P w=.ok v w:=by simpa[Instr.loadAt,Instr.sureAddr] using g
   simp only[List.mapM_cons,pH,Sem.run_bind,Sem.run_pure,Result.andThen,ht,asAddr,i]
   rw[c]
  .exact h.elim
theorem mx{fn:Func}{tmps:Array Y}{w:J}{vs:O Y}
 (h:(fn.results.toList.mapM (pH tmps)).run P w=.ok vs w):
 (results fn tmps).run P w=.ok (nO vs) w:=by
 have a:results fn tmps=(do let vs ←fn.results.mapM (pH tmps);pure (if h:vs.size=1 then vs[0] else .tuple vs)):=rfl;rw[a,Array.mapM_eq_mapM_toList];simp only[Sem.run_bind,Sem.run_map];rw[h];simp only[Result.andThen,Sem.run_pure]
 congr 1
 match vs with
 | []=>rfl
 | [v]=>rfl
 |u::v::vs=>simp[nO]
theorem BM{f:FuncId}{fn:Func}{A:aO}{args:O Y}{w:J}{R:Y->J->Prop}(n:P.follows .mixedOrders=true)
 (hf:P.funcs[f]? =some fn) (g:mw fn args.length=true) (h:nP P tk A fn args w R):
 Calls P f args.toArray w λe w'=>∃v,e=.returned v/\R v w':=by
 unfold nP at h;unfold mw at g
 cases i:fn.body with
 |none=>rw[i]at h;exact h.elim
 |some c=>
  rw[i]at h g;simp only[dn]at h g;obtain⟨o,p⟩:=g;have u:=ld p;refine calls_of_wp hf i ?_;have q:(args.toArray++Array.replicate (fn.ntmps-args.toArray.size) undef).size=fn.ntmps:=by simp;omega
  have aq:c8 (mv 0 args) {tmps:=args.toArray++Array.replicate (fn.ntmps-args.toArray.size) undef,defers:=[]}:=by
   constructor;intro s v hs;obtain⟨_,b⟩:=uS hs;simp only[Nat.sub_zero]at b;have aI:s<args.length:=(jL.1 b).1;simp[Array.getElem?_append,aI];rw[dI aI]at b;exact Option.some.inj b
  refine iz (rr n A c _ _ _ w aq (λd hd=>?_) h) ?_
  .have h1:=nr.1 o d hd
   have b:=ld h1;show d<(args.toArray++Array.replicate (fn.ntmps-args.toArray.size) undef).size;rw[q];omega
  .rintro x r w' ⟨t,y,m,a⟩
   have hd:r.defers=[]:=t.defers
   cases x with
   |normal=>
    obtain⟨vs,j,k⟩:=kN m a;exact⟨hd,_,mx j,_,rfl,k⟩
   |ret=>
    obtain⟨vs,j,k⟩:=kN m a;exact⟨hd,_,mx j,_,rfl,k⟩
   |exit id=>exact a.elim
   |goto l=>exact a.elim
   |panic z=>exact a.elim
   |outgrown=>exact a.elim
end
end aR
namespace aR
open Go Go.ChangeShapes Go.WideShapes Go.ChangeAt Go.RowKit
def gT(P:Program)(w:J):Nat->TypeId->O Y->Prop
 |0,_,_=>False
 |fuel+1,t,cs=>
  match P.underlying t with
  |some .bool=>∃b:al,cs=[.bool b]
  |some (.int k)=>∃n:Int,cs=[.int k n]/\k.min<=n/\n<=k.max
  |some .string=>∃s:ByteArray,cs=[.string s]/\s.size<=maxLen
  |some (.slice e)=>∃s:ad,cs=[.slice s.a s.len s.cap]/\s.len<=s.cap/\s.cap<=maxLen/\(s.a=none->s.cap=0)/\
   ∀a,s.a=some a->∀i,i<s.cap->∃vs,bE w (a.add (i*P.cellsOf e)) 0 (P.cellsOf e)=some vs/\gT P w fuel e vs
  |some (.struct fs)=>cs.length=P.cellsOf t/\∀f∈fs,gT P w fuel f.type ((cs.drop f.offset).take (P.cellsOf f.type))
  |some (.array n e)=>cs.length=P.cellsOf t/\∀i,i<n->gT P w fuel e ((cs.drop (i*P.cellsOf e)).take (P.cellsOf e))
  |some (.pointer e)=>cs=[.pointer none]\/∃a vs,cs=[.pointer (some a)]/\bE w a 0 (P.cellsOf e)=some vs/\gT P w fuel e vs
  |_=>True
theorem mapM_some{α β:Type}{f:α->ar β}:∀ {l:O α}{r:O β},l.mapM f=some r->∀x∈l,∃y,f x=some y
 | [],_,_,_,hx=>by cases hx
 |a::l,r,h,x,hx=>by
  simp only[List.mapM_cons]at h
  cases c:f a with
  |none=>simp[c]at h
  |some b=>
   cases d:l.mapM f with
   |none=>simp[c,d]at h
   |some e=>
    rcases c7.1 hx with rfl|hx
    .exact⟨b,c⟩
    .exact mapM_some d x hx
theorem xY{w:J}{a:ag}:∀ (n i:Nat) (vs:O Y),((List.range' i n).mapM λj=>w.cell? (a.add j))=some vs->bE w a i n=some vs
 |0,i,vs,h=>by simp at h;simp[bE,h]
 |n+1,i,vs,h=>by
  simp only[List.range'_succ,List.mapM_cons]at h
  cases h1:w.cell? (a.add i) with
  |none=>simp[h1]at h
  |some v=>
   cases b:((List.range' (i+1) n).mapM λj=>w.cell? (a.add j)) with
   |none=>simp[h1,b]at h
   |some us=>
    simp[h1,b]at h
    have:=xY n (i+1) us b
    simp[bE,h1,this,h]
theorem xZ{w:J}{base:Nat}{a:ag}{n:Nat}{vs:O Y}(h:w.cells? base a n=some vs):bE w a 0 n=some vs:=by
 unfold World.cells? at h;split at h
 .rw[qO]at h
  exact xY n 0 vs h
 .cases h
section
variable {H:Type}{enc:TypeId×Y->H}{P:Program}{w:J}
theorem pI:∀ (fuel:Nat) (t:TypeId) (cs:O Y) (x:DataW H×O MemPlace),DataW.trod enc P w 0 (λ_=>true) true fuel t cs=some x->gT P w fuel t cs
 |0,_,_,_,h=>by cases h
 |fuel+1,t,cs,x,h=>by
  simp only[DataW.trod]at h
  simp only[gT]
  cases ht:P.underlying t with
  |none=>trivial
  |some d=>
   rw[ht]at h
   cases d<;>try trivial
   case bool=>
    match cs,h with
    | [.bool b],_=>exact⟨b,rfl⟩
   case int k=>
    match cs,h with
    | [.int r n],h=>
     simp only at h
     split at h
     .rename_i g
      obtain⟨rfl,m⟩:=g
      exact⟨n,rfl,by simpa[Lit.wf] using m⟩
     .cases h
   case string=>
    match cs,h with
    | [.string s],h=>
     simp only at h
     split at h
     .rename_i g;exact⟨s,rfl,g⟩
     .cases h
   case pointer e=>
    match cs,h with
    | [.pointer none],_=>exact .inl rfl
    | [.pointer (some a)],h=>
     simp only[qP]at h
     obtain⟨y,c,_⟩:=h
     obtain⟨vs,h1,l⟩:=Option.bind_eq_some_iff.1 c
     exact .inr ⟨a,vs,rfl,xZ h1,pI fuel e vs _ l⟩
   case slice e=>
    match cs,h with
    | [.slice none 0 0],_=>exact⟨⟨none,0,0⟩,rfl,bl _,cX _,(λ_=>rfl),(λa o=>by cases o)⟩
    | [.slice (some a) len cap],h=>
     simp only at h
     split at h
     .rename_i g
      refine⟨⟨some a,len,cap⟩,rfl,g.2.1,g.2.2,(λh0=>by cases h0),λu p i hi=>?_⟩
      obtain⟨elems,he,h⟩:=Option.bind_eq_some_iff.1 h
      simp only[if_true,qP]at h
      obtain⟨rest,q,_⟩:=h
      cases p
      have key:∃y,((w.cells? 0 (a.add (i*P.cellsOf e)) (P.cellsOf e)).bind (DataW.trod enc P w 0 (λ_=>true) true fuel e))=some y:=by
       rcases ed i len with j|j
       .exact mapM_some he i (jh.2 j)
       .obtain⟨y,c⟩:=mapM_some q (i-len) (jh.2 (by simp only at hi;omega))
        rw[show len+(i-len)=i from I]at c;exact⟨y,c⟩
      obtain⟨y,c⟩:=key;obtain⟨vs,h1,l⟩:=Option.bind_eq_some_iff.1 c;exact⟨vs,xZ h1,pI fuel e vs _ l⟩
     .cases h
   case struct fs=>
    simp only at h;split at h
    .rename_i j
     refine⟨j,λf hf=>?_⟩;simp only[qP]at h;obtain⟨ys,c,_⟩:=h;obtain⟨y,c⟩:=mapM_some c f (by simpa using hf);exact pI fuel _ _ _ c
    .cases h
   case array n e=>
    simp only at h;split at h
    .rename_i j
     refine⟨j,λi hi=>?_⟩;simp only[qP]at h;obtain⟨ys,c,_⟩:=h;obtain⟨y,c⟩:=mapM_some c i (jh.2 hi);exact pI fuel _ _ _ c
    .cases h
def kO(P:Program)(w:J)(t:TypeId)(v:Y):Prop:=
 match P.underlying t with
 |some (.struct _)=>∃cs:Array Y,v=.agg cs/\∃fuel,gT P w fuel t cs.toList
 |some (.array _ _)=>∃cs:Array Y,v=.agg cs/\∃fuel,gT P w fuel t cs.toList
 |_=>∃fuel,gT P w fuel t [v]
theorem x0{r:Reach}{a:Nat}{t:TypeId}{v:Y}{d:DataW H}{b:O MemPlace}(h_:Value.okWide P w r a t v)
 (hd:DataW.Trod enc P w 0 (λ_=>true) true t v d b):kO P w t v:=by
 obtain⟨fuel,hd⟩:=hd;have h1:=pI fuel t _ _ hd;unfold kO;unfold Value.okWide at h_;have c:(∀cs,v≠ .agg cs)->v.cells.toList=[v]:=λh=>by cases v<;>first|rfl|exact absurd rfl (h _)
 cases ht:P.underlying t with
 |none=>
  rw[ht]at h_
  cases fuel with
  |zero=>cases hd
  |succ f=>exact⟨1,by simp[gT,ht]⟩
 |some g=>
  rw[ht]at h_
  cases g
  case struct fs=>obtain⟨cs,rfl,_,_⟩:=h_;exact⟨cs,rfl,fuel,h1⟩
  case array n e=>obtain⟨cs,rfl,_,_⟩:=h_;exact⟨cs,rfl,fuel,h1⟩
  all_goals
   refine⟨fuel,?_⟩;rw[←c]
   .exact h1
   .rintro cs rfl
    simp[Cell.okWide,Cell.ok,ht]at h_
theorem x1{w w':J}(h:ae (λ_=>False) w w'):Below w.heap.size w w':=
 ⟨h.os,h.tape,h.output,h.size,λk a=>h.block k a (λh=>h)⟩
theorem BN{f:Func}{s:ChangeSpec}{apart fresh handsOn again:al}{W W':J}{args:Array Y}{T:TypeId}{ds gs:O (DataW H)}{before pa eG:O MemPlace}
 (cD:DataW.Whole enc P f.params.toList s.vars apart W args.toList ds gs before) (d:P.underlying T=some .bool) (e:f.resultTypes= #[T])
 (hs:s.fn H (ds++gs)={results:=[.lit (.bool true)],args:=ds})
 (ru:∀sp:Nat->al,(∀p∈before,sp p.block=true)->DataW.TrodAll enc P W' 0 sp true f.params.toList args.toList ds pa)
 (l:∀sp:Nat->al,(∀p∈before,sp p.block=true)->DataW.TrodVars enc P W' sp s.vars [] eG)
 (c:before=pa++eG) (m:ae (λ_=>False) W W'):
 s.post enc P f apart fresh handsOn again W args (.bool true) W':=by
 have g:=x1 m;have aI:∀p∈before,p.block<W.heap.size:=λp a=>cD.lt p a;have hold:∀p∈before,(λb=>decide (b<W.heap.size)) p.block=true:=λp a=>by simpa using aI p a
 have h:∀ (b:Nat) (sp:Nat->al) (hd:al),DataW.TrodAll enc P W' b sp hd f.resultTypes.toList ((Value.bool true).resultList f.resultTypes.size) (s.fn H (ds++gs)).results []:=by
  intro b sp hd;rw[hs,e];exact trodAll_cons_mk (shut_bool d true) trodAll_mk0
 have i:∀sp:Nat->al,(∀p∈before,sp p.block=true)->DataW.TrodAll enc P W' 0 sp true f.params.toList args.toList (s.fn H (ds++gs)).args pa:=by
  intro sp hM;rw[hs];exact ru sp hM
 have j:∀sp:Nat->al,(∀p∈before,sp p.block=true)->DataW.TrodVars enc P W' sp s.vars (s.fn H (ds++gs)).vars eG:=by
  intro sp hM;rw[hs];exact l sp hM
 refine⟨ds,gs,before,[],pa,eG,cD,h _ _ _,i _ hold,j _ hold,World.keptBut_mono (λp a=>⟨a,?_⟩) (g.frame (· ∈before)),λ_=>?_⟩
 .rw[c,cL]at a
  exact Or.inr a
 .obtain⟨_,_,_,_,_,n,o⟩:=cD
  refine⟨ok_one e rfl (okWide_bool_mk d _),_,_,([]++pa)++eG,⟨[]++pa,eG,trodAll_append (i _ (λ_ _=>rfl)) (h _ _ _),j _ (λ_ _=>rfl),rfl,?_,?_⟩,?_⟩
  .intro b off a
   have k:MemPlace.cell b off∈before:=by rw[c];simpa using a
   rw[g.frozen (aI _ k)];exact n b off k
  .intro q
   have:=o q;rw[c]at this;simpa using this
  .intro p a _
   rw[c];simpa using a
theorem x2{t:TypeId}(b:laidOutB P=true)(c:P.readableRec t=true)(e:t<P.types.size){W W':J}{v:Y}{d:DataW H}{a:O MemPlace}{sp:Nat->al}
 (h:DataW.Trod enc P W 0 (λ_=>true) true t v d a) (f:ae (λ_=>False) W W') (aI:∀x∈a,x.block<W.heap.size) (hs:∀p∈a,sp p.block=true):
 DataW.Trod enc P W' 0 sp true t v d a:=
 WideElems.Trod_stays b c e h (λx hx=>(x1 f).same (aI x hx)) hs
end
end aR
namespace aR
open Go Go.RowKit
def aL(P:Program)(f:FuncId)(args:Array Y)(w:J)(Q:Y->J->Prop):Prop:=
 Calls P f args w λe w1=>∃v,e=.returned v/\Q v w1
theorem aL.use{P:Program}{f:FuncId}{args:Array Y}{w:J}{Q:Y->J->Prop}{R:Ending->J->Prop}
 (h:aL P f args w Q) (k:∀v w',Q v w'->R (.returned v) w'):Calls P f args w R:=
 Calls.mono h λ_ _ ⟨v,a,b⟩=>by subst a;exact k v _ b
theorem aL.mono{P:Program}{f:FuncId}{args:Array Y}{w:J}{Q R:Y->J->Prop}
 (h:aL P f args w Q) (k:∀v w',Q v w'->R v w'):aL P f args w R:=
 aL.use h λv _ a=>⟨v,rfl,k _ _ a⟩
abbrev Ext(w w':J):Prop:=ae (λ_=>False) w w'
theorem ae.cN{W:Nat->Prop}{w w':J}(h:Ext w w'):ae W w w':=ae.mono h λ_ _ h=>h.elim
theorem ae.drew{W:Nat->Prop}{w w':J}(h:ae W w w'):ae W w w'.drew:=⟨h.os,h.tape,h.output,h.size,h.block⟩
theorem ae.alloc{W:Nat->Prop}{w w':J}(h:ae W w w')(o:Obj):ae W w (w'.alloc o):=
 h.trans ⟨rfl,rfl,rfl,by simp,λk a _=>Below.heap_alloc _ _ _ a⟩
theorem ae.set{W:Nat->Prop}{w w':J}(h:ae W w w'){A:ag}(b:A.block<w.heap.size->W A.block)(v:Y):ae W w (w'.setCell A v):=
 ⟨h.os,h.tape,h.output,by simp only[World.setCell,Array.size_modify];exact h.size,λk a cD=>by
  rw[Below.heap_setCell _ _ _ _ (λe=>cD (by subst e;exact b a))];exact h.block k a cD⟩
theorem ae.setCells{W:Nat->Prop}{w:J}{A:ag}(a:A.block<w.heap.size->W A.block):∀ (vs:O Y) (i:Nat) {w':J},ae W w w'->ae W w (setCells w' A i vs)
 | [],_,_,h=>h
 |v::vs,i,w',h=>by
  have b:(A.add i).block=A.block:=by unfold Addr.add;split<;>rfl
  exact ae.setCells a vs (i+1) (ae.set h (by rw[b];exact a) v)
theorem ay(b o n:Nat):(Addr.mk b o none).add n=⟨b,o+n,none⟩:=by
 unfold Addr.add;split
 .rename_i h;subst h;rfl
 .rfl
def bg(w:J)(b:Nat)(c:Array Y)(T:TypeId):Prop:=w.heap[b]? =some (.cells c T (0,0))
section
variable {w w':J}{b i:Nat}{c:Array Y}{T:TypeId}
theorem bg.lt(h:bg w b c T):b<w.heap.size:=(kB.1 h).1
theorem bg.cell(h:bg w b c T)(i:Nat):w.cell? ⟨b,i,none⟩=c[i]? :=by
 unfold bg at h;simp[World.cell?,h]
theorem bg.frozen(h:bg w b c T)(A:ag)(aq:A.block=b):w.frozen? A=false:=by
 unfold bg at h;simp[World.frozen?,aq,h]
theorem bg.af{W:Nat->Prop}(h:bg w b c T)(hc:ae W w w')(a:¬W b):bg w' b c T:=by
 have d:=h.lt;unfold bg at h⊢;rw[hc.block b d a];exact h
theorem bg.ext(h:bg w b c T)(hc:Ext w w'):bg w' b c T:=h.af hc id
theorem bg.drew(h:bg w b c T):bg w.drew b c T:=h
theorem bg.new(w:J)(c:Array Y)(T:TypeId):bg (w.alloc (.cells c T)) w.heap.size c T:=by
 show(w.heap.push (.cells c T))[w.heap.size]? =some (.cells c T (0,0));simp
theorem bg.set(h:bg w b c T)(i:Nat)(v:Y):bg (w.setCell ⟨b,i,none⟩ v) b (c.setIfInBounds i v) T:=by
 unfold bg at h⊢;simp[World.setCell,qM,h]
def fR(c:Array Y)(i:Nat):O Y->Array Y
 | []=>c
 |v::vs=>fR (c.setIfInBounds i v) (i+1) vs
theorem iU:∀ (vs:O Y) (c:Array Y) (i:Nat),(fR c i vs).size=c.size
 | [],_,_=>rfl
 |v::vs,c,i=>by simp[fR,iU vs]
theorem bg.pJ:∀ (vs:O Y) {w:J}{c:Array Y} (i j:Nat),bg w b c T->bg (setCells w ⟨b,i,none⟩ j vs) b (fR c (i+j) vs) T
 | [],_,_,_,_,h=>h
 |v::vs,w,c,i,j,h=>by
  simp only[setCells,fR,ay]
  have:=bg.pJ vs i (j+1) (h.set (i+j) v)
  rw[show i+(j+1)=i+j+1 from I]at this
  exact this
theorem bg.bU(h:bg w b c T)(i:Nat)(vs:O Y)(d:i+vs.length<=c.size)(a:∀v∈vs,Plain v):bh w ⟨b,i,none⟩ vs:=by
 refine⟨λj e=>?_,a⟩;rw[ay,h.cell,h.frozen _ rfl];have:i+j<c.size:=by omega
 simp[this]
end
theorem kh{B:(J->Prop)->Prop}{rest:J->Prop}(a:J->Prop)(h1:∀k:J->Prop,(∀w,a w->k w)->B k)(b:∀w,a w->rest w):b1 B rest:=⟨h1 rest b⟩
theorem cH{a:Type}{B:(a->J->Prop)->Prop}{rest:a->J->Prop}(b:a->J->Prop)(h1:∀k:a->J->Prop,(∀x w,b x w->k x w)->B k)(c:∀x w,b x w->rest x w):b1 B rest:=⟨h1 rest c⟩
theorem uT{a b:Type}{B:(a->b->J->Prop)->Prop}{rest:a->b->J->Prop}(c:a->b->J->Prop)(h1:∀k:a->b->J->Prop,(∀x y w,c x y w->k x y w)->B k)(d:∀x y w,c x y w->rest x y w):b1 B rest:=⟨h1 rest d⟩
theorem BO.of{P:Program}{w:J}{T:TypeId}{k:IntKind}{v:Y}(h:kO P w T v)(a:P.underlying T=some (.int k)):∃n:Int,v=.int k n/\k.min<=n/\n<=k.max:=by
 simp only[kO,a]at h;obtain⟨fuel,h⟩:=h
 cases fuel with
 |zero=>cases h
 |succ f=>
  simp only[gT,a]at h;obtain⟨n,b,h1,c⟩:=h;exact⟨n,by simpa using b,h1,c⟩
theorem x3{n:Int}(h0:IntKind.u8.min<=n)(h1:n<=IntKind.u8.max):0<=n/\n<=255:=by
 simpa[IntKind.min,IntKind.max,IntKind.signed,IntKind.bits] using And.intro h0 h1
theorem BP{n:Int}(h0:IntKind.i64.min<=n)(h1:n<=IntKind.i64.max): -9223372036854775808<=n/\n<=9223372036854775807:=by
 simpa[IntKind.min,IntKind.max,IntKind.signed,IntKind.bits] using And.intro h0 h1
theorem bz{n:Int}(h0: -9223372036854775808<=n)(h1:n<=9223372036854775807):IntKind.i64.wrap n=n:=by
 by_cases h:0<=n
 .exact uz h h1
 .have e:n%18446744073709551616=n+18446744073709551616:=by omega
  simp[IntKind.wrap,IntKind.signed,IntKind.bits,e];omega
end aR
namespace aR
open Go Go.RowKit
structure Src(sz:Nat)(w:J)(x:ad)(xs:O Y):Prop where
 len:xs.length=x.len*sz
 nil:x.a=none->xs=[]
 rd:∀a,x.a=some a->bE w a 0 (x.len*sz)=some xs
def aZ(sz:Nat)(T:TypeId)(w:J)(s:ad)(vs:O Y):Prop:=
 vs.length=s.len*sz/\s.len<=s.cap/\s.cap<=maxLen/\
 ((s.a=none/\s.cap=0)\/∃b c,s.a=some ⟨b,0,none⟩/\bg w b c T/\c.size=s.cap*sz/\c.toList.take (s.len*sz)=vs)
def aC(s:ad)(k:Nat):Prop:=∃A,s.a=some A/\A.block=k
theorem x4{w:J}{A:ag}:∀ {n i:Nat}{vs:O Y},bE w A i n=some vs->vs.length=n
 |0,_,_,h=>by simp[bE]at h;simp[←h]
 |n+1,i,vs,h=>by
  simp only[bE]at h
  cases h1:w.cell? (A.add i) with
  |none=>simp[h1]at h
  |some v=>
   cases a:bE w A (i+1) n with
   |none=>simp[h1,a]at h
   |some us=>
    simp only[h1,a,Option.some.injEq]at h
    subst h
    simp[x4 a]
theorem nQ{w:J}{b:Nat}{c:Array Y}{T:TypeId}(h:bg w b c T):∀ (n o i:Nat),o+i+n<=c.size->bE w ⟨b,o,none⟩ i n=some ((c.toList.drop (o+i)).take n)
 |0,o,i,_=>by simp[bE]
 |n+1,o,i,f=>by
  have h1:o+i<c.size:=by omega
  have a:=nQ h n o (i+1) I
  simp only[bE,ay,h.cell,a]
  have d:c[o+i]? =some c[o+i]:=by simp[h1]
  rw[d]
  simp only[Option.some.injEq]
  have e:c.toList.drop (o+i)=c[o+i]::c.toList.drop (o+i+1):=by
   rw[l_ (by simpa using h1)];simp
  rw[e];simp[Nat.add_assoc]
theorem aZ.src{sz:Nat}{T:TypeId}{w:J}{s:ad}{vs:O Y}(h:aZ sz T w s vs):Src sz w s vs:=by
 obtain⟨h1,i,l,g⟩:=h;refine⟨h1,λf=>?_,λa d=>?_⟩
 .rcases g with ⟨_,hc⟩|⟨b,c,e,_⟩
  .have:s.len=0:=by omega
   rw[this,Nat.zero_mul]at h1;exact nu.1 h1
  .rw[f]at e;cases e
 .rcases g with ⟨f,_⟩|⟨b,c,e,j,hs,k⟩
  .rw[f]at d;cases d
  .rw[e]at d
   cases d;have:=nQ j (s.len*sz) 0 0 (by rw[hs];simp;exact nv _ i);rw[this];simp[k]
section
variable {P:Program}{w:J}
theorem nR{sz:Nat}{x:ad}{xs:O Y}(h:Src sz w x xs):(Builtin.firstCells sz x.len (.slice x.a x.len x.cap)).run P w=.ok xs.toArray w:=by
 cases hx:x.a with
 |none=>rw[h.nil hx];rfl
 |some a=>
  simp only[Builtin.firstCells,loadCells];rw[run_loadCellsFrom _ _ _ _ (h.rd a hx)];simp
theorem x5(a:Nat):∀ (r c:Nat),c<=2*a+1000->Builtin.growBy a r c<=2*a+1000
 |0,c,h=>h
 |r+1,c,h=>by
  simp only[Builtin.growBy]
  split
  .exact h
  .exact x5 a r _ I
theorem x6{a cap:Nat}(h:cap<a):Builtin.nextslicecap a cap<=2*a+1000:=by
 unfold Builtin.nextslicecap;split
 .omega
 .split
  .omega
  .exact x5 a 4 cap I
theorem x7{fP:Array TypeId}{dK dR ek e:TypeId}{d:TypeDesc}{sz:Nat}{s x:ad}{xs:O Y}(h0:fP[0]? =some dR)(h1:fP[1]? =some ek)
 (hs:P.underlying dR=some (.slice e)) (hx:P.underlying ek=some (.slice e)) (he:P.underlying e=some d) (g:P.cellsOf e=sz) (h:Src sz w x xs)
 (c:s.len+x.len<=s.cap) (i:∀a,s.a=some a->bh w (a.add (s.len*sz)) xs):
 Sem.run P (Builtin.append_ fP dK #[.slice s.a s.len s.cap,.slice x.a x.len x.cap]) w=
  .ok (.slice s.a (s.len+x.len) s.cap) (match s.a with|some a=>setCells w (a.add (s.len*sz)) 0 xs|none=>w):=by
 have hf:=nR (P:=P) h;have b:=gE (w:=w) he;rw[g]at b
 cases j:s.a with
 |none=>
  simp[Builtin.append_,h0,h1,cV hs,cV hx,b,Builtin.lenOf,c,hf]
 |some a=>
  have f:=i a j;have:=po (P:=P) (A:=a.add (s.len*sz)) xs 0 w (by simpa using f.1) f.2;simp[Builtin.append_,h0,h1,cV hs,cV hx,b,Builtin.lenOf,c,hf,this]
theorem run_append_grow{fP:Array TypeId}{dK dR ek e:TypeId}{i:TypeInfo}{z:Y}{sz:Nat}{s x:ad}{xs c:O Y}(h0:fP[0]? =some dR)(h1:fP[1]? =some ek)
 (hs:P.underlying dR=some (.slice e)) (hx:P.underlying ek=some (.slice e)) (hi:P.info? e=some i) (hd:(P.underlying e).isSome=true) (k:i.zero=some z) (l:z.cells.size=sz) (m:P.cellsOf e=sz)
 (o:i.bytes≠0) (f:Src sz w x xs) (hold:Src sz w s c) (p:s.cap<s.len+x.len) (r:(2*(s.len+x.len)+1000)*i.bytes<=281474976710656):
 ∃ (b:Nat) (rest:O Y),s.len+x.len<=b/\b<=maxLen/\rest.length=(b-(s.len+x.len))*sz/\
  Sem.run P (Builtin.append_ fP dK #[.slice s.a s.len s.cap,.slice x.a x.len x.cap]) w=
   .ok (.slice (some ⟨w.heap.size,0,none⟩) (s.len+x.len) b) (w.drew.alloc (.cells (c++xs++rest).toArray e)):=by
 obtain⟨d,hd⟩:=jm _ hd;have h:=gE (w:=w) hd;rw[m]at h;have t:=x6 p;have Q:Builtin.nextslicecap (s.len+x.len) s.cap*i.bytes<=281474976710656:=ei (nv _ t) r;have R:s.len+x.len<=281474976710656:=by
  have:s.len+x.len<=(2*(s.len+x.len)+1000)*i.bytes:=by
   have:=Nat.mul_le_mul_left (2*(s.len+x.len)+1000) (Nat.one_le_iff_ne_zero.2 o);omega
  omega
 let q:Question:=.appendCap (s.len+x.len) s.cap e
 let b:Nat:=q.cut (w.tape w.drawn q)
 have u:q.forced=false:=rfl;have v:s.len+x.len<=b:=by show s.len+x.len<=s.len+x.len+_;omega
 have A:b<=maxLen:=by
  show s.len+x.len+_%(2^63-(s.len+x.len))<=2^63-1;have:=hG (w.tape w.drawn q) (y:=2^63-(s.len+x.len)) I;omega
 have B:Src sz w.drew x xs:=⟨f.len,f.nil,λa g=>by
  have:=f.rd a g;have hc:ae (λ_=>False) w w.drew:=ae.drew (.refl _ _);exact hc.bE (by simp) _ _ _ this⟩
 have C:Src sz w.drew s c:=⟨hold.len,hold.nil,λa g=>by
  have:=hold.rd a g;have hc:ae (λ_=>False) w w.drew:=ae.drew (.refl _ _);exact hc.bE (by simp) _ _ _ this⟩
 have hf:=nR (P:=P) B;have D:=nR (P:=P) C;have E:∀n (w':J),(askRoom n).run P w'=.ok () w':=λn w'=>by unfold askRoom;split<;>rfl
 have F:(choose q).run P w=.ok b w.drew:=by
  show Sem.run P (.choose q .pure) w=_;simp only[Sem.run,u,fl,if_false];rfl
 have j:=λw:J=>mi (w:=w) hi;refine⟨b,(Builtin.zeroCells z.cells (b-(s.len+x.len))).toList,v,A,by simp[Builtin.zeroCells,l],?_⟩;have G:¬(s.len+x.len<=s.cap):=by omega
 have H:¬((s.len+x.len:Nat):Int)>IntKind.i64.max:=by
  simp[IntKind.max,IntKind.signed,IntKind.bits];omega
 have K:¬(281474976710656<Builtin.nextslicecap (s.len+x.len) s.cap*i.bytes):=by omega
 have L:¬Builtin.nextslicecap (s.len+x.len) s.cap*i.bytes>2^48:=by simpa using K
 unfold Builtin.append_;simp only[qQ,l9,List.getElem?_cons_succ,h0,h1,Sem.run_bind,cV hs,cV hx,Result.andThen,h,Builtin.lenOf,Sem.run_pure,G,if_false,fl,j,H,false_and,L,Bool.not_false,if_true];have M:Sem.run P (choose (.appendCap (s.len+x.len) s.cap e)) w=.ok b w.drew:=F;simp only[M,E,hf,D,zeroValue,j,k,Sem.run_bind,Result.andThen,Sem.run_pure,newRow,newObj,Sem.run];have N:w.drew.heap.size=w.heap.size:=rfl;rw[N]
 congr 1
 show w.drew.alloc _=w.drew.alloc _
 congr 2
 simp
theorem pK:∀ (vs:O Y) (c:Array Y) (i:Nat),i+vs.length<=c.size->(fR c i vs).toList.take (i+vs.length)=c.toList.take i++vs
 | [],c,i,_=>by simp[fR]
 |v::vs,c,i,h=>by
  simp only[hJ]at h
  simp only[fR]
  have:=pK vs (c.setIfInBounds i v) (i+1) (by simpa using (by omega:i+1+vs.length<=c.size))
  rw[show i+(v::vs).length=i+1+vs.length by simp;omega,this]
  have hi:i<c.size:=by omega
  have a:(c.setIfInBounds i v).toList.take (i+1)=c.toList.take i++ [v]:=by
   rw[j_ (by simpa using hi)];have b:(List.take i c.toList).set i v=List.take i c.toList:=by
    apply List.set_eq_of_length_le;simp only[cK];omega
   simp[List.take_set,b]
  rw[a];simp
theorem BQ{fP:Array TypeId}{dK dR ek e:TypeId}{i:TypeInfo}{z:Y}{sz:Nat}{s x:ad}{xs vs:O Y}(h0:fP[0]? =some dR)(h1:fP[1]? =some ek)
 (hs:P.underlying dR=some (.slice e)) (hx:P.underlying ek=some (.slice e)) (hi:P.info? e=some i) (hd:(P.underlying e).isSome=true) (B:i.zero=some z) (C:z.cells.size=sz) (r:P.cellsOf e=sz)
 (D:i.bytes≠0) (f:Src sz w x xs) (t:aZ sz e w s vs) (E:∀v∈xs,Plain v) (F:(2*(s.len+x.len)+1000)*i.bytes<=281474976710656):
 ∃ (g:ad) (w':J),Sem.run P (Builtin.append_ fP dK #[.slice s.a s.len s.cap,.slice x.a x.len x.cap]) w=.ok (.slice g.a g.len g.cap) w'/\
  aZ sz e w' g (vs++xs)/\g.len=s.len+x.len/\ae (aC s) w w'/\(∀k,aC g k->aC s k\/w.heap.size<=k):=by
 have hold:=t.src;obtain⟨av,S,G,u⟩:=t;by_cases h:s.len+x.len<=s.cap
 .have H:∀a,s.a=some a->bh w (a.add (s.len*sz)) xs:=by
   intro a j;rcases u with ⟨n,_⟩|⟨b,c,l,o,m,y⟩
   .rw[n]at j;cases j
   .rw[l]at j
    cases j;rw[ay];refine o.bU _ _ ?_ E;rw[m,f.len,cU,←iK];exact nv _ h
  obtain⟨d,hd⟩:=jm _ hd;have p:=x7 (dK:=dK) h0 h1 hs hx hd r f h H;refine⟨⟨s.a,s.len+x.len,s.cap⟩,_,p,?_,rfl,?_,λk q=>.inl q⟩
  .refine⟨by simp[av,f.len,iK],h,G,?_⟩
   rcases u with ⟨n,hc⟩|⟨b,c,l,o,m,y⟩
   .exact .inl ⟨n,hc⟩
   .refine .inr ⟨b,fR c (s.len*sz) xs,l,?_,by rw[iU];exact m,?_⟩
    .simp only[l,ay]
     have:=bg.pJ (T:=e) xs (0+s.len*sz) 0 o;simpa using this
    .have K:s.len*sz+xs.length<=c.size:=by
      rw[m,f.len,←iK];exact nv _ h
     have:=pK xs c (s.len*sz) K;rw[f.len,←iK]at this;rw[this,y]
  .cases L:s.a with
   |none=>exact .refl _ _
   |some a=>
    refine ae.setCells (λ_=>?_) xs 0 (.refl _ _);exact⟨a,L,by unfold Addr.add;split<;>rfl⟩
 .obtain⟨M,rest,N,Q,R,p⟩:=run_append_grow (dK:=dK) h0 h1 hs hx hi hd B C r D f hold I F
  refine⟨⟨some ⟨w.heap.size,0,none⟩,s.len+x.len,M⟩,_,p,?_,rfl,ae.alloc (ae.drew (.refl _ _)) _,?_⟩
  .refine⟨by simp[av,f.len,iK],N,Q,.inr ⟨w.heap.size,(vs++xs++rest).toArray,rfl,bg.new w.drew _ _,?_,?_⟩⟩
   .simp[av,f.len,R]
    rw[←iK,←iK]
    congr 1
    omega
   .have:(vs++xs).length=(s.len+x.len)*sz:=by simp[av,f.len,iK]
    show List.take ((s.len+x.len)*sz) (vs++xs++rest).toArray.toList=vs++xs;rw[←this];exact List.take_left
  .rintro k ⟨A,aq,q⟩
   cases aq;exact .inr (by simpa using q▸bl _)
end
theorem aZ.af{sz:Nat}{T:TypeId}{w w':J}{s:ad}{vs:O Y}{W:Nat->Prop}(h:aZ sz T w s vs)(hc:ae W w w')(e:∀k,aC s k->¬W k):aZ sz T w' s vs:=by
 obtain⟨h1,f,g,a⟩:=h;refine⟨h1,f,g,?_⟩;rcases a with a|⟨b,c,d,i,j,l⟩
 .exact .inl a
 .exact .inr ⟨b,c,d,i.af hc (e b ⟨_,d,rfl⟩),j,l⟩
theorem Src.af{sz:Nat}{w w':J}{s:ad}{vs:O Y}{W:Nat->Prop}(h:Src sz w s vs)(hc:ae W w w')(c:∀k,aC s k->¬W k):Src sz w' s vs:=
 ⟨h.len,h.nil,λa b=>hc.bE (c _ ⟨a,b,rfl⟩) _ _ _ (h.rd a b)⟩
theorem aZ.lt{sz:Nat}{T:TypeId}{w:J}{s:ad}{vs:O Y}(h:aZ sz T w s vs):∀k,aC s k->k<w.heap.size:=by
 rintro k ⟨A,aq,rfl⟩;obtain⟨_,_,_,a⟩:=h;rcases a with ⟨d,_⟩|⟨b,c,e,f,_⟩
 .rw[d]at aq;cases aq
 .rw[e]at aq;cases aq;exact f.lt
theorem aZ.cell{T:TypeId}{w:J}{s:ad}{vs:O Y}(h:aZ 1 T w s vs){i:Nat}{v:Y}(d:vs[i]? =some v):
 ∃b c,s.a=some ⟨b,0,none⟩/\bg w b c T/\c.size=s.cap/\i<s.len/\i<c.size/\w.cell? ⟨b,i,none⟩=some v/\c.toList.take s.len=vs:=by
 obtain⟨h1,k,l,g⟩:=h;have hi:i<s.len:=by
  have:=(jL.1 d).1;omega
 rcases g with ⟨_,hc⟩|⟨b,c,j,e,f,ht⟩
 .omega
 .rw[fH]at f ht
  refine⟨b,c,j,e,f,hi,I,?_,ht⟩;rw[e.cell];rw[←ht,qR]at d;rw[if_pos hi]at d;simpa using d
theorem aZ.set{T:TypeId}{w:J}{s:ad}{vs:O Y}{b i:Nat}(h:aZ 1 T w s vs)(d:s.a=some ⟨b,0,none⟩)(v:Y):
 aZ 1 T (w.setCell ⟨b,i,none⟩ v) s (vs.set i v):=by
 obtain⟨h1,f,g,j⟩:=h;refine⟨by simpa using h1,f,g,.inr ?_⟩;rcases j with ⟨k,_⟩|⟨n,c,e,l,m,ht⟩
 .rw[k]at d;cases d
 .rw[d]at e
  cases e;refine⟨b,_,d,l.set i v,by simpa using m,?_⟩;rw[←ht];simp[List.take_set]
def x8(P:Program)(dR e:TypeId)(sz bytes:Nat):al:=
 match P.underlying dR,P.info? e,P.underlying e with
 |some (.slice a),some i,some _=>a==e&&(match i.zero with|some z=>z.cells.size==sz|none=>false)&&P.cellsOf e==sz&&i.bytes==bytes&&bytes !=0
 |_,_,_=>false
structure ia(P:Program)(dR e:TypeId)(sz bytes:Nat):Prop where
 h:x8 P dR e sz bytes=true
theorem ia.out{P:Program}{dR e:TypeId}{sz bytes:Nat}(h:ia P dR e sz bytes):
 P.underlying dR=some (.slice e)/\∃i z,P.info? e=some i/\(P.underlying e).isSome=true/\i.zero=some z/\z.cells.size=sz/\P.cellsOf e=sz/\i.bytes=bytes/\bytes≠0:=by
 have h:=h.h;unfold x8 at h;split at h
 .rename_i l i d h1 b c
  simp only[dn,ji,bne_iff_ne]at h;obtain⟨⟨⟨⟨rfl,a⟩,f⟩,g⟩,j⟩:=h;split at a
  .rename_i z k
   exact⟨h1,i,z,b,by simp[c],k,by simpa using a,f,g,j⟩
  .cases a
 .cases h
theorem ia.append{P:Program}{w:J}{dR e dK:TypeId}{sz bytes:Nat}{s x:ad}{xs vs:O Y}(h:ia P dR e sz bytes)
 (c:Src sz w x xs) (d:aZ sz e w s vs) (f:∀v∈xs,Plain v) (g:(2*(s.len+x.len)+1000)*bytes<=281474976710656):
 ∃ (b:ad) (w':J),Sem.run P (Builtin.append_ #[dR,dR] dK #[.slice s.a s.len s.cap,.slice x.a x.len x.cap]) w=.ok (.slice b.a b.len b.cap) w'/\
  aZ sz e w' b (vs++xs)/\b.len=s.len+x.len/\ae (aC s) w w'/\(∀k,aC b k->aC s k\/w.heap.size<=k):=by
 obtain⟨h1,i,z,j,l,m,n,o,rfl,p⟩:=h.out;exact BQ rfl rfl h1 h1 j l m n o p c d f g
theorem Src.new{sz:Nat}{T:TypeId}(w:J)(xs:O Y)(n:Nat)(b:xs.length=n*sz):Src sz (w.alloc (.cells xs.toArray T)) ⟨some ⟨w.heap.size,0,none⟩,n,n⟩ xs:=by
 refine⟨b,(λh=>by cases h),λa c=>?_⟩
 cases c;rw[nQ (bg.new w xs.toArray T) _ _ _ (by simp[b])];simp[←b]
theorem aZ.new{sz:Nat}{T:TypeId}(w:J)(xs:O Y)(n:Nat)(a:xs.length=n*sz)(b:n<=maxLen):aZ sz T (w.alloc (.cells xs.toArray T)) ⟨some ⟨w.heap.size,0,none⟩,n,n⟩ xs:=by
 refine⟨a,bl _,b,.inr ⟨_,_,rfl,bg.new w _ _,by simp[a],?_⟩⟩;show List.take (n*sz) xs=xs;rw[←a,jj]
theorem aZ.none(sz:Nat)(T:TypeId)(w:J):aZ sz T w ⟨.none,0,0⟩ []:=⟨by simp,bl _,by decide,.inl ⟨rfl,rfl⟩⟩
theorem hN(k:Nat):¬aC ⟨.none,0,0⟩ k:=by rintro⟨A,aq,_⟩;cases aq
theorem nS{A:ag}{n m k:Nat}:aC ⟨some A,n,m⟩ k↔A.block=k:=⟨λ⟨B,a,h⟩=>by cases a;exact h,λh=>⟨_,rfl,h⟩⟩
theorem Src.alloc{sz:Nat}{w:J}{s:ad}{vs:O Y}(h:Src sz w s vs)(o:Obj):Src sz (w.alloc o) s vs:=h.af (W:=λ_=>False) (ae.alloc (.refl _ _) o) (λ_ _ h=>h)
theorem aZ.ext{sz:Nat}{T:TypeId}{w w':J}{s:ad}{vs:O Y}(h:aZ sz T w s vs)(hc:Ext w w'):aZ sz T w' s vs:=h.af hc λ_ _ h=>h
theorem Src.ext{sz:Nat}{w w':J}{s:ad}{vs:O Y}(h:Src sz w s vs)(hc:Ext w w'):Src sz w' s vs:=h.af hc λ_ _ h=>h
theorem ia.push{P:Program}{w:J}{dR e dK:TypeId}{sz bytes:Nat}{s:ad}{vs xs:O Y}(h:ia P dR e sz bytes)(hx:xs.length=sz)
 (c:aZ sz e w s vs) (d:∀v∈xs,Plain v) (f:(2*(s.len+1)+1000)*bytes<=281474976710656):
 ∃ (b:ad) (w':J),Sem.run P (Builtin.append_ #[dR,dR] dK #[.slice s.a s.len s.cap,.slice (some ⟨w.heap.size,0,none⟩) 1 1]) (w.alloc (.cells xs.toArray e))=.ok (.slice b.a b.len b.cap) w'/\
  aZ sz e w' b (vs++xs)/\b.len=s.len+1/\ae (aC s) w w'/\(∀k,aC b k->aC s k\/w.heap.size<=k):=by
 have hc:Ext w (w.alloc (.cells xs.toArray e)):=ae.alloc (.refl _ _) _;obtain⟨b,w',h1,g,i,j,l⟩:=h.append (dK:=dK) (Src.new (T:=e) w xs 1 (by simpa using hx)) (c.ext hc) d f;exact⟨b,w',h1,g,i,(ae.cN hc).trans j,λk m=>(l k m).imp id (λh=>by simp at h;omega)⟩
theorem ia.clone{P:Program}{w:J}{dR e dK:TypeId}{sz bytes:Nat}{x:ad}{xs:O Y}(h:ia P dR e sz bytes)
 (n:Src sz w x xs) (r:∀v∈xs,Plain v) (t:(2*x.len+1000)*bytes<=281474976710656):
 ∃ (f:ad) (w':J),Sem.run P (Builtin.append_ #[dR,dR] dK #[.slice (some ⟨w.heap.size,0,none⟩) 0 0,.slice x.a x.len x.cap]) (w.alloc (.cells #[] e))=.ok (.slice f.a f.len f.cap) w'/\
  aZ sz e w' f xs/\f.len=x.len/\Ext w w'/\(∀k,aC f k->w.heap.size<=k)/\f.a.isSome=true:=by
 have u:=aZ.new (sz:=sz) (T:=e) w [] 0 (by simp) (by decide);have o:=n.alloc (.cells #[] e);obtain⟨f,w',h1,j,p,g,y⟩:=h.append (dK:=dK) o u r (by simpa using t);refine⟨f,w',h1,by simpa using j,by simpa using p,?_,λk l=>?_,?_⟩
 .refine⟨g.os.trans rfl,g.tape.trans rfl,g.output.trans rfl,?_,λk l _=>?_⟩
  .have:=g.size;simp at this;omega
  .rw[g.block k (by simp;omega) (by rintro⟨A,aq,h⟩;cases aq;simp at h;omega)]
   exact Below.heap_alloc _ _ _ l
 .rcases y k l with ⟨A,aq,h⟩|h
  .cases aq;simp at h;omega
  .simp at h;omega
 .obtain⟨_,i,z,G,B,H,I,C,rfl,K⟩:=h.out
  have m:=j.2.2.2;rcases m with ⟨D,hc⟩|⟨b,c,m,_⟩
  .
   exfalso;have L:=j.2.1;have q:x.len=0:=by simp at p;omega
   have E:xs=[]:=nu.1 (by rw[n.len,q,Nat.zero_mul]);obtain⟨d,hd⟩:=jm _ B;have:=x7 (P:=P) (w:=w.alloc (.cells #[] e)) (fP:= #[dR,dR]) (dK:=dK) (s:=⟨some ⟨w.heap.size,0,Option.none⟩,0,0⟩) rfl rfl h.out.1 h.out.1 hd C o (by simp[q]) (λa _=>by
    rw[E];exact⟨λi hi=>by simp at hi,λv F=>by simp at F⟩)
   rw[this]at h1;simp only[Result.ok.injEq,Value.slice.injEq]at h1;rw[D]at h1
   cases h1.1.1
  .rw[m];rfl
theorem aZ.at{T:TypeId}{w:J}{s:ad}{vs:O Y}(h:aZ 1 T w s vs){i:Nat}{v:Y}(g:vs[i]? =some v):
 ∃A:ag,s.a=some A/\((0:Int)<=(i:Int)/\(i:Int)<((s.len:Nat):Int))/\w.cell? (A.add (Int.toNat (i:Int)*1))=some v/\w.frozen? (A.add (Int.toNat (i:Int)*1))=false/\
  aC s (A.add (Int.toNat (i:Int)*1)).block/\∀d,aZ 1 T (w.setCell (A.add (Int.toNat (i:Int)*1)) d) s (vs.set i d):=by
 obtain⟨b,c,f,j,k,hi,l,hc,_⟩:=h.cell g;have e:(Addr.mk b 0 Option.none).add (Int.toNat (i:Int)*1)=⟨b,i,Option.none⟩:=by rw[fH,dO,ay,cU]
 exact⟨_,f,⟨I,I⟩,by rw[e];exact hc,by rw[e];exact j.frozen _ rfl,by rw[e];exact⟨_,f,rfl⟩,λd=>by rw[e];exact h.set f d⟩
end aR
namespace aR
open Go Go.RowKit
def x9(ns:O Int):ByteArray:=ns.foldl (λr n=>r.push (UInt8.ofNat n.toNat)) ByteArray.empty
theorem BR{P:Program}{w:J}{src dst e:TypeId}{s:ad}{ns:O Int}(hs:P.underlying src=some (.slice e))(he:P.underlying e=some (.int .u8))(hd:P.underlying dst=some .string)
 (h:Src 1 w s (ns.map (.int .u8))):Sem.run P (convert src dst (.slice s.a s.len s.cap)) w=.ok (.string (x9 ns)) w:=by
 rw[run_convert_bytes_string w src dst e s.a s.len s.cap hs he hd]
 cases b:s.a with
 |none=>
  have:=h.nil b;have d:ns=[]:=by simpa using this
  subst d;rfl
 |some A=>
  have c:=h.rd A b;rw[fH]at c;exact run_bytesToString w A s.len s.cap ns (by
   unfold loadCells;rw[run_loadCellsFrom _ _ _ _ c];simp)
theorem x_{P:Program}{e:TypeId}{v:Y}(a:((P.info? e).bind (·.zero)).map (·.cells)=some #[v])(hc:P.cellsOf e=1)(n:Nat):gw P e n=(List.replicate n v).toArray:=by
 unfold gw;rw[hc]
 cases hi:(P.info? e).bind (·.zero) with
 |none=>rw[hi]at a;cases a
 |some z=>
  rw[hi]at a;simp only[kC,Option.some.injEq]at a;simp only[Option.getD_some,a,fH];apply Array.ext
  .simp
  .intro i h1 b
   have c:n≠0:=by
    intro h;subst h;simp at b
   simp[c,Nat.mod_one]
section
variable {P:Program}{w:J}{T:TypeId}{fuel:Nat}{cs:O Y}
end
theorem rv{w:J}{A:ag}:∀ {n i:Nat}{vs:O Y}{j:Nat}{v:Y},bE w A i n=some vs->vs[j]? =some v->w.cell? (A.add (i+j))=some v
 |0,i,vs,j,v,h,a=>by simp[bE]at h;subst h;simp at a
 |n+1,i,vs,j,v,h,a=>by
  simp only[bE]at h
  cases h1:w.cell? (A.add i) with
  |none=>simp[h1]at h
  |some u=>
   cases b:bE w A (i+1) n with
   |none=>simp[h1,b]at h
   |some us=>
    simp only[h1,b,Option.some.injEq]at h
    subst h
    cases j with
    |zero=>simp at a;subst a;exact h1
    |succ j=>
     have:=rv b (j:=j) (by simpa using a)
     rw[show i+(j+1)=i+1+j from I]
     exact this
theorem Src.at{w:J}{s:ad}{vs:O Y}(h:Src 1 w s vs){i:Nat}{v:Y}(b:vs[i]? =some v):
 ∃A:ag,s.a=some A/\((0:Int)<=(i:Int)/\(i:Int)<((s.len:Nat):Int))/\w.cell? (A.add (Int.toNat (i:Int)*1))=some v:=by
 have hi:i<vs.length:=(jL.1 b).1;have d:=h.len
 cases c:s.a with
 |none=>have:=h.nil c;subst this;simp at hi
 |some A=>
  have:=rv (h.rd A c) b;exact⟨A,rfl,⟨I,I⟩,by rw[fH,dO];simpa using this⟩
end aR
