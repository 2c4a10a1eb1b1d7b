/- What a Go program of the model must show, as text that can be read; sound against the kit. -/
import Derived.Below
import Derived.KernelRfl
import Derived.Laws.BytesString
import Derived.OpenShut
import Derived.OrdersHeld
import Derived.ProofKit
import Derived.StillTail
import Derived.Tactics
import Derived.WalkKit
import Derived.WideKeyArgs
namespace Go
theorem bk:type_of% @Nat.le_refl:=@Nat.le_refl
theorem ck:type_of% @of_decide_eq_true:=@of_decide_eq_true
theorem cn:type_of% @List.length_append:=@List.length_append
theorem cu:type_of% @decide_eq_true_eq:=@decide_eq_true_eq
theorem cy:type_of% @List.append_assoc:=@List.append_assoc
theorem cD:type_of% @List.mem_append:=@List.mem_append
theorem cE:type_of% @List.length_take:=@List.length_take
theorem cG:type_of% @of_decide_eq_false:=@of_decide_eq_false
theorem cJ:type_of% @List.getElem_mem:=@List.getElem_mem
theorem cN:type_of% @List.mem_cons:=@List.mem_cons
theorem cO:type_of% @Nat.zero_le:=@Nat.zero_le
theorem cQ:type_of% @Nat.zero_add:=@Nat.zero_add
theorem c8:type_of% @List.length_map:=@List.length_map
theorem c_:type_of% @List.length_set:=@List.length_set
theorem dk:type_of% @Bool.and_eq_true:=@Bool.and_eq_true
theorem dm:type_of% @Int.toNat_natCast:=@Int.toNat_natCast
theorem dr:type_of% @List.getElem?_eq_getElem:=@List.getElem?_eq_getElem
theorem dO:type_of% @decide_eq_true:=@decide_eq_true
theorem dT:type_of% @List.take_of_length_le:=@List.take_of_length_le
theorem ec:type_of% @Nat.lt_or_ge:=@Nat.lt_or_ge
theorem ed:type_of% @List.length_drop:=@List.length_drop
theorem eH:type_of% @Nat.le_trans:=@Nat.le_trans
theorem e3:type_of% @List.not_mem_nil:=@List.not_mem_nil
theorem e4:type_of% @List.getElem_set_ne:=@List.getElem_set_ne
theorem e9:type_of% @Bool.not_eq_true:=@Bool.not_eq_true
theorem e_:type_of% @Nat.lt_of_lt_of_le:=@Nat.lt_of_lt_of_le
theorem fa:type_of% @List.getElem_of_mem:=@List.getElem_of_mem
theorem fb:type_of% @or_false:=@or_false
theorem fh:type_of% @Bool.eq_iff_iff:=@Bool.eq_iff_iff
theorem fi:type_of% @List.mem_singleton:=@List.mem_singleton
theorem fj:type_of% @Nat.mul_one:=@Nat.mul_one
theorem fk:type_of% @List.append_nil:=@List.append_nil
theorem fq:type_of% @List.mem_map:=@List.mem_map
theorem ft:type_of% @List.mem_of_mem_drop:=@List.mem_of_mem_drop
theorem fu:type_of% @List.mem_of_mem_take:=@List.mem_of_mem_take
theorem fv:type_of% @List.getD_eq_getElem?_getD:=@List.getD_eq_getElem?_getD
theorem fE:type_of% @Bool.false_eq_true:=@Bool.false_eq_true
theorem fF:type_of% @List.length_cons:=@List.length_cons
theorem fG:type_of% @List.map_append:=@List.map_append
theorem gk:type_of% @List.mem_filter:=@List.mem_filter
theorem gF:type_of% @List.take_append_drop:=@List.take_append_drop
theorem g3:type_of% @Nat.eq_of_beq_eq_true:=@Nat.eq_of_beq_eq_true
theorem g4:type_of% @Nat.mod_lt:=@Nat.mod_lt
theorem g5:type_of% @List.map_cons:=@List.map_cons
theorem g6:type_of% @List.mem_append_right:=@List.mem_append_right
theorem g7:type_of% @List.getElem_set_self:=@List.getElem_set_self
theorem ib:type_of% @Bool.not_eq_true':=@Bool.not_eq_true'
theorem ic:type_of% @Bool.true_and:=@Bool.true_and
theorem ie:type_of% @Bool.or_eq_true:=@Bool.or_eq_true
theorem ig:type_of% @List.length_singleton:=@List.length_singleton
theorem ih:type_of% @decide_eq_false:=@decide_eq_false
theorem ij:type_of% @List.getElem?_append_right:=@List.getElem?_append_right
theorem iI:type_of% @List.getElem?_eq_some_iff:=@List.getElem?_eq_some_iff
theorem iJ:type_of% @List.mem_cons_of_mem:=@List.mem_cons_of_mem
theorem iK:type_of% @List.drop_zero:=@List.drop_zero
theorem iL:type_of% @Nat.min_eq_left:=@Nat.min_eq_left
theorem jd:type_of% @Nat.add_mul:=@Nat.add_mul
theorem je:type_of% @Nat.mod_eq_of_lt:=@Nat.mod_eq_of_lt
theorem jf:type_of% @List.mem_append_left:=@List.mem_append_left
theorem jg:type_of% @List.pairwise_cons:=@List.pairwise_cons
theorem jh:type_of% @List.find?_eq_none:=@List.find?_eq_none
theorem ji:type_of% @List.mem_of_find?_eq_some:=@List.mem_of_find?_eq_some
theorem jj:type_of% @List.count_pos_iff:=@List.count_pos_iff
theorem jG:type_of% @List.mem_range:=@List.mem_range
theorem jH:type_of% @beq_iff_eq:=@beq_iff_eq
theorem jI:type_of% @List.take_length:=@List.take_length
theorem jJ:type_of% @List.filter_eq_self:=@List.filter_eq_self
theorem jK:type_of% @List.filter_append:=@List.filter_append
theorem ke:type_of% @List.nil_append:=@List.nil_append
theorem kf:type_of% @List.find?_some:=@List.find?_some
theorem kg:type_of% @List.length_nil:=@List.length_nil
theorem kF:type_of% @decide_eq_false_iff_not:=@decide_eq_false_iff_not
theorem kG:type_of% @List.take_succ_eq_append_getElem:=@List.take_succ_eq_append_getElem
theorem kH:type_of% @List.sum_append:=@List.sum_append
theorem kI:type_of% @List.pairwise_iff_getElem:=@List.pairwise_iff_getElem
theorem k6:type_of% @Array.getElem?_eq_some_iff:=@Array.getElem?_eq_some_iff
theorem k7:type_of% @List.drop_eq_getElem_cons:=@List.drop_eq_getElem_cons
theorem k8:type_of% @List.length_eq_zero_iff:=@List.length_eq_zero_iff
theorem k9:type_of% @List.drop_drop:=@List.drop_drop
theorem k_:type_of% @List.map_take:=@List.map_take
theorem ld:type_of% @Bool.false_and:=@Bool.false_and
theorem lf:type_of% @List.filter_cons:=@List.filter_cons
theorem lU:type_of% @Option.isSome_iff_exists:=@Option.isSome_iff_exists
theorem lV:type_of% @Nat.add_zero:=@Nat.add_zero
theorem lW:type_of% @List.cons_append:=@List.cons_append
theorem lX:type_of% @Nat.testBit_or:=@Nat.testBit_or
theorem lY:type_of% @List.getElem?_cons_zero:=@List.getElem?_cons_zero
theorem lZ:type_of% @Bool.false_or:=@Bool.false_or
theorem l0:type_of% @Nat.le_of_ble_eq_true:=@Nat.le_of_ble_eq_true
theorem l1:type_of% @Option.map_some:=@Option.map_some
theorem l2:type_of% @List.perm_middle:=@List.perm_middle
theorem l3:type_of% @List.map_drop:=@List.map_drop
theorem l4:type_of% @List.pairwise_append:=@List.pairwise_append
theorem l5:type_of% @Bool.not_eq_false':=@Bool.not_eq_false'
theorem l6:type_of% @List.mem_or_eq_of_mem_set:=@List.mem_or_eq_of_mem_set
theorem l7:type_of% @List.length_replicate:=@List.length_replicate
theorem mX:type_of% @Nat.sub_self:=@Nat.sub_self
theorem mY:type_of% @Nat.sub_zero:=@Nat.sub_zero
theorem mZ:type_of% @Nat.mul_le_mul_right:=@Nat.mul_le_mul_right
theorem m0:type_of% @List.filter_eq_nil_iff:=@List.filter_eq_nil_iff
theorem m3:type_of% @List.length_zip:=@List.length_zip
theorem m4:type_of% @List.getElem_take:=@List.getElem_take
theorem m5:type_of% @List.getElem?_map:=@List.getElem?_map
theorem m6:type_of% @List.getElem_append_left:=@List.getElem_append_left
theorem m7:type_of% @List.getElem?_eq_none:=@List.getElem?_eq_none
theorem m8:type_of% @Nat.eq_zero_or_pos:=@Nat.eq_zero_or_pos
theorem m9:type_of% @List.count_append:=@List.count_append
theorem m_:type_of% @List.length_filter_le:=@List.length_filter_le
theorem ou:type_of% @List.all_eq_true:=@List.all_eq_true
theorem ov:type_of% @List.map_map:=@List.map_map
theorem ow:type_of% @UInt8.toNat_lt:=@UInt8.toNat_lt
theorem ox:type_of% @List.exists_mem_of_ne_nil:=@List.exists_mem_of_ne_nil
theorem oy:type_of% @List.zipWith_append:=@List.zipWith_append
theorem oz:type_of% @List.take_take:=@List.take_take
theorem oA:type_of% @List.take_append_of_le_length:=@List.take_append_of_le_length
theorem oB:type_of% @List.count_cons:=@List.count_cons
theorem oC:type_of% @List.count_nil:=@List.count_nil
theorem p9:type_of% @List.any_eq_false:=@List.any_eq_false
theorem p_:type_of% @List.filterMap_cons:=@List.filterMap_cons
theorem qa:type_of% @List.filterMap_append:=@List.filterMap_append
theorem qb:type_of% @Nat.testBit_two_pow:=@Nat.testBit_two_pow
theorem qc:type_of% @Bool.or_eq_false_iff:=@Bool.or_eq_false_iff
theorem qd:type_of% @List.getElem?_toArray:=@List.getElem?_toArray
theorem qe:type_of% @List.mem_cons_self:=@List.mem_cons_self
theorem qf:type_of% @Option.some_get:=@Option.some_get
theorem qg:type_of% @List.getElem_set:=@List.getElem_set
theorem qh:type_of% @List.of_mem_zip:=@List.of_mem_zip
theorem qi:type_of% @List.sum_cons:=@List.sum_cons
theorem qj:type_of% @List.perm_append_comm:=@List.perm_append_comm
theorem qk:type_of% @List.getElem_append_right:=@List.getElem_append_right
theorem ql:type_of% @List.toList_toArray:=@List.toList_toArray
theorem qm:type_of% @List.filter_congr:=@List.filter_congr
theorem rQ:type_of% @Array.getElem?_modify:=@Array.getElem?_modify
theorem rR:type_of% @List.getElem?_drop:=@List.getElem?_drop
theorem rS:type_of% @List.range_eq_range':=@List.range_eq_range'
theorem rT:type_of% @Option.map_eq_some_iff:=@Option.map_eq_some_iff
theorem rU:type_of% @List.getElem?_take:=@List.getElem?_take
theorem rV:type_of% @List.nodup_append:=@List.nodup_append
theorem rW:type_of% @List.ext_getElem:=@List.ext_getElem
theorem rX:type_of% @Nat.pow_le_pow_right:=@Nat.pow_le_pow_right
theorem rY:type_of% @List.take_sublist:=@List.take_sublist
theorem rZ:type_of% @List.getElem_drop:=@List.getElem_drop
theorem r0:type_of% @List.getElem_zip:=@List.getElem_zip
theorem r2:type_of% @UInt8.toNat_ofNat':=@UInt8.toNat_ofNat'
theorem r3:type_of% @List.mem_iff_getElem:=@List.mem_iff_getElem
theorem r4:type_of% @List.size_toArray:=@List.size_toArray
theorem r5:type_of% @Int.tmod_eq_emod_of_nonneg:=@Int.tmod_eq_emod_of_nonneg
theorem vn:type_of% @List.eq_of_mem_replicate:=@List.eq_of_mem_replicate
theorem vo:type_of% @Int.eq_ofNat_of_zero_le:=@Int.eq_ofNat_of_zero_le
theorem I{p:Prop}(h:p:=by omega):p:=h
abbrev J:=World
abbrev aa:=Value
abbrev au(α:Type):=Option α
abbrev O(α:Type):=List α
abbrev ah:=Addr
abbrev al:=Bool
end Go
namespace aP
open Go
structure ad where
 a:au ah
 len:Nat
 cap:Nat
instance:Coe ad Value:=⟨λs=>.slice s.a s.len s.cap⟩
instance:Coe Int Value:=⟨λn=>.int .i64 n⟩
instance:Coe Nat Value:=⟨λn=>.int .i64 (n:Int)⟩
instance:Coe Bool Value:=⟨λb=>.bool b⟩
instance:Coe Nat Addr:=⟨λb=>⟨b,0,none⟩⟩
instance:Coe (Option Addr) Value:=⟨λp=>.pointer p⟩
instance:Coe Unit Value:=⟨λ_=>.slice none 0 0⟩
structure g8 where
 f:FuncId
 pre:Array aa
 cap:Array aa
inductive c4 where
 |int (k:IntKind)|bool|str|ptr|slice|map|agg|fn|any
def c4.T:c4->Type
 | .int _=>Int
 | .bool=>al
 | .str=>ByteArray
 | .ptr=>au ah
 | .slice=>ad
 | .map=>au Nat
 | .agg=>Array aa
 | .fn=>g8
 | .any=>aa
def c4.v:(l:c4)->l.T->aa
 | .int k,(n:Int)=>.int k n
 | .bool,(b:al)=>.bool b
 | .str,(s:ByteArray)=>.string s
 | .ptr,(p:au ah)=>.pointer p
 | .slice,(s:ad)=>.slice s.a s.len s.cap
 | .map,(r:au Nat)=>.map r
 | .agg,(cs:Array aa)=>.agg cs
 | .fn,(F:g8)=>.func (.func F.f) F.pre F.cap
 | .any,(v:aa)=>v
inductive Kd where
 |one (l:c4)
 |flat (ls:O c4)
def na(l:c4)(K:aa->Prop):Prop:=
 match l with
 | .int k=>∃n:Int,K (.int k n)
 | .bool=>∃b:al,K (.bool b)
 | .str=>∃s:ByteArray,K (.string s)
 | .ptr=>∃p:au ah,K (.pointer p)
 | .slice=>∃s:ad,K (.slice s.a s.len s.cap)
 | .map=>∃r:au Nat,K (.map r)
 | .agg=>∃cs:Array aa,K (.agg cs)
 | .fn=>∃F:g8,K (.func (.func F.f) F.pre F.cap)
 | .any=>∃v:aa,K v
def vp:O c4->(O aa->Prop)->Prop
 | [],K=>K []
 |l::ls,K=>na l λv=>vp ls λvs=>K (v::vs)
def vq(k:Kd)(K:aa->Prop):Prop:=
 match k with
 | .one l=>na l K
 | .flat ls=>vp ls λvs=>K (.agg vs.toArray)
def r6:O Kd->(O aa->Prop)->Prop
 | [],K=>K []
 |k::ks,K=>vq k λv=>r6 ks λvs=>K (v::vs)
theorem oD{l:c4}{K:aa->Prop}(h:na l K):∃v,K v:=by
 cases l<;>simp only[na]at h<;>obtain⟨x,h⟩:=h<;>exact⟨_,h⟩
theorem yb:∀ {ls:O c4}{K:O aa->Prop},vp ls K->∃vs,K vs
 | [],_,h=>⟨_,h⟩
 |_::_,_,h=>let ⟨_,h⟩:=oD h;let ⟨_,h⟩:=yb h;⟨_,h⟩
theorem yc{k:Kd}{K:aa->Prop}(h:vq k K):∃v,K v:=by
 cases k with
 |one l=>exact oD h
 |flat ls=>obtain⟨_,h⟩:=yb h;exact⟨_,h⟩
theorem vr:∀ {ls:O Kd}{K:O aa->Prop},r6 ls K->∃vs,K vs
 | [],_,h=>⟨_,h⟩
 |_::_,_,h=>let ⟨_,h⟩:=yc h;let ⟨_,h⟩:=vr h;⟨_,h⟩
abbrev Env:=O (Nat×aa)
def Env.get:Env->Nat->au aa
 | [],_=>none
 |(k,v)::e,s=>bif Nat.beq k s then some v else Env.get e s
def ev(e:Env):Operand->au aa
 | .tmp t=>e.get t
 | .const v=>some v
 | .global g=>some (.pointer (some ⟨g,0,none⟩))
 | .func f=>some (.func (.func f) #[] #[])
def ro(e:Env)(x:Operand):aa:=(ev e x).getD undef
def known(e:Env)(xs:Array Operand):al:=xs.toList.all λx=>(ev e x).isSome
structure c6(e:Env)(a:Act):Prop where
 get:∀s v,e.get s=some v->a.tmps[s]? =some v
theorem c6.ev{e:Env}{a:Act}(h:c6 e a){x:Operand}{v:aa}(hx:ev e x=some v):a.eval x=v:=by
 cases x with
 |tmp t=>
  have:=h.get t v hx;simp[Act.eval,Array.getD_eq_getD_getElem?,this]
 |const c=>simpa[aP.ev,Act.eval] using hx
 |global g=>simpa[aP.ev,Act.eval] using hx
 |func f=>simpa[aP.ev,Act.eval] using hx
theorem c6.ro{e:Env}{a:Act}(h:c6 e a){x:Operand}(hx:(aP.ev e x).isSome=true):a.eval x=ro e x:=by
 obtain⟨v,b⟩:=lU.1 hx;rw[h.ev b,aP.ro,b];rfl
def cW(d:au Nat)(v:aa)(e:Env):Env:=
 match d with
 |some d=>(d,v)::e
 |none=>e
theorem nc(d:Nat)(v:aa)(e:Env)(s:Nat):Env.get ((d,v)::e) s=if d=s then some v else e.get s:=by
 simp only[Env.get,cond_eq_ite];by_cases a:d=s
 .subst a;simp
 .have:Nat.beq d s=false:=by
   cases b:Nat.beq d s
   .rfl
   .exact absurd (g3 b) a
  simp[this,a]
theorem c6.put{e:Env}{a:Act}(h:c6 e a){d:au Nat}{v:aa}(hd:∀k,d=some k->k<a.tmps.size):c6 (cW d v e) (a.put d v):=by
 cases d with
 |none=>exact h
 |some d=>
  constructor;intro s u hs;rw[cW,nc]at hs;simp only[Act.put];by_cases b:d=s
  .subst b
   simp only[if_true,Option.some.injEq]at hs;subst hs;simp[hd d rfl]
  .rw[if_neg b]at hs
   rw[Array.getElem?_setIfInBounds_ne b];exact h.get s u hs
inductive dt where
 |one (k:Kd)
 |eN (ks:O Kd)
def gV(r:dt)(K:aa->Prop):Prop:=
 match r with
 | .one k=>vq k K
 | .eN ks=>r6 ks λvs=>K (.tuple vs.toArray)
theorem g9{r:dt}{K:aa->Prop}(h:gV r K):∃v,K v:=by
 cases r with
 |one k=>exact yc h
 |eN ks=>obtain⟨_,h⟩:=vr h;exact⟨_,h⟩
def bV(w:J)(A:ah):Nat->Nat->au (O aa)
 |_,0=>some []
 |i,n+1=>match w.cell? (A.add i),bV w A (i+1) n with
  |some v,some vs=>some (v::vs)
  |_,_=>none
def setCells(w:J)(A:ah):Nat->O aa->J
 |_,[]=>w
 |i,v::vs=>setCells (w.setCell (A.add i) v) A (i+1) vs
def Plain:aa->Prop
 | .agg _=>False
 | .tuple _=>False
 |_=>True
def bC(w:J)(A:ah)(vs:O aa):Prop:=
 (∀i,i<vs.length->(w.cell? (A.add i)).isSome=true/\w.frozen? (A.add i)=false)/\∀v∈vs,Plain v
def gG:TypeDesc->al
 | .struct _=>true
 | .array _ _=>true
 |_=>false
def gy(P:Program)(elem:TypeId)(n:Nat):Array aa:=
 let zero:=if n*P.cellsOf elem=0 then #[] else (((P.info? elem).bind (·.zero)).getD undef).cells
 (Array.range (n*P.cellsOf elem)).map (zero[· %zero.size]!)
section
variable {P:Program}{w:J}
theorem cP{t:TypeId}{d:TypeDesc}(h:P.underlying t=some d):(underlying t).run P w=.ok d w:=by
 simp[underlying,program,Sem.run,bind,Sem.bind,h,pure]
theorem l8{t:TypeId}{d:TypeInfo}(h:P.info? t=some d):(typeInfo t).run P w=.ok d w:=by
 simp[typeInfo,program,Sem.run,bind,Sem.bind,h,pure]
theorem info_of_underlying{t:TypeId}{d:TypeDesc}(h:P.underlying t=some d):∃i,P.info? t=some i:=by
 unfold Program.underlying at h
 cases hi:P.info? t with
 |none=>simp[hi]at h
 |some i=>exact⟨i,rfl⟩
theorem gH{t:TypeId}{d:TypeDesc}(h:P.underlying t=some d):(Go.sizeOf t).run P w=.ok (P.cellsOf t) w:=by
 obtain⟨i,hi⟩:=info_of_underlying h;simp[Go.sizeOf,l8 hi,Program.cellsOf,hi]
theorem oE{t:TypeId}{d:TypeDesc}(h:P.underlying t=some d):(isAgg t).run P w=.ok (gG d) w:=by
 simp only[isAgg,Sem.run_bind,cP h,Result.andThen]
 cases d<;>rfl
theorem vt{A:ah}{v:aa}(h:w.cell? A=some v):(load A).run P w=.ok v w:=by
 simp[load,Sem.run,h]
theorem run_loadCellsFrom{A:ah}:∀ (n i:Nat) (acc:Array aa) (vs:O aa),bV w A i n=some vs->
 (loadCellsFrom A i n acc).run P w=.ok (acc++vs.toArray) w
 |0,i,acc,vs,h=>by
  simp only[bV,Option.some.injEq]at h
  subst h
  simp[loadCellsFrom]
 |n+1,i,acc,vs,h=>by
  simp only[bV]at h
  cases a:w.cell? (A.add i) with
  |none=>simp[a]at h
  |some v=>
   cases b:bV w A (i+1) n with
   |none=>simp[a,b]at h
   |some us=>
    simp only[a,b,Option.some.injEq]at h
    subst h
    simp only[loadCellsFrom,Sem.run_bind,vt a,Result.andThen]
    rw[run_loadCellsFrom n (i+1) (acc.push v) us b]
    simp
theorem r7{T:TypeId}{d:TypeDesc}(a:P.underlying T=some d)(hd:gG d=true){A:ah}{vs:O aa}(h:bV w A 0 (P.cellsOf T)=some vs):
 (loadVar T A).run P w=.ok (.agg vs.toArray) w:=by
 simp only[loadVar,Sem.run_bind,oE a,Result.andThen,hd,if_true,gH a,loadCells,run_loadCellsFrom _ _ _ _ h];simp
theorem yd{T:TypeId}{d:TypeDesc}(a:P.underlying T=some d)(hd:gG d=false){A:ah}{v:aa}(h:w.cell? A=some v):
 (loadVar T A).run P w=.ok v w:=by
 simp only[loadVar,Sem.run_bind,oE a,Result.andThen,hd,fE,if_false,vt h]
theorem Cf{A:ah}{v u:aa}(a:Plain v)(h:w.cell? A=some u)(hf:w.frozen? A=false):(store A v).run P w=.ok () (w.setCell A v):=by
 cases v<;>simp_all [store,Sem.run,Plain]
theorem Cg(w:J)(A B:ah)(v:aa):((w.setCell A v).cell? B).isSome=(w.cell? B).isSome:=by
 simp only[World.setCell,World.cell?,rQ];by_cases a:A.block=B.block
 .simp only[a,if_true]
  cases w.heap[B.block]? with
  |none=>rfl
  |some o=>
   cases o<;>simp
   by_cases hs:B.spot.isSome<;>simp[hs]
   by_cases b:A.spot.isSome<;>simp[b]
   rw[fh];simp
 .simp[a]
theorem Ch(w:J)(A B:ah)(v:aa):(w.setCell A v).frozen? B=w.frozen? B:=by
 simp only[World.setCell,World.frozen?,rQ];by_cases a:A.block=B.block
 .simp only[a,if_true]
  cases w.heap[B.block]? with
  |none=>rfl
  |some o=>cases o<;>rfl
 .simp[a]
theorem oF{A:ah}:∀ (vs:O aa) (i:Nat) (w:J),(∀j,j<vs.length->(w.cell? (A.add (i+j))).isSome=true/\w.frozen? (A.add (i+j))=false)->(∀v∈vs,Plain v)->
 (storeCells A vs i).run P w=.ok () (setCells w A i vs)
 | [],i,w,_,_=>rfl
 |v::vs,i,w,h,a=>by
  have h0:=h 0 (by simp)
  simp only[lV]at h0
  obtain⟨u,hu⟩:=lU.1 h0.1
  simp only[storeCells,Sem.run_bind,Cf (P:=P) (a v (by simp)) hu h0.2,Result.andThen,setCells]
  refine oF vs (i+1) (w.setCell (A.add i) v) (λj b=>?_) (λx hx=>a x (by simp[hx]))
  have:=h (j+1) (by simp;omega)
  rw[Cg,Ch,show i+1+j=i+(j+1) from I]
  exact this
theorem ye{T:TypeId}{d:TypeDesc}(a:P.underlying T=some d){A:ah}{v:aa}(hs:v.cells.size=P.cellsOf T)(h:bC w A v.cells.toList):
 (storeVar T A v).run P w=.ok () (setCells w A 0 v.cells.toList):=by
 simp only[storeVar,Sem.run_bind,gH a,Result.andThen,hs,ne_eq,not_true,if_false];simpa using oF v.cells.toList 0 w (by simpa using h.1) h.2
end
def vu:O c4->ah->Nat->J->(O aa->Prop)->Prop
 | [],_,_,_,K=>K []
 |l::ls,A,i,w,K=>na l λv=>w.cell? (A.add i)=some v/\vu ls A (i+1) w λvs=>K (v::vs)
def oG(P:Program)(tk:TypeId->dt)(T:TypeId)(A:ah)(w:J)(K:aa->Prop):Prop:=
 match P.underlying T with
 |none=>False
 |some d=>
  bif gG d then
   match tk T with
   | .one (.flat ls)=>bif Nat.beq (P.cellsOf T) ls.length then vu ls A 0 w λvs=>K (.agg vs.toArray) else False
   |_=>∃cs:O aa,bV w A 0 (P.cellsOf T)=some cs/\K (.agg cs.toArray)
  else
   match tk T with
   | .one (.one l)=>na l λv=>w.cell? A=some v/\K v
   |_=>False
def vv(P:Program)(tk:TypeId->dt)(T:TypeId)(A:ah)(x:aa)(w:J)(K:J->Prop):Prop:=
 match P.underlying T with
 |none=>False
 |some d=>
  bif gG d then
   match x with
   | .agg cs=>bC w A cs.toList/\cs.size=P.cellsOf T/\K (setCells w A 0 cs.toList)
   |_=>False
  else bif Nat.beq (P.cellsOf T) 1 then
   match tk T with
   | .one (.one .any)=>Plain x/\(∃u,w.cell? A=some u)/\w.frozen? A=false/\K (w.setCell A x)
   |_=>match x with
    | .agg _=>False
    | .tuple _=>False
    |_=>(∃u,w.cell? A=some u)/\w.frozen? A=false/\K (w.setCell A x)
  else False
def kJ(P:Program)(T:TypeId)(xs ys:Array aa)(b:al):Prop:=
 P.eqGuardType P.depth T=false/\∀w,(Op.equal T (.agg xs) (.agg ys)).run P w=.ok b w
def nd:aa->au al
 | .nilIface=>some true
 | .iface _ _=>some false
 |_=>none
def nf:au TypeDesc->al
 |some (.interface _)=>true
 |_=>false
def lg:au TypeDesc->al
 |some (.pointer _)=>true
 |_=>false
def l9:au TypeDesc->al
 |some (.slice _)=>true
 |_=>false
def oH:au TypeDesc->al
 |some (.map _ _)=>true
 |_=>false
def jk:IntKind->IntKind->al:=λa b=>decide (a=b)
def r8(P:Program)(op:BinOp)(T:TypeId)(x y:aa)(K:aa->Prop)(G:Prop):Prop:=
 match y with
 | .nilIface=>bif nf (P.underlying T) then
  match op with
  | .eql=>∃b,nd x=some b/\K (.bool b)
  | .neq=>∃b,nd x=some b/\K (.bool (!b))
  |_=>False
  else False
 | .pointer none=>bif lg (P.underlying T) then
  match op,x with
  | .eql,.pointer p=>K (.bool p.isNone)
  | .neq,.pointer p=>K (.bool (!p.isNone))
  |_,_=>False
  else False
 | .slice none _ _=>bif l9 (P.underlying T) then
  match op,x with
  | .eql,.slice a _ _=>K (.bool a.isNone)
  | .neq,.slice a _ _=>K (.bool (!a.isNone))
  |_,_=>False
  else False
 | .map none=>bif oH (P.underlying T) then
  match op,x with
  | .eql,.map r=>K (.bool r.isNone)
  | .neq,.map r=>K (.bool (!r.isNone))
  |_,_=>False
  else False
 | .agg ys=>
  match op,x with
  | .eql,.agg xs=>∃b,kJ P T xs ys b/\K (.bool b)
  | .neq,.agg xs=>∃b,kJ P T xs ys b/\K (.bool (!b))
  |_,_=>False
 | .int c b=>
  match op,x with
  | .quo,.int k a=>bif jk k c then b≠0/\K (.int k (k.wrap (a.tdiv b))) else False
  | .rem,.int k a=>bif jk k c then b≠0/\K (.int k (a.tmod b)) else False
  | .shl,.int k a=>0<=b/\K (.int k (k.wrap (a*2^(min b.toNat k.bits))))
  | .shr,.int k a=>0<=b/\K (.int k (a.fdiv (2^(min b.toNat k.bits))))
  |_,_=>G
 | .bool b=>match P.underlying T with
  |some .bool=>match op,x with
   | .eql,.bool a=>K (.bool (a==b))
   | .neq,.bool a=>K (.bool (!(a==b)))
   |_,_=>False
  |_=>False
 | .string b=>
  match op,x with
  | .add,.string a=>((a.size+b.size:Nat):Int)<=9223372036854775807/\K (.string (a++b))
  |_,_=>G
 |_=>G
section
variable {P:Program}
theorem oI(T:TypeId)(x y:aa):Op.equal T x y=Op.equalIn (9999+1) T x y:=rfl
theorem Ci(d:Nat){T:TypeId}{x:aa}{b:al}(a:nf (P.underlying T)=true)(h:nd x=some b)(w:J):
 (Op.equalIn (d+1) T x .nilIface).run P w=.ok b w:=by
 cases hu:P.underlying T with
 |none=>simp[hu,nf]at a
 |some d=>
  cases d<;>simp only[hu,nf,fE]at a
  simp only[Op.equalIn,Sem.run_bind,cP hu,Result.andThen]
  cases x<;>simp only[nd,reduceCtorEq,Option.some.injEq]at h<;>subst h<;>rfl
theorem Cj(d:Nat){T:TypeId}{p:au ah}(a:lg (P.underlying T)=true)(w:J):
 (Op.equalIn (d+1) T (.pointer p) (.pointer none)).run P w=.ok p.isNone w:=by
 cases hu:P.underlying T with
 |none=>simp[hu,lg]at a
 |some d=>
  cases d<;>simp only[hu,lg,fE]at a
  simp only[Op.equalIn,Sem.run_bind,cP hu,Result.andThen]
  cases p<;>rfl
theorem Ck(d:Nat){T:TypeId}{a:au ah}{l c e c':Nat}(b:l9 (P.underlying T)=true)(w:J):
 (Op.equalIn (d+1) T (.slice a l c) (.slice none e c')).run P w=.ok a.isNone w:=by
 cases hu:P.underlying T with
 |none=>simp[hu,l9]at b
 |some d=>
  cases d<;>simp only[hu,l9,fE]at b
  simp only[Op.equalIn,Sem.run_bind,cP hu,Result.andThen]
  cases a<;>rfl
theorem Cl(d:Nat){T:TypeId}{r:au Nat}(a:oH (P.underlying T)=true)(w:J):
 (Op.equalIn (d+1) T (.map r) (.map none)).run P w=.ok r.isNone w:=by
 cases hu:P.underlying T with
 |none=>simp[hu,oH]at a
 |some d=>
  cases d<;>simp only[hu,oH,fE]at a
  simp only[Op.equalIn,Sem.run_bind,cP hu,Result.andThen]
  cases r<;>rfl
theorem yf{T:TypeId}{x:aa}{b:al}(a:nf (P.underlying T)=true)(h:nd x=some b)(w:J):
 (Op.equal T x .nilIface).run P w=.ok b w:=by rw[oI];exact Ci _ a h w
theorem r9{T:TypeId}{p:au ah}(a:lg (P.underlying T)=true)(w:J):
 (Op.equal T (.pointer p) (.pointer none)).run P w=.ok p.isNone w:=by rw[oI];exact Cj _ a w
theorem r_{T:TypeId}{a:au ah}{l c b c':Nat}(d:l9 (P.underlying T)=true)(w:J):
 (Op.equal T (.slice a l c) (.slice none b c')).run P w=.ok a.isNone w:=by rw[oI];exact Ck _ d w
theorem yg{T:TypeId}{r:au Nat}(a:oH (P.underlying T)=true)(w:J):
 (Op.equal T (.map r) (.map none)).run P w=.ok r.isNone w:=by rw[oI];exact Cl _ a w
theorem yh{T:TypeId}{xs ys:Array aa}(h:P.eqGuardType P.depth T=false)(op:BinOp)(x y:Operand)(w:J):
 (eqGuard op T x y (.agg xs) (.agg ys)).run P w=.ok () w:=by
 cases op<;>simp[eqGuard,program,Sem.run,bind,Sem.bind,h,pure]
theorem yi{T:TypeId}{a b:al}(c:P.underlying T=some .bool)(w:J):(Op.equal T (.bool a) (.bool b)).run P w=.ok (a==b) w:=by
 have e:∀ (d:Nat) (w:J),(Op.equalIn (d+1) T (.bool a) (.bool b)).run P w=.ok (a==b) w:=by
  intro d w;simp[Op.equalIn,cP c]
 rw[oI];exact e _ w
theorem yj{op:BinOp}{T:TypeId}{x y:aa}{hT oJ:Operand}{K:aa->Prop}{G:Prop}
 (m:y=.nilIface->∃c,oJ=.const c)
 (h:r8 P op T x y K G):
 G\/∃v,(∀w,(do eqGuard op T hT oJ x y;binOp op T x y:Sem aa).run P w=.ok v w)/\K v:=by
 unfold r8 at h;split at h
 case h_1=>
  obtain⟨c,hc⟩:=m rfl;by_cases d:nf (P.underlying T)=true
  .rw[d]at h
   simp only[cond_true]at h;split at h
   .obtain⟨b,e,f⟩:=h
    refine .inr ⟨_,λw=>?_,f⟩;have:=yf (P:=P) d e w
    cases x<;>simp only[nd,reduceCtorEq,Option.some.injEq]at e<;>subst hc e<;>simp[eqGuard,binOp,this]
   .obtain⟨b,e,f⟩:=h
    refine .inr ⟨_,λw=>?_,f⟩;have:=yf (P:=P) d e w
    cases x<;>simp only[nd,reduceCtorEq,Option.some.injEq]at e<;>subst hc e<;>simp[eqGuard,binOp,this]
   .exact h.elim
  .simp only[e9]at d;rw[d]at h;exact h.elim
 case h_2=>
  by_cases d:lg (P.underlying T)=true
  .rw[d]at h
   simp only[cond_true]at h;split at h
   .exact .inr ⟨_,λw=>by simp[eqGuard,binOp,r9 (P:=P) d],h⟩
   .exact .inr ⟨_,λw=>by simp[eqGuard,binOp,r9 (P:=P) d],h⟩
   .exact h.elim
  .simp only[e9]at d;rw[d]at h;exact h.elim
 case h_3=>
  by_cases d:l9 (P.underlying T)=true
  .rw[d]at h
   simp only[cond_true]at h;split at h
   .exact .inr ⟨_,λw=>by simp[eqGuard,binOp,r_ (P:=P) d],h⟩
   .exact .inr ⟨_,λw=>by simp[eqGuard,binOp,r_ (P:=P) d],h⟩
   .exact h.elim
  .simp only[e9]at d;rw[d]at h;exact h.elim
 case h_4=>
  by_cases d:oH (P.underlying T)=true
  .rw[d]at h
   simp only[cond_true]at h;split at h
   .exact .inr ⟨_,λw=>by simp[eqGuard,binOp,yg (P:=P) d],h⟩
   .exact .inr ⟨_,λw=>by simp[eqGuard,binOp,yg (P:=P) d],h⟩
   .exact h.elim
  .simp only[e9]at d;rw[d]at h;exact h.elim
 case h_5=>
  split at h
  .obtain⟨b,⟨i,j⟩,f⟩:=h
   exact .inr ⟨_,λw=>by simp[yh i,binOp,j],f⟩
  .obtain⟨b,⟨i,j⟩,f⟩:=h
   exact .inr ⟨_,λw=>by simp[yh i,binOp,j],f⟩
  .exact h.elim
 case h_6 l b=>
  split at h
  .rename_i k a
   by_cases g:k=l
   .subst g
    simp only[jk,decide_true,cond_true]at h;exact .inr ⟨_,λw=>by simp[eqGuard,binOp,Op.intDiv,h.1],h.2⟩
   .simp[jk,g]at h
  .rename_i k a
   by_cases g:k=l
   .subst g
    simp only[jk,decide_true,cond_true]at h;exact .inr ⟨_,λw=>by simp[eqGuard,binOp,Op.intDiv,h.1],h.2⟩
   .simp[jk,g]at h
  .exact .inr ⟨_,λw=>by simp[eqGuard,binOp,Op.shift,show¬b<0 from I],h.2⟩
  .exact .inr ⟨_,λw=>by simp[eqGuard,binOp,Op.shift,show¬b<0 from I],h.2⟩
  .exact .inl h
 case h_7 b=>
  split at h
  .rename_i d
   split at h
   .exact .inr ⟨_,λw=>by simp[eqGuard,binOp,yi d],h⟩
   .exact .inr ⟨_,λw=>by simp[eqGuard,binOp,yi d],h⟩
   .exact h.elim
  .exact h.elim
 case h_8 b=>
  split at h
  .rename_i a
   refine .inr ⟨_,λw=>?_,h.2⟩;have i:=h.1;simp[eqGuard,binOp,Op.stringOp,IntKind.max,IntKind.signed,IntKind.bits];omega
  .exact .inl h
 case h_9=>exact .inl h
end
def sd(P:Program)(T:TypeId)(x:aa)(K:aa->Prop):Prop:=
 match P.underlying T with
 |some (.array n _)=>match x with
  | .slice a len _=>n<=len/\∃A,a=some A/\K (.pointer (some A))
  |_=>False
 |_=>False
def se(P:Program)(T:TypeId)(x i:aa)(K:aa->Prop):Prop:=
 match i with
 | .int _ n=>
  match P.underlying T with
  |some (.slice elem)=>bif (P.underlying elem).isSome then
   match x with
   | .slice a len _=>∃A,a=some A/\(0<=n/\n<(len:Int))/\K (.pointer (some (A.add (n.toNat*P.cellsOf elem))))
   |_=>False
   else False
  |some (.array len elem)=>bif (P.underlying elem).isSome then
   match x with
   | .pointer (some A)=>(0<=n/\n<(len:Int))/\K (.pointer (some (A.add (n.toNat*P.cellsOf elem))))
   |_=>False
   else False
  |_=>False
 |_=>False
def qn(P:Program)(tk:TypeId->dt)(T:TypeId)(cs:Array aa)(off:Nat)(K:aa->Prop):Prop:=
 match P.underlying T with
 |none=>False
 |some d=>
  bif gG d then K (.agg (cs.extract off (off+P.cellsOf T)))
  else match tk T with
   | .one (.one l)=>na l λv=>cs[off]? =some v/\K v
   |_=>False
def sf(P:Program)(tk:TypeId->dt)(T:TypeId)(x i:aa)(K:aa->Prop):Prop:=
 match i with
 | .int _ n=>
  match P.underlying T with
  |some (.array len elem)=>match x with
   | .agg cs=>(0<=n/\n<(len:Int))/\qn P tk elem cs (n.toNat*P.cellsOf elem) K
   |_=>False
  |some .string=>match x with
   | .string s=>0<=n/\∃b:UInt8,s.data.toList[n.toNat]? =some b/\K (.int .u8 b.toNat)
   |_=>False
  |_=>False
 |_=>False
def sg(P:Program)(tk:TypeId->dt)(T:TypeId)(x:aa)(i:Nat)(K:aa->Prop):Prop:=
 match P.underlying T with
 |some (.struct fs)=>match fs[i]? with
  |some f=>match x with
   | .agg cs=>qn P tk f.type cs f.offset K
   |_=>False
  |none=>False
 |_=>False
def kh(v:au aa)(y d:Nat)(K:Nat->Prop):Prop:=
 match v with
 |none=>K d
 |some (.int _ i)=>(0<=i/\i<=(y:Int))/\K i.toNat
 |_=>False
def aU(a:au ah)(sz l m:Nat):au ah:=if m=l then a else a.map (·.add (l*sz))
def sh(P:Program)(T:TypeId)(x:aa)(lo hi b:au aa)(K:aa->Prop):Prop:=
 match P.underlying T with
 |some .string=>match b,x with
  |none,.string s=>kh hi s.size s.size λh=>kh lo h 0 λl=>K (.string (s.extract l h))
  |_,_=>False
 |some (.slice elem)=>bif (P.underlying elem).isSome then
  match x with
  | .slice a len cap=>match b with
   |none=>kh hi cap len λh=>kh lo h 0 λl=>K (.slice (aU a (P.cellsOf elem) l cap) (h-l) (cap-l))
   |some c=>match hi with
    |none=>False
    |some d=>kh (some c) cap 0 λm=>kh (some d) m 0 λh=>kh lo h 0 λl=>K (.slice (aU a (P.cellsOf elem) l m) (h-l) (m-l))
  |_=>False
  else False
 |some (.array n elem)=>bif (P.underlying elem).isSome then
  match b,x with
  |none,.pointer (some A)=>kh hi n n λh=>kh lo h 0 λl=>K (.slice (aU (some A) (P.cellsOf elem) l n) (h-l) (n-l))
  |_,_=>False
  else False
 |_=>False
def vw(P:Program)(T:TypeId)(l c:aa)(w:J)(K:aa->J->Prop):Prop:=
 match P.underlying T with
 |some (.slice elem)=>bif (P.underlying elem).isSome then
  bif ((P.info? elem).bind (·.zero)).isSome then
  match l,c with
  | .int _ n,.int _ m=>(0<=n/\n<=m/\m<=9223372036854775807/\(P.bytesOf elem:Int)*m<=140737488355328)/\
   K (.slice (some ⟨w.heap.size,0,none⟩) n.toNat m.toNat) {w with heap:=w.heap.push (.cells (gy P elem m.toNat) elem)}
  |_,_=>False
  else False
  else False
 |_=>False
section
variable {P:Program}{w:J}
theorem jl(o:au TypeDesc)(h:o.isSome=true):∃d,o=some d:=lU.1 h
theorem yk{T:TypeId}{x:aa}{K:aa->Prop}(h:sd P T x K):∃v,(∀w,(Instr.arrayAt T x).run P w=.ok v w)/\K v:=by
 unfold sd at h;split at h
 .rename_i n e b
  split at h
  .rename_i a len cap
   obtain⟨c,A,rfl,d⟩:=h;exact⟨_,λw=>by simp[Instr.arrayAt,cP b,Nat.not_lt.2 c],d⟩
  .exact h.elim
 .exact h.elim
theorem yl{T:TypeId}{x i:aa}{K:aa->Prop}(h:se P T x i K):∃v,(∀w,(Instr.indexAt T x i).run P w=.ok v w)/\K v:=by
 unfold se at h;split at h
 .rename_i k n
  split at h
  .rename_i elem a
   by_cases he:(P.underlying elem).isSome=true
   .rw[he]at h
    simp only[cond_true]at h;split at h
    .obtain⟨A,rfl,b,c⟩:=h
     obtain⟨d,hd⟩:=jl _ he;exact⟨_,λw=>by simp[Instr.indexAt,asIntOf,cP a,b,gH hd],c⟩
    .exact h.elim
   .simp only[e9]at he;rw[he]at h;exact h.elim
  .rename_i len elem a
   by_cases he:(P.underlying elem).isSome=true
   .rw[he]at h
    simp only[cond_true]at h;split at h
    .obtain⟨b,c⟩:=h
     obtain⟨d,hd⟩:=jl _ he;exact⟨_,λw=>by simp[Instr.indexAt,asIntOf,Instr.sureAddr,cP a,b,gH hd],c⟩
    .exact h.elim
   .simp only[e9]at he;rw[he]at h;exact h.elim
  .exact h.elim
 .exact h.elim
theorem ym{tk:TypeId->dt}{T:TypeId}{cs:Array aa}{off:Nat}{K:aa->Prop}(h:qn P tk T cs off K):∃v,(∀w,(part T cs off).run P w=.ok v w)/\K v:=by
 unfold qn at h;split at h
 .exact h.elim
 .rename_i d a
  cases hd:gG d with
  |true=>
   rw[hd]at h;exact⟨_,λw=>by simp[part,oE a,hd,gH a],h⟩
  |false=>
   rw[hd]at h;simp only[cond_false]at h;split at h
   .obtain⟨v,b,c⟩:=oD h
    exact⟨v,λw=>by simp[part,oE a,hd,b],c⟩
   .exact h.elim
theorem yn{tk:TypeId->dt}{T:TypeId}{x i:aa}{K:aa->Prop}(h:sf P tk T x i K):∃v,(∀w,(Instr.index T x i).run P w=.ok v w)/\K v:=by
 unfold sf at h;split at h
 .rename_i k n
  split at h
  .rename_i len elem a
   split at h
   .obtain⟨c,h⟩:=h
    obtain⟨v,f,e⟩:=ym h;refine⟨v,λw=>?_,e⟩;have hs:(Go.sizeOf elem).run P w=.ok (P.cellsOf elem) w:=by
     unfold qn at h
     cases he:P.underlying elem with
     |none=>simp[he]at h
     |some d=>exact gH he
    simp[Instr.index,asIntOf,cP a,c,hs,f]
   .exact h.elim
  .rename_i a
   split at h
   .rename_i s
    obtain⟨c,b,hs,e⟩:=h;have g:s[n.toNat]? =some b:=by
     obtain⟨j,l⟩:=iI.1 hs;have m:n.toNat<s.size:=by simpa using j
     rw[getElem?_pos s n.toNat m];simp only[Option.some.injEq];rw[←l];rfl
    exact⟨_,λw=>by simp[Instr.index,asIntOf,cP a,c,g],e⟩
   .exact h.elim
  .exact h.elim
 .exact h.elim
theorem yo{tk:TypeId->dt}{T:TypeId}{x:aa}{i:Nat}{K:aa->Prop}(h:sg P tk T x i K):∃v,(∀w,(Instr.field T x i).run P w=.ok v w)/\K v:=by
 unfold sg at h;split at h
 .rename_i fs a
  split at h
  .rename_i f hf
   split at h
   .obtain⟨v,b,c⟩:=ym h
    exact⟨v,λw=>by simp[Instr.field,cP a,hf,asAgg,b],c⟩
   .exact h.elim
  .exact h.elim
 .exact h.elim
theorem jL{v:au aa}{y d:Nat}{c:BoundsCode}{K:Nat->Prop}(h:kh v y d K):
 (v=none/\K d)\/∃u n,v=some u/\(∀w,(Instr.sliceBound u y c).run P w=.ok n w)/\K n:=by
 unfold kh at h;split at h
 .exact .inl ⟨rfl,h⟩
 .exact .inr ⟨_,_,rfl,λw=>by simp[Instr.sliceBound,asIntOf,h.1],h.2⟩
 .exact h.elim
theorem yp{T:TypeId}{x:aa}{lo hi q:au aa}{K:aa->Prop}(h:sh P T x lo hi q K):
 ∃v,(∀w,(Instr.sliceAt T x lo hi q).run P w=.ok v w)/\K v:=by
 unfold sh at h;split at h
 .rename_i g
  split at h
  .rename_i s
   rcases jL (P:=P) (c:=.sliceAlen) h with ⟨f,i⟩|⟨u,n,f,k,i⟩
   .rcases jL (P:=P) (c:=.sliceB) i with ⟨b,e⟩|⟨o,bp,b,j,e⟩
    .exact⟨_,λw=>by simp[Instr.sliceAt,Instr.slice,cP g,Instr.sliceBounds,f,b],e⟩
    .exact⟨_,λw=>by simp[Instr.sliceAt,Instr.slice,cP g,Instr.sliceBounds,f,b,j],e⟩
   .rcases jL (P:=P) (c:=.sliceB) i with ⟨b,e⟩|⟨o,bp,b,j,e⟩
    .exact⟨_,λw=>by simp[Instr.sliceAt,Instr.slice,cP g,Instr.sliceBounds,f,b,k],e⟩
    .exact⟨_,λw=>by simp[Instr.sliceAt,Instr.slice,cP g,Instr.sliceBounds,f,b,k,j],e⟩
  .exact h.elim
 .rename_i elem g
  by_cases he:(P.underlying elem).isSome=true
  .rw[he]at h
   simp only[cond_true]at h;obtain⟨d,hd⟩:=jl _ he;have l:=λw:J=>gH (w:=w) hd;split at h
   .rename_i a len cap
    split at h
    .rcases jL (P:=P) (c:=.sliceAcap) h with ⟨f,i⟩|⟨u,n,f,k,i⟩
     .rcases jL (P:=P) (c:=.sliceB) i with ⟨b,e⟩|⟨o,bp,b,j,e⟩
      .exact⟨_,λw=>by simp[Instr.sliceAt,Instr.slice,cP g,Instr.sliceBounds,l,aU,f,b],e⟩
      .exact⟨_,λw=>by simp[Instr.sliceAt,Instr.slice,cP g,Instr.sliceBounds,j,l,aU,f,b],e⟩
     .rcases jL (P:=P) (c:=.sliceB) i with ⟨b,e⟩|⟨o,bp,b,j,e⟩
      .exact⟨_,λw=>by simp[Instr.sliceAt,Instr.slice,cP g,Instr.sliceBounds,k,l,aU,f,b],e⟩
      .exact⟨_,λw=>by simp[Instr.sliceAt,Instr.slice,cP g,Instr.sliceBounds,k,j,l,aU,f,b],e⟩
    .split at h
     .exact h.elim
     .rcases jL (P:=P) (c:=.slice3Acap) h with ⟨m,i⟩|⟨u,n,m,k,i⟩
      .cases m
      .cases m
       rcases jL (P:=P) (c:=.slice3B) i with ⟨m,e⟩|⟨t,b2,m,r,e⟩
       .cases m
       .cases m
        rcases jL (P:=P) (c:=.slice3C) e with ⟨b,p⟩|⟨o,bp,b,j,p⟩
        .exact⟨_,λw=>by simp[Instr.sliceAt,Instr.slice,cP g,Instr.sliceBounds,k,r,l,aU,b],p⟩
        .exact⟨_,λw=>by simp[Instr.sliceAt,Instr.slice,cP g,Instr.sliceBounds,k,r,j,l,aU,b],p⟩
   .exact h.elim
  .simp only[e9]at he;rw[he]at h;exact h.elim
 .rename_i n elem g
  by_cases he:(P.underlying elem).isSome=true
  .rw[he]at h
   simp only[cond_true]at h;obtain⟨d,hd⟩:=jl _ he;have l:=λw:J=>gH (w:=w) hd;split at h
   .rename_i A
    rcases jL (P:=P) (c:=.sliceAlen) h with ⟨f,i⟩|⟨u,b2,f,k,i⟩
    .rcases jL (P:=P) (c:=.sliceB) i with ⟨b,e⟩|⟨o,bp,b,j,e⟩
     .refine⟨_,λw=>?_,e⟩
      simp[Instr.sliceAt,cP g,Instr.sureAddr,Instr.sliceBounds,l,aU,f,b];try (split<;>rfl)
     .refine⟨_,λw=>?_,e⟩
      simp[Instr.sliceAt,cP g,Instr.sureAddr,Instr.sliceBounds,j,l,aU,f,b];try (split<;>rfl)
    .rcases jL (P:=P) (c:=.sliceB) i with ⟨b,e⟩|⟨o,bp,b,j,e⟩
     .refine⟨_,λw=>?_,e⟩
      simp[Instr.sliceAt,cP g,Instr.sureAddr,Instr.sliceBounds,k,l,aU,f,b];try (split<;>rfl)
     .refine⟨_,λw=>?_,e⟩
      simp[Instr.sliceAt,cP g,Instr.sureAddr,Instr.sliceBounds,k,j,l,aU,f,b];try (split<;>rfl)
   .exact h.elim
  .simp only[e9]at he;rw[he]at h;exact h.elim
 .exact h.elim
theorem vx{n:Int}(h0:0<=n)(a:n<=9223372036854775807):IntKind.i64.wrap n=n:=by
 have e:n%18446744073709551616=n:=Int.emod_eq_of_lt h0 I;simp[IntKind.wrap,IntKind.signed,IntKind.bits,e];omega
theorem Cm{T:TypeId}{l c:aa}{K:aa->J->Prop}(h:vw P T l c w K):
 ∃v w',(Instr.makeSlice T l c).run P w=.ok v w'/\K v w':=by
 unfold vw at h;split at h
 .rename_i elem e
  by_cases he:(P.underlying elem).isSome=true
  .rw[he]at h
   simp only[cond_true]at h;by_cases a:((P.info? elem).bind (·.zero)).isSome=true
   .rw[a]at h
    simp only[cond_true]at h;split at h
    .rename_i k n t m
     obtain⟨⟨h0,u,f,g⟩,j⟩:=h;obtain⟨d,hd⟩:=jl _ he;obtain⟨i,hi⟩:=info_of_underlying hd;obtain⟨z,b⟩:=lU.1 a;simp only[hi,Option.bind_some]at b;have o:P.bytesOf elem=i.bytes:=by simp[Program.bytesOf,hi]
     have hc:P.cellsOf elem=i.size:=by simp[Program.cellsOf,hi]
     rw[o]at g;have p:=vx h0 I;have q:=vx (n:=m) I f;refine⟨_,_,?_,j⟩;have r:¬(m<0):=by omega
     have s:¬(281474976710656<(i.bytes:Int)*m):=by omega
     simp[Instr.makeSlice,cP e,asInt,asIntOf,l8 hi,p,q,r,s,gH hd,show¬n<0 from I,show¬m<n from I];by_cases hs:m.toNat*P.cellsOf elem=0
     .simp[hs,newRow,newObj,Sem.run,gy]
     .simp[zeroValue,l8 hi,b,newRow,newObj,Sem.run,gy,hs,hi]
    .exact h.elim
   .simp only[e9]at a;rw[a]at h;exact h.elim
  .simp only[e9]at he;rw[he]at h;exact h.elim
 .exact h.elim
end
def aq(w:J)(K:J->Prop):Prop:=K w
def vy(s:ByteArray)(n:Nat):au UInt8:=s.data.toList[n]?
def cellAt(cs:Array aa)(n:Nat):au aa:=cs[n]?
def ik(k:IntKind)(a b:Int):Int:=k.wrap ((BitVec.ofInt k.bits a&&&BitVec.ofInt k.bits b).toNat:Int)
def l_(k:IntKind)(a b:Int):Int:=k.wrap ((BitVec.ofInt k.bits a|||BitVec.ofInt k.bits b).toNat:Int)
def ng(k:IntKind)(a b:Int):Int:=k.wrap ((BitVec.ofInt k.bits a^^^BitVec.ofInt k.bits b).toNat:Int)
def yq(k:IntKind)(a b:Int):Int:=k.wrap ((BitVec.ofInt k.bits a&&&~~~BitVec.ofInt k.bits b).toNat:Int)
def qo(P:Program)(o:Oper)(K:aa->J->Prop)(e:Env)(w:J):Prop:=
 bif known e o.op.operands then
  match (execOp (ro e) o).run P w with
  | .ok (.value v) w'=>aq w' λw1=>K v w1
  |_=>False
 else False
def yr(P:Program)(tk:TypeId->dt)(T:TypeId):dt:=
 match P.underlying T with
 |some (.slice e)=>tk e
 |_=>.one (.one .agg)
def c4.Cn:c4->al
 | .slice=>true
 |_=>false
def yt:dt->al
 | .one (.one .agg)=>true
 | .one (.flat ls)=>ls.any c4.Cn
 |_=>false
def gen(P:Program)(tk:TypeId->dt)(o:Oper)(K:aa->J->Prop)(e:Env)(w:J):Prop:=
 bif known e o.op.operands then
  match (execOp (ro e) o).run P w with
  | .ok (.value v) w'=>K v w'
  | .ok .skip w'=>K undef w'
  | .ok (.enter f args) w'=>Calls P f args w' λa b=>gV (tk o.type) λv=>a=.returned v/\K v b
  |_=>False
 else False
def gW(P:Program)(f:FuncId):Prop:=∃fn,P.funcs[f]? =some fn/\(fn.name== "runtime.NumGoroutine")=false/\fn.body.isNone=false
theorem yu{P:Program}{f:FuncId}(h:gW P f)(args:Array aa)(w:J):(callFunc f args).run P w=.ok (.enter f args) w:=by
 obtain⟨fn,b,c,a⟩:=h;have d:¬fn.name= "runtime.NumGoroutine" :=by simpa using c
 have e:¬fn.body=none:=by
  intro h;rw[h]at a;cases a
 simp[callFunc,program,Sem.run,bind,Sem.bind,b,d,e,pure]
def vz:Op->al
 | .select _ _=>true
 |_=>false
def yv(P:Program)(T:TypeId):Operand->al
 | .const _=>false
 |_=>nf (P.underlying T)||lg (P.underlying T)
def Co(P:Program)(op:BinOp)(T:TypeId)(hT oJ:Operand)(x y:aa)(b:al):Prop:=
 ∀w,Sem.run P (do eqGuard op T hT oJ x y;binOp op T x y:Sem aa) w=.ok (.bool b) w
def oK:Operand->aa->al
 | .const _,_=>true
 |_,.nilIface=>false
 |_,_=>true
def iM(P:Program)(tk:TypeId->dt)(o:Oper)(K:aa->J->Prop)(e:Env)(w:J):Prop:=
 match o.op with
 | .nilCheck x=>match ev e x with
  |some (.pointer p)=>∃A,p=some A/\K (.pointer (some A)) w
  |_=>False
 | .load T x=>match ev e x with
  |some (.pointer (some A))=>oG P tk T A w λv=>K v w
  |_=>False
 | .store T x y=>match ev e x,ev e y with
  |some (.pointer (some A)),some v=>vv P tk T A v w λw'=>aq w' λw1=>K undef w1
  |_,_=>False
 | .binOp op T x y _=>match ev e x,ev e y with
  |some a,some q=>bif yv P T y then (∃b:al,Co P op T x y a q b/\K (.bool b) w) else
   bif oK y q then r8 P op T a q (λv=>K v w) (gen P tk o K e w) else False
  |_,_=>False
 | .indexAddr T x i=>match ev e x,ev e i with
  |some a,some g=>se P T a g λv=>K v w
  |_,_=>False
 | .index T x i=>match ev e x,ev e i with
  |some a,some g=>sf P tk T a g λv=>K v w
  |_,_=>False
 | .field T x i=>match ev e x with
  |some a=>sg P tk T a i λv=>K v w
  |_=>False
 | .alloc _=>qo P o K e w
 | .box _ _=>qo P o K e w
 | .buildSlice T n ps=>bif yt (yr P tk T) then
  (bif known e o.op.operands then
    gV (tk o.type) λr=>∃w1,(Instr.buildSlice T n (ps.map λp=>(p.1,ro e p.2))).run P w=.ok r w1/\K r w1
  else False)
  else qo P o K e w
 | .slice T x lo hi u=>bif known e o.op.operands then
  sh P T (ro e x) (lo.map (ro e)) (hi.map (ro e)) (u.map (ro e)) λv=>K v w
  else False
 | .makeSlice T l c=>match ev e l,ev e c with
  |some z,some B=>vw P T z B w λv w'=>aq w' λw1=>K v w1
  |_,_=>False
 | .convert s d x=>match ev e x with
  |some (.int j n)=>bif (P.underlying s).isSome then
   match P.underlying d with
   |some (.int k)=>K (.int k (k.wrap n)) w
   |_=>gV (tk o.type) λr=>∃w1,(convert s d (.int j n)).run P w=.ok r w1/\K r w1
   else False
  |some v=>gV (tk o.type) λr=>∃w1,(convert s d v).run P w=.ok r w1/\K r w1
  |none=>False
 | .build t ps=>match tk t with
  | .one (.flat _)=>gen P tk o K e w
  |_=>bif known e o.op.operands then
   ∃cs:Array aa,(Instr.build t (ps.map λp=>(p.1,ro e p.2))).run P w=.ok (.agg cs) w/\K (.agg cs) w
   else False
 | .lookup T m i ok=>match ev e m,ev e i with
  |some il,some g=>gV (tk o.type) λr=>∃w1,(Instr.lookup T il g ok).run P w=.ok r w1/\K r w1
  |_,_=>False
 | .mapUpdate T m i x=>match ev e m,ev e i,ev e x with
  |some il,some g,some a=>∃w1,(Instr.mapUpdate T il g a).run P w=.ok () w1/\K undef w1
  |_,_,_=>False
 | .makeMap T r=>bif known e o.op.operands then gV (tk o.type) λv=>∃w1,(Instr.makeMap T (r.map (ro e))).run P w=.ok v w1/\K v w1 else False
 | .range T x=>match ev e x with
  |some a=>∃v w1,(Instr.range T a).run P w=.ok v w1/\K v w1
  |_=>False
 | .next it h=>match ev e it with
  |some a=>(bif h then ∃ (n:Int) (c:Int) (w1:J),(Instr.next a h o.type).run P w=.ok (.tuple #[.bool true,.int .i64 n,.int .i32 c]) w1/\K (.tuple #[.bool true,.int .i64 n,.int .i32 c]) w1
   else ∃ (k:aa) (v:aa) (w1:J),(Instr.next a h o.type).run P w=.ok (.tuple #[.bool true,k,v]) w1/\K (.tuple #[.bool true,k,v]) w1)\/
   (∃w1:J,(Instr.next a h o.type).run P w=.ok (.tuple #[.bool false]) w1/\K (.tuple #[.bool false]) w1)
  |_=>False
 | .call c=>match c.callee with
  | .value (.tmp k)=>match e.get k with
   |some (.func (.func f) pre cap)=>bif known e o.op.operands then
    gW P f/\Calls P f (pre++c.args.map (ro e)++cap) w λC w1=>gV (tk o.type) λv=>C=.returned v/\K v w1
    else False
   |_=>gen P tk o K e w
  | .builtin .append=>bif known e o.op.operands then gV (tk o.type) λr=>∃w1,(Builtin.append_ c.argTypes o.type (c.args.map (ro e))).run P w=.ok r w1/\K r w1 else False
  | .builtin .copy=>bif known e o.op.operands then gV (tk o.type) λr=>∃w1,(Builtin.copy_ c.argTypes o.type (c.args.map (ro e))).run P w=.ok r w1/\K r w1 else False
  | .builtin .min=>bif known e o.op.operands then gV (tk o.type) λr=>∃w1,(Builtin.min_ c.argTypes o.type (c.args.map (ro e))).run P w=.ok r w1/\K r w1 else False
  | .builtin .max=>bif known e o.op.operands then gV (tk o.type) λr=>∃w1,(Builtin.max_ c.argTypes o.type (c.args.map (ro e))).run P w=.ok r w1/\K r w1 else False
  | .builtin .delete=>bif known e o.op.operands then ∃r w1,(Builtin.delete_ c.argTypes o.type (c.args.map (ro e))).run P w=.ok r w1/\K r w1 else False
  | .value (.func f)=>match P.funcs[f]? with
   |some fn=>match fn.body with
    |some _=>gen P tk o K e w
    |none=>bif known e o.op.operands then gV (tk o.type) λr=>∃w1,(callFunc f (c.args.map (ro e))).run P w=.ok (.value r) w1/\K r w1 else False
   |none=>False
  | .builtin .unsafeString=>bif known e o.op.operands then gV (tk o.type) λr=>∃w1,(Builtin.unsafeString_ c.argTypes o.type (c.args.map (ro e))).run P w=.ok r w1/\K r w1 else False
  | .builtin .unsafeSliceData=>bif known e o.op.operands then gV (tk o.type) λr=>∃w1,(Builtin.unsafeSliceData_ c.argTypes o.type (c.args.map (ro e))).run P w=.ok r w1/\K r w1 else False
  | .builtin .clear=>bif known e o.op.operands then ∃r w1,(Builtin.clear_ c.argTypes o.type (c.args.map (ro e))).run P w=.ok r w1/\K r w1 else False
  | .builtin .len=>match ((c.args.map (ro e))[0]? :au aa) with
   |some (Value.map _)=>bif known e o.op.operands then gV (tk o.type) λr=>∃w1,(Builtin.len_ c.argTypes o.type (c.args.map (ro e))).run P w=.ok r w1/\K r w1 else False
   |_=>gen P tk o K e w
  |_=>gen P tk o K e w
 | .sliceToArrayPointer T x=>match ev e x with
  |some a=>sd P T a λv=>K v w
  |_=>False
 | .mapEntry T m i=>match ev e m,ev e i with
  |some il,some g=>∃ (v0:aa) (st:Int) (w1:J),(Instr.mapEntry T il g).run P w=.ok (.tuple #[v0,.int .i64 st]) w1/\K (.tuple #[v0,.int .i64 st]) w1
  |_,_=>False
 | .entryStore T m s x=>match ev e m,ev e s,ev e x with
  |some il,some vs,some a=>∃w1,(Instr.entryStore T il vs a).run P w=.ok () w1/\K undef w1
  |_,_,_=>False
 | .entry it=>match ev e it with
  |some a=>gV (tk o.type) λv=>∃w1,(Instr.entry a).run P w=.ok v w1/\K v w1
  |_=>False
 | .select _ _=>False
 |_=>gen P tk o K e w
def lh(P:Program)(o:Oper)(a:Act)(w:J)(K:aa->J->Prop):Prop:=
 (∃v w',(execOp a.eval o).run P w=.ok (.value v) w'/\K v w')\/
 (∃w',(execOp a.eval o).run P w=.ok .skip w'/\K undef w')\/
 (∃f args w',(execOp a.eval o).run P w=.ok (.enter f args) w'/\Calls P f args w' λb c=>∃v,b=.returned v/\K v c)
theorem lh.wp{P:Program}{o:Oper}{a:Act}{w:J}{K:aa->J->Prop}{next:Act->J->Prop}{Q:Exit->Act->J->Prop}
 (h:lh P o a w K) (c:∀v w',K v w'->next (a.put o.dst v) w'):o.wp P a w next Q:=by
 unfold Oper.wp;rcases h with ⟨v,w',h,b⟩|⟨w',h,b⟩|⟨f,args,w',h,hc⟩
 .rw[h];exact c _ _ b
 .rw[h];exact c _ _ b
 .rw[h]
  exact hc.mono λe g ⟨v,d,b⟩=>by subst d;exact c _ _ b
section
variable {P:Program}{tk:TypeId->dt}{o:Oper}{K:aa->J->Prop}{e:Env}{a:Act}{w:J}
theorem Cp(ar:c6 e a){xs:Array Operand}(h:known e xs=true):∀x∈xs,a.eval x=ro e x:=by
 intro x hx;exact ar.ro (ou.1 h x (by simpa using hx))
theorem jM(ar:c6 e a)(hs:vz o.op=false)(h:known e o.op.operands=true):execOp a.eval o=execOp (ro e) o:=
 execOp_congr o (λcs b hc=>by rw[hc]at hs;cases hs) (Cp ar h)
theorem nh(ar:c6 e a)(hs:vz o.op=false)(h:gen P tk o K e w):lh P o a w K:=by
 unfold gen at h;by_cases c:known e o.op.operands=true
 .rw[c]at h
  simp only[cond_true]at h;have hc:=jM ar hs c;unfold lh;rw[hc];split at h
  .rename_i v w' b
   exact .inl ⟨v,w',b,h⟩
  .rename_i w' b
   exact .inr (.inl ⟨w',b,h⟩)
  .rename_i f args w' b
   refine .inr (.inr ⟨f,args,w',b,h.mono λg i d=>?_⟩);exact g9 d
  .exact h.elim
 .simp only[e9]at c
  rw[c]at h;exact h.elim
theorem vA(ar:c6 e a)(hs:vz o.op=false)(h:qo P o K e w):lh P o a w K:=by
 unfold qo at h;by_cases b:known e o.op.operands=true
 .rw[b]at h
  simp only[cond_true]at h;have hc:=jM ar hs b;unfold lh;rw[hc];split at h
  .rename_i v w' c
   exact .inl ⟨v,w',c,h⟩
  .exact h.elim
 .simp only[e9]at b
  rw[b]at h;exact h.elim
theorem vB:∀ {ls:O c4}{A:ah}{i:Nat}{K:O aa->Prop},vu ls A i w K->∃vs,bV w A i ls.length=some vs/\K vs
 | [],_,_,_,h=>⟨[],rfl,h⟩
 |l::ls,A,i,K,h=>by
  obtain⟨v,a,h⟩:=oD h
  obtain⟨vs,b,h⟩:=vB h
  exact⟨v::vs,by simp[bV,a,b],h⟩
theorem yw{T:TypeId}{A:ah}{K:aa->Prop}(h:oG P tk T A w K):∃v,(Instr.loadAt T (.pointer (some A))).run P w=.ok v w/\K v:=by
 have e:(Instr.loadAt T (.pointer (some A))).run P w=(loadVar T A).run P w:=by simp[Instr.loadAt,Instr.sureAddr]
 rw[e];unfold oG at h;split at h
 .exact h.elim
 .rename_i d b
  cases hd:gG d with
  |true=>
   rw[hd]at h;simp only[cond_true]at h;split at h
   .rename_i ls _
    by_cases a:Nat.beq (P.cellsOf T) ls.length=true
    .rw[a]at h
     simp only[cond_true]at h;obtain⟨vs,c,h⟩:=vB h;rw[←g3 a]at c;exact⟨_,r7 b hd c,h⟩
    .simp only[e9]at a;rw[a]at h;exact h.elim
   .obtain⟨cs,hc,h⟩:=h
    exact⟨_,r7 b hd hc,h⟩
  |false=>
   rw[hd]at h;simp only[cond_false]at h;split at h
   .obtain⟨v,f,h⟩:=oD h
    exact⟨v,yd b hd f,h⟩
   .exact h.elim
theorem vC{v:aa}(h:Plain v):v.cells= #[v]:=by cases v<;>first|rfl|exact h.elim
theorem add_zero'(A:ah):A.add 0=A:=rfl
theorem Cq{T:TypeId}{A:ah}{x:aa}{K:J->Prop}(h:vv P tk T A x w K):
 ∃w',(Instr.storeAt T (.pointer (some A)) x).run P w=.ok () w'/\K w':=by
 have f:(Instr.storeAt T (.pointer (some A)) x).run P w=(storeVar T A x).run P w:=by simp[Instr.storeAt,Instr.sureAddr]
 rw[f];unfold vv at h;split at h
 .exact h.elim
 .rename_i d c
  cases hd:gG d with
  |true=>
   rw[hd]at h;simp only[cond_true]at h;split at h
   .rename_i cs
    exact⟨_,ye (v:=.agg cs) c h.2.1 h.1,h.2.2⟩
   .exact h.elim
  |false=>
   rw[hd]at h;simp only[cond_false]at h;have one:∀ (b:Plain x) (a:Nat.beq (P.cellsOf T) 1=true),((∃u,w.cell? A=some u)/\w.frozen? A=false/\K (w.setCell A x))->∃w',(storeVar T A x).run P w=.ok () w'/\K w':=by
    intro b a ⟨⟨u,hu⟩,hf,g⟩;refine⟨_,ye (v:=x) c ?_ ?_,?_⟩
    .rw[vC b,g3 a];rfl
    .rw[vC b]
     refine⟨λi hi=>?_,λv j=>?_⟩
     .have:i=0:=by simpa using hi
      subst this;rw[add_zero',hu];exact⟨rfl,hf⟩
     .have:v=x:=by simpa using j
      subst this;exact b
    .rw[vC b]
     exact g
   by_cases a:Nat.beq (P.cellsOf T) 1=true
   .have e:=a
    rw[a]at h;simp only[cond_true]at h;split at h
    .exact one h.1 e h.2
    .split at h
     .exact h.elim
     .exact h.elim
     .rename_i k l
      refine one ?_ e h
      cases x<;>first|exact trivial|(exact absurd rfl (k _))|(exact absurd rfl (l _))
   .simp only[e9]at a;rw[a]at h;exact h.elim
theorem si(ar:c6 e a)(h:iM P tk o K e w):lh P o a w K:=by
 unfold iM at h;split at h
 case h_1 x j=>
  split at h
  .rename_i p hx
   obtain⟨A,rfl,g⟩:=h;exact .inl ⟨_,_,by simp[execOp,j,ar.ev hx],g⟩
  .exact h.elim
 case h_2 T x j=>
  split at h
  .rename_i A hx
   obtain⟨v,B,g⟩:=yw h;exact .inl ⟨v,w,by simp[execOp,j,ar.ev hx,B],g⟩
  .exact h.elim
 case h_3 T x y j=>
  split at h
  .rename_i A v hx H
   obtain⟨w',S,g⟩:=Cq h;exact .inr (.inl ⟨w',by simp[execOp,j,ar.ev hx,ar.ev H,S],g⟩)
  .exact h.elim
 case h_4 op T x y ac j=>
  split at h
  .rename_i D Q hx H
   by_cases N:yv P T y=true
   .rw[N]at h
    simp only[cond_true]at h;obtain⟨b,z,g⟩:=h;exact .inl ⟨_,w,by
     simp only[execOp,j,ar.ev hx,ar.ev H];have G:=z w;simp only[Sem.run_bind]at G⊢;rw[G];rfl,g⟩
   simp only[e9]at N;rw[N]at h;simp only[cond_false]at h;by_cases I:oK y Q=true
   .rw[I]at h
    simp only[cond_true]at h;have U:Q=.nilIface->∃c,y=.const c:=by
     intro B;subst B
     cases y<;>simp[oK]at I⊢
    rcases yj (hT:=x) (oJ:=y) U h with hg|⟨v,B,g⟩
    .exact nh ar (by rw[j];rfl) hg
    .exact .inl ⟨v,w,by
      simp only[execOp,j,ar.ev hx,ar.ev H];have G:=B w;simp only[Sem.run_bind]at G⊢;rw[G];rfl,g⟩
   .simp only[e9]at I;rw[I]at h;exact h.elim
  .exact h.elim
 case h_5 T x i j=>
  split at h
  .rename_i D L hx hi
   obtain⟨v,B,g⟩:=yl h;exact .inl ⟨v,w,by simp[execOp,j,ar.ev hx,ar.ev hi,B],g⟩
  .exact h.elim
 case h_6 T x i j=>
  split at h
  .rename_i D L hx hi
   obtain⟨v,B,g⟩:=yn h;exact .inl ⟨v,w,by simp[execOp,j,ar.ev hx,ar.ev hi,B],g⟩
  .exact h.elim
 case h_7 T x i j=>
  split at h
  .rename_i D hx
   obtain⟨v,B,g⟩:=yo h;exact .inl ⟨v,w,by simp[execOp,j,ar.ev hx,B],g⟩
  .exact h.elim
 case h_8 T j=>exact vA ar (by rw[j];rfl) h
 case h_9 T x j=>exact vA ar (by rw[j];rfl) h
 case h_10 T n ps j=>
  cases R:yt (yr P tk T) with
  |true=>
   rw[R]at h;simp only[cond_true]at h;by_cases u:known e o.op.operands=true
   .rw[u]at h
    simp only[cond_true]at h;have hc:=jM ar (by rw[j];rfl) u;obtain⟨r,w1,q,g⟩:=g9 h;exact .inl ⟨r,w1,by rw[hc];simp[execOp,j];rw[q];rfl,g⟩
   .simp only[e9]at u;rw[u]at h;exact h.elim
  |false=>
   rw[R]at h;exact vA ar (by rw[j];rfl) h
 case h_11 T x lo hi ad j=>
  by_cases u:known e o.op.operands=true
  .rw[u]at h
   simp only[cond_true]at h;have hc:=jM ar (by rw[j];rfl) u;obtain⟨v,B,g⟩:=yp h;exact .inl ⟨v,w,by rw[hc];simp[execOp,j,B],g⟩
  .simp only[e9]at u;rw[u]at h;exact h.elim
 case h_12 T l c j=>
  split at h
  .rename_i ae af V hc
   obtain⟨v,w',B,g⟩:=Cm h;exact .inl ⟨v,w',by simp[execOp,j,ar.ev V,ar.ev hc,B],g⟩
  .exact h.elim
 case h_13 s d x j=>
  split at h
  .rename_i k n hx
   by_cases hs:(P.underlying s).isSome=true
   .rw[hs]at h
    simp only[cond_true]at h;obtain⟨ds,W⟩:=jl _ hs;split at h
    .rename_i ag hd
     exact .inl ⟨_,_,by simp[execOp,j,ar.ev hx,convert,cP W,cP hd,Conv.intToInt],h⟩
    .obtain⟨r,w1,q,g⟩:=g9 h
     exact .inl ⟨r,w1,by simp[execOp,j,ar.ev hx,q],g⟩
   .simp only[e9]at hs;rw[hs]at h;exact h.elim
  .rename_i v _ hx
   obtain⟨r,w1,q,g⟩:=g9 h;exact .inl ⟨r,w1,by simp[execOp,j,ar.ev hx,q],g⟩
  .exact h.elim
 case h_14 t ps j=>
  split at h
  .exact nh ar (by rw[j];rfl) h
  .by_cases u:known e o.op.operands=true
   .rw[u]at h
    simp only[cond_true]at h;have hc:=jM ar (by rw[j];rfl) u;obtain⟨cs,q,g⟩:=h;exact .inl ⟨_,_,by rw[hc];simp[execOp,j];rw[q];rfl,g⟩
   .simp only[e9]at u;rw[u]at h;exact h.elim
 case h_15 T m i ok j=>
  split at h
  .rename_i il L F hi
   obtain⟨r,w1,q,g⟩:=g9 h;exact .inl ⟨r,w1,by simp[execOp,j,ar.ev F,ar.ev hi,q],g⟩
  .exact h.elim
 case h_16 T m i x j=>
  split at h
  .rename_i il L D F hi hx
   obtain⟨w1,q,g⟩:=h;exact .inr (.inl ⟨w1,by simp[execOp,j,ar.ev F,ar.ev hi,ar.ev hx,q],g⟩)
  .exact h.elim
 case h_17 T r j=>
  by_cases u:known e o.op.operands=true
  .rw[u]at h
   simp only[cond_true]at h;have hc:=jM ar (by rw[j];rfl) u;obtain⟨v,w1,q,g⟩:=g9 h;exact .inl ⟨v,w1,by rw[hc];simp[execOp,j,q],g⟩
  .simp only[e9]at u;rw[u]at h;exact h.elim
 case h_18 T x j=>
  split at h
  .rename_i D hx
   obtain⟨v,w1,q,g⟩:=h;exact .inl ⟨v,w1,by simp[execOp,j,ar.ev hx,q],g⟩
  .exact h.elim
 case h_19 it Y j=>
  split at h
  .rename_i D hx
   rcases h with h|⟨w1,q,g⟩
   .cases Y with
    |true=>
     obtain⟨n,c,w1,q,g⟩:=h;exact .inl ⟨_,w1,by simp[execOp,j,ar.ev hx,q],g⟩
    |false=>
     obtain⟨k,v,w1,q,g⟩:=h;exact .inl ⟨_,w1,by simp[execOp,j,ar.ev hx,q],g⟩
   .exact .inl ⟨_,w1,by simp[execOp,j,ar.ev hx,q],g⟩
  .exact h.elim
 case h_20 c j=>
  have E:∀ (b:Builtin) (r:aa) (w1:J),c.callee=.builtin b->known e o.op.operands=true->
   (∀cs,(Go.builtin b c.argTypes o.type cs (c.args.map (ro e))).run P w=.ok (.value r) w1)->K r w1->lh P o a w K:=by
   intro b r w1 z u q g;have hc:=jM ar (by rw[j];rfl) u;exact .inl ⟨r,w1,by rw[hc];simp[execOp,j,resolve,z,invoke,q],g⟩
  have C:∀ {X:Prop},(bif known e o.op.operands then X else False)->known e o.op.operands=true/\X:=by
   intro X M;by_cases u:known e o.op.operands=true
   .rw[u]at M;exact⟨u,M⟩
   .simp only[e9]at u;rw[u]at M;exact M.elim
  split at h
  .rename_i k z
   split at h
   .rename_i f pre cap hg
    obtain⟨u,Z,h⟩:=C h;have hc:=jM ar (by rw[j];rfl) u;refine .inr (.inr ⟨f,pre++c.args.map (ro e)++cap,w,?_,h.mono λah w1 ab=>?_⟩)
    .have O:ro e (.tmp k)=.func (.func f) pre cap:=by simp[ro,ev,hg]
     rw[hc];simp[execOp,j,resolve,z,O,Deferred.ofValue,invoke,yu Z]
    .obtain⟨v,B,g⟩:=g9 ab
     exact⟨v,B,g⟩
   .exact nh ar (by rw[j];rfl) h
  .rename_i z
   obtain⟨u,h⟩:=C h;obtain⟨r,w1,q,g⟩:=g9 h;exact E _ r w1 z u (λ_=>by simp[Go.builtin,q]) g
  .rename_i z
   obtain⟨u,h⟩:=C h;obtain⟨r,w1,q,g⟩:=g9 h;exact E _ r w1 z u (λ_=>by simp[Go.builtin,q]) g
  .rename_i z
   obtain⟨u,h⟩:=C h;obtain⟨r,w1,q,g⟩:=g9 h;exact E _ r w1 z u (λ_=>by simp[Go.builtin,q]) g
  .rename_i z
   obtain⟨u,h⟩:=C h;obtain⟨r,w1,q,g⟩:=g9 h;exact E _ r w1 z u (λ_=>by simp[Go.builtin,q]) g
  .rename_i z
   obtain⟨u,r,w1,q,g⟩:=C h;exact E _ r w1 z u (λ_=>by simp[Go.builtin,q]) g
  .rename_i f z
   split at h
   .rename_i fn ai
    split at h
    .exact nh ar (by rw[j];rfl) h
    .obtain⟨u,h⟩:=C h
     obtain⟨r,w1,q,g⟩:=g9 h;have hc:=jM ar (by rw[j];rfl) u;refine .inl ⟨r,w1,?_,g⟩;rw[hc];have O:ro e (.func f)=.func (.func f) #[] #[]:=by simp[ro,ev]
     simp[execOp,j,resolve,z,O,Deferred.ofValue,invoke,q]
   .exact h.elim
  .rename_i z
   obtain⟨u,h⟩:=C h;obtain⟨r,w1,q,g⟩:=g9 h;exact E _ r w1 z u (λ_=>by simp[Go.builtin,q]) g
  .rename_i z
   obtain⟨u,h⟩:=C h;obtain⟨r,w1,q,g⟩:=g9 h;exact E _ r w1 z u (λ_=>by simp[Go.builtin,q]) g
  .rename_i z
   obtain⟨u,r,w1,q,g⟩:=C h;exact E _ r w1 z u (λ_=>by simp[Go.builtin,q]) g
  .rename_i z
   split at h
   .obtain⟨u,h⟩:=C h
    obtain⟨r,w1,q,g⟩:=g9 h;exact E _ r w1 z u (λ_=>by simp[Go.builtin,q]) g
   .exact nh ar (by rw[j];rfl) h
  .exact nh ar (by rw[j];rfl) h
 case h_21 T x j=>
  split at h
  .rename_i D hx
   obtain⟨v,B,g⟩:=yk h;exact .inl ⟨v,w,by simp[execOp,j,ar.ev hx,B],g⟩
  .exact h.elim
 case h_22 T m i j=>
  split at h
  .rename_i il L F hi
   obtain⟨v0,st,w1,q,g⟩:=h;exact .inl ⟨_,w1,by simp[execOp,j,ar.ev F,ar.ev hi,q],g⟩
  .exact h.elim
 case h_23 T m s x j=>
  split at h
  .rename_i il vs D F hs hx
   obtain⟨w1,q,g⟩:=h;exact .inr (.inl ⟨w1,by simp[execOp,j,ar.ev F,ar.ev hs,ar.ev hx,q],g⟩)
  .exact h.elim
 case h_24 it j=>
  split at h
  .rename_i D hx
   obtain⟨v,w1,q,g⟩:=g9 h;exact .inl ⟨v,w1,by simp[execOp,j,ar.ev hx,q],g⟩
  .exact h.elim
 case h_25=>exact h.elim
 case h_26=>
  refine nh ar ?_ h
  cases j:o.op<;>first|rfl|simp_all
end
end aP
namespace aP
open Go
inductive jN where
 |run
 |split (n:Nat)
 |pure (n:Nat)
 |sj (ks:O Kd)
def eI(P:Program)(o:Oper)(e:Env):au aa:=
 match o.op with
 | .move x=>ev e x
 | .assign x=>ev e x
 | .unOp .not _ x=>match ev e x with
  |some (.bool b)=>some (.bool (!b))
  |_=>none
 | .binOp op T x y _=>match ev e y with
  |some (.int f b)=>match ev e x with
   |some (.int k a)=>bif jk k f then
    match op with
    | .add=>some (.int k (k.wrap (a+b)))
    | .sub=>some (.int k (k.wrap (a-b)))
    | .mul=>some (.int k (k.wrap (a*b)))
    | .quo=>match b with
     | .ofNat (.succ m)=>some (.int k (k.wrap (a.tdiv (.ofNat (.succ m)))))
     |_=>none
    | .rem=>match b with
     | .ofNat (.succ m)=>some (.int k (a.tmod (.ofNat (.succ m))))
     |_=>none
    | .and=>some (.int k (k.wrap (BitVec.ofInt k.bits a&&&BitVec.ofInt k.bits b).toNat))
    | .or=>some (.int k (k.wrap (BitVec.ofInt k.bits a|||BitVec.ofInt k.bits b).toNat))
    | .xor=>some (.int k (k.wrap (BitVec.ofInt k.bits a^^^BitVec.ofInt k.bits b).toNat))
    | .eql=>some (.bool (a==b))
    | .neq=>some (.bool (a !=b))
    | .lss=>some (.bool (a<b))
    | .leq=>some (.bool (a<=b))
    | .gtr=>some (.bool (a>b))
    | .geq=>some (.bool (a>=b))
    |_=>none
    else none
   |_=>none
  |some (.bool b)=>match ev e x with
   |some (.bool a)=>match P.underlying T with
    |some .bool=>match op with
     | .eql=>some (.bool (a==b))
     | .neq=>some (.bool (!(a==b)))
     |_=>none
    |_=>none
   |_=>none
  |some (.string b)=>match ev e x with
   |some (.string a)=>match op with
    | .eql=>some (.bool (a.toList==b.toList))
    | .neq=>some (.bool (!(a.toList==b.toList)))
    |_=>none
   |_=>none
  |some (.pointer none)=>match ev e x with
   |some (.pointer p)=>bif lg (P.underlying T) then match op with
    | .eql=>some (.bool p.isNone)
    | .neq=>some (.bool (!p.isNone))
    |_=>none
    else none
   |_=>none
  |some (.slice none _ _)=>match ev e x with
   |some (.slice p _ _)=>bif l9 (P.underlying T) then match op with
    | .eql=>some (.bool p.isNone)
    | .neq=>some (.bool (!p.isNone))
    |_=>none
    else none
   |_=>none
  |_=>none
 | .convert s d x=>match ev e x with
  |some (.int _ n)=>match P.underlying d with
   |some (.int k)=>bif (P.underlying s).isSome then some (.int k (k.wrap n)) else none
   |_=>none
  |_=>none
 | .call {callee:=.builtin .len,args:=args,argTypes:=fN}=>match args[0]?,fN[0]? with
  |some x,some T=>match ev e x,P.underlying T with
   |some (.slice _ n _),some (.slice _)=>some (.int .i64 n)
   |some (.string s),some .string=>some (.int .i64 s.size)
   |_,_=>none
  |_,_=>none
 | .call {callee:=.builtin .cap,args:=args,argTypes:=fN}=>match args[0]?,fN[0]? with
  |some x,some T=>match ev e x,P.underlying T with
   |some (.slice _ _ c),some (.slice _)=>some (.int .i64 c)
   |_,_=>none
  |_,_=>none
 |_=>none
def qp(ops:Array Oper)(e:Env)(j:Nat):au aa:=((ops[j]?).bind (·.dst)).bind e.get
def Cr(ops:Array Oper)(j:Nat):au Nat:=(ops[j]?).bind (·.dst)
def H7(o:Oper)(e:Env)(K:al->Prop):Prop:=
 match o.guard with
 |none=>match o.op with
  | .pick x y z=>match ev e x with
   |some (.bool b)=>match ev e (bif b then y else z) with
    |some (.bool r)=>K r
    |_=>False
   |_=>False
  |_=>False
 |some _=>False
def gl(ops:Array Oper)(o:Oper)(e:Env)(run skip:Prop):Prop:=
 match o.guard with
 |none=>run
 |some (j,want)=>match qp ops e j with
  |none=>False
  |some (.bool b)=>bif Bool.xor b want then skip else run
  |some _=>skip
def kK{α:Type}(ops:Array Oper)(o:Oper)(e:Env)(run skip:au α):au α:=
 match o.guard with
 |none=>run
 |some (j,want)=>match qp ops e j with
  |none=>none
  |some (.bool b)=>bif Bool.xor b want then skip else run
  |some _=>skip
def ki(o:Oper)(e:Env):au al:=
 match o.op with
 | .pick x y z=>match ev e x with
  |some (.bool b)=>match ev e (bif b then y else z) with
   |some (.bool r)=>some r
   |_=>none
  |_=>none
 |_=>none
def qq(ops:Array Oper)(o:Oper)(e:Env):au (Nat×al):=
 match o.guard with
 |none=>none
 |some (j,_)=>match Cr ops j with
  |none=>none
  |some s=>match e.get s with
   |some (.bool c)=>some (s,c)
   |_=>none
def lj(ops:Array Oper)(o:Oper)(e:Env):al:=
 match o.guard with
 |none=>true
 |some (j,want)=>match qp ops e j with
  |some (.bool b)=> !(Bool.xor b want)
  |_=>false
def mb(e:Env)(ds:O Nat):al:=e.all λp=> !(ds.any λd=>Nat.beq d p.1)
def bA(l:O Oper):O Nat:=l.filterMap (·.dst)
def hU(P:Program)(ops:Array Oper):Nat->O Oper->O jN->Env->au Env
 |0,_,_,_=>none
 |_+1,[],_,e=>some e
 |n+1,o::rest,.pure m::as,e=>
  match qq ops o e,rest.drop (m-1) with
  |none,_=>
   match kK ops o e none (some undef) with
   |some v=>hU P ops n rest as (cW o.dst v e)
   |none=>none
  |some (s,c),a::b=>
   match hU P ops n (o::rest.take (m-1)) (.run::as.take (m-1)) ((s,.bool true)::e),hU P ops n (o::rest.take (m-1)) (.run::as.take (m-1)) ((s,.bool false)::e) with
   |some d,some f=>
    match ki a d,ki a f with
    |some r1,some aD=>bif lj ops a e&&mb e (bA (o::rest.take (m-1))) then hU P ops n b (as.drop m) (cW a.dst (.bool (cond c r1 aD)) e) else none
    |_,_=>none
   |_,_=>none
  |_,_=>none
 |n+1,o::rest,_::as,e=>
  match kK ops o e (eI P o e) (some undef) with
  |some v=>hU P ops n rest as (cW o.dst v e)
  |none=>none
 |n+1,o::rest,[],e=>
  match kK ops o e (eI P o e) (some undef) with
  |some v=>hU P ops n rest [] (cW o.dst v e)
  |none=>none
inductive bX {α:Type} (B:α->Prop) (k:α):Prop where
 |mk (h:B k)
theorem bX.out{α:Type}{B:α->Prop}{k:α}(h:bX B k):B k:=by cases h with|mk h=>exact h
def sk(P:Program)(ks:O Kd)(o:Oper)(K:aa->J->Prop)(e:Env)(w:J):Prop:=
 match o.op with
 | .entry it=>match ev e it with
  |some a=>r6 ks λvs=>∃w1,(Instr.entry a).run P w=.ok (.tuple vs.toArray) w1/\K (.tuple vs.toArray) w1
  |_=>False
 |_=>False
theorem Cs{P:Program}{ks:O Kd}{o:Oper}{K:aa->J->Prop}{e:Env}{w:J}{a:Act}(ar:c6 e a)(h:sk P ks o K e w):lh P o a w K:=by
 unfold sk at h;split at h
 .rename_i it b
  split at h
  .rename_i f hx
   obtain⟨v,w1,c,d⟩:=vr h;exact .inl ⟨_,w1,by simp[execOp,b,ar.ev hx,c],d⟩
  .exact h.elim
 .exact h.elim
def fw(P:Program)(tk:TypeId->dt)(ops:Array Oper):Nat->O Oper->O jN->(Env->J->Prop)->Env->J->Prop
 |0,_,_,_,_,_=>False
 |_+1,[],_,K,e,w=>K e w
 |n+1,o::rest,.sj ks::as,K,e,w=>
  gl ops o e (sk P ks o (λv w'=>fw P tk ops n rest as K (cW o.dst v e) w') e w) (fw P tk ops n rest as K (cW o.dst undef e) w)
 |n+1,o::rest,.pure m::as,K,e,w=>
  match qq ops o e,rest.drop (m-1) with
  |none,_=>gl ops o e False (fw P tk ops n rest as K (cW o.dst undef e) w)
  |some (s,c),a::b=>
   match hU P ops n (o::rest.take (m-1)) (.run::as.take (m-1)) ((s,.bool true)::e),hU P ops n (o::rest.take (m-1)) (.run::as.take (m-1)) ((s,.bool false)::e) with
   |some f,some g=>
    match ki a f,ki a g with
    |some r1,some aD=>bif lj ops a e&&mb e (bA (o::rest.take (m-1))) then fw P tk ops n b (as.drop m) K (cW a.dst (.bool (cond c r1 aD)) e) w else False
    |_,_=>False
   |_,_=>False
  |_,_=>False
 |n+1,o::rest,.split m::as,K,e,w=>
  match qq ops o e,rest.drop (m-1) with
  |none,_=>gl ops o e False (fw P tk ops n rest as K (cW o.dst undef e) w)
  |some (s,c),a::b=>
   bif lj ops a e&&mb e (bA (o::rest.take (m-1))) then
    bX (λk:al->J->Prop=>
     (c=true->fw P tk ops n (o::rest.take (m-1)) (.run::as.take (m-1)) (λd w'=>match ki a d with|some r=>k r w'|none=>False) ((s,.bool true)::e) w)/\
     (c=false->fw P tk ops n (o::rest.take (m-1)) (.run::as.take (m-1)) (λd w'=>match ki a d with|some r=>k r w'|none=>False) ((s,.bool false)::e) w))
     (λr w'=>fw P tk ops n b (as.drop m) K (cW a.dst (.bool r) e) w')
   else False
  |_,_=>False
 |n+1,o::rest,_::as,K,e,w=>
  gl ops o e (iM P tk o (λv w'=>fw P tk ops n rest as K (cW o.dst v e) w') e w) (fw P tk ops n rest as K (cW o.dst undef e) w)
 |n+1,o::rest,[],K,e,w=>
  gl ops o e (iM P tk o (λv w'=>fw P tk ops n rest [] K (cW o.dst v e) w') e w) (fw P tk ops n rest [] K (cW o.dst undef e) w)
structure dC(ds:O Nat)(a b:Act):Prop where
 defers:b.defers=a.defers
 size:b.tmps.size=a.tmps.size
 same:∀s,s∉ds->b.tmps[s]? =a.tmps[s]?
theorem dC.refl(ds:O Nat)(a:Act):dC ds a a:=⟨rfl,rfl,λ_ _=>rfl⟩
theorem dC.trans{ds:O Nat}{a b c:Act}(h:dC ds a b)(k:dC ds b c):dC ds a c:=
 ⟨k.defers.trans h.defers,k.size.trans h.size,λs hs=>(k.same s hs).trans (h.same s hs)⟩
theorem dC.mono{ds es:O Nat}{a b:Act}(h:dC ds a b)(hs:∀s,s∈ds->s∈es):dC es a b:=
 ⟨h.defers,h.size,λs c=>h.same s λd=>c (hs s d)⟩
theorem dC.put{a:Act}{d:au Nat}{v:aa}{ds:O Nat}(hd:∀k,d=some k->k∈ds):dC ds a (a.put d v):=by
 cases d with
 |none=>exact .refl _ _
 |some d=>exact⟨rfl,by simp[Act.put],λs hs=>by
  have:d≠s:=λh=>hs (h▸hd d rfl);simp[Act.put,Array.getElem?_setIfInBounds_ne this]⟩
def fY(a:Act)(ds:O Nat)(K:Env->J->Prop)(x:Exit)(b:Act)(w':J):Prop:=
 x=.normal/\dC ds a b/\∃c,c6 c b/\K c w'
theorem hV{P:Program}{ops:Array Oper}{Q Q':Exit->Act->J->Prop}(b:∀x a w,Q x a w->Q' x a w):
 ∀ (l:O Oper) (a:Act) (w:J),wpList P ops Q l a w->wpList P ops Q' l a w
 | [],_,_,h=>b _ _ _ h
 |o::l,a,w,h=>by
  simp only[wpList]at h⊢
  split
  .rename_i d
   rw[if_pos d]at h
   refine h.imp (λh=>?_) (λ⟨i,f,w',g⟩=>⟨i,f,w',b _ _ _ g⟩)
   have:=Oper.wp_mono (Q:=Q) (λa w=>hV b l a w) h
   unfold Oper.wp at this⊢
   revert this
   generalize (execOp a.eval o).run P w=r
   intro this
   cases r with
   |ok aY w'=>
    cases aY<;>simp only[Oper.upon]at this⊢<;>first
     |exact this
     |(exact Calls.mono this λe j he=>by
        cases e with
        |returned v=>exact he
        |panicked c=>exact b _ _ _ he
        |outgrown=>exact let ⟨f,w',g⟩:=he;⟨f,w',b _ _ _ g⟩)
   |halt x w'=>cases x<;>simp only[Oper.upon]at this⊢<;>first|exact b _ _ _ this|exact this
  .rename_i d
   rw[if_neg d]at h
   exact hV b l _ _ h
theorem qs{P:Program}{ops:Array Oper}{Q:Exit->Act->J->Prop}(b:O Oper):
 ∀ (g:O Oper) (a:Act) (w:J),wpList P ops (λx a w=>x=.normal/\wpList P ops Q b a w) g a w->wpList P ops Q (g++b) a w
 | [],_,_,h=>h.2
 |o::l,a,w,h=>by
  simp only[lW,wpList]at h⊢
  split
  .rename_i d
   rw[if_pos d]at h
   rcases h with h|⟨_,i,w',f,_⟩
   .left
    have:=Oper.wp_mono (λa w=>qs b l a w) h
    unfold Oper.wp at this⊢
    revert this
    generalize (execOp a.eval o).run P w=r
    intro this
    cases r with
    |ok aY w'=>
     cases aY<;>simp only[Oper.upon]at this⊢<;>first
      |exact this
      |(exact Calls.mono this λe j he=>by
         cases e with
         |returned v=>exact he
         |panicked c=>cases he.1
         |outgrown=>exact let ⟨i,w',f⟩:=he;by cases f.1)
    |halt x w'=>cases x<;>simp only[Oper.upon]at this⊢<;>first|(cases this.1;done)|exact this
   .cases f
  .rename_i d
   rw[if_neg d]at h
   exact qs b l _ _ h
section
variable {P:Program}{tk:TypeId->dt}{ops:Array Oper}
def lk:aa->au al
 | .bool b=>some b
 |_=>none
theorem qt{e:Env}{a:Act}(ar:c6 e a){j:Nat}{v:aa}(h:qp ops e j=some v):
 yielded ops a.tmps j=lk v:=by
 unfold qp at h;unfold yielded
 cases hd:(ops[j]?).bind (·.dst) with
 |none=>rw[hd]at h;simp at h
 |some s=>
  rw[hd]at h;simp only[Option.bind_some]at h⊢;rw[ar.get _ _ h]
  cases v<;>rfl
theorem qu{o:Oper}{e:Env}{a:Act}(ar:c6 e a){R S:Prop}(h:gl ops o e R S):
 (Region.wanted o (yielded ops a.tmps)=true/\R)\/(Region.wanted o (yielded ops a.tmps)=false/\S):=by
 unfold gl at h;unfold Region.wanted;split at h
 .rename_i hg;rw[hg];exact .inl ⟨rfl,h⟩
 .rename_i j want hg
  rw[hg];simp only;split at h
  .exact h.elim
  .rename_i b c
   rw[qt ar c]
   cases b<;>cases want<;>first|exact .inl ⟨rfl,h⟩|exact .inr ⟨rfl,h⟩
  .rename_i v d c
   rw[qt ar c]
   cases v<;>first|exact absurd rfl (d _)|exact .inr ⟨by cases want<;>rfl,h⟩
theorem yx{o:Oper}{e:Env}{R a S:Prop}(h:gl ops o e R S)(c:R->a):gl ops o e a S:=by
 unfold gl at h⊢;split at h
 .exact c h
 .rename_i j want hg
  split at h
  .exact h
  .rename_i b f
   cases d:Bool.xor b want<;>rw[d]at h<;>first|exact c h|exact h
  .exact h
theorem Ct{α:Type}{o:Oper}{e:Env}{R S:au α}{r:α}(h:kK ops o e none S=some r):kK ops o e R S=some r:=by
 unfold kK at h⊢;split at h
 .cases h
 .rename_i j want hg
  split at h
  .exact h
  .rename_i b c
   cases a:Bool.xor b want with
   |true=>rw[a]at h;exact h
   |false=>rw[a]at h;cases h
  .exact h
theorem Cu{α:Type}{o:Oper}{e:Env}{a:Act}(ar:c6 e a){R S:au α}{r:α}(h:kK ops o e R S=some r):
 (Region.wanted o (yielded ops a.tmps)=true/\R=some r)\/(Region.wanted o (yielded ops a.tmps)=false/\S=some r):=by
 unfold kK at h;unfold Region.wanted;split at h
 .rename_i hg;rw[hg];exact .inl ⟨rfl,h⟩
 .rename_i j want hg
  rw[hg];simp only;split at h
  .cases h
  .rename_i b c
   rw[qt ar c]
   cases b<;>cases want<;>first|exact .inl ⟨rfl,h⟩|exact .inr ⟨rfl,h⟩
  .rename_i v d c
   rw[qt ar c]
   cases v<;>first|exact absurd rfl (d _)|exact .inr ⟨by cases want<;>rfl,h⟩
theorem yy{o:Oper}{e:Env}{a:Act}(ar:c6 e a){v:aa}(h:eI P o e=some v)(w:J):(execOp a.eval o).run P w=.ok (.value v) w:=by
 unfold eI at h;split at h
 .rename_i x f
  simp[execOp,f,ar.ev h]
 .rename_i x f
  simp[execOp,f,ar.ev h]
 .rename_i t x f
  split at h
  .rename_i b hx
   cases h;simp[execOp,f,ar.ev hx,Op.unary]
  .cases h
 .rename_i op T x y D f
  split at h
  .rename_i u b i
   split at h
   .rename_i k c hx
    by_cases z:k=u
    .subst z
     simp only[jk,decide_true,cond_true]at h;split at h
     case h_4=>
      split at h
      .cases h
       simp[execOp,f,ar.ev hx,ar.ev i,eqGuard,binOp,Op.intDiv];intro r;exfalso;revert r;simp;omega
      .cases h
     case h_5=>
      split at h
      .cases h
       simp[execOp,f,ar.ev hx,ar.ev i,eqGuard,binOp,Op.intDiv];intro r;exfalso;revert r;simp;omega
      .cases h
     all_goals first
      |(cases h;simp[execOp,f,ar.ev hx,ar.ev i,eqGuard,binOp,Op.intArith,Op.intBits,Op.intCmp];done)
      |cases h
    .simp[jk,z]at h
   .cases h
  .rename_i b i
   split at h
   .rename_i c hx
    split at h
    .rename_i g
     have j:∀ (d:Nat) (w:J),(Op.equalIn (d+1) T (.bool c) (.bool b)).run P w=.ok (c==b) w:=by
      intro d w;simp[Op.equalIn,cP g]
     have A:∀w:J,(Op.equal T (.bool c) (.bool b)).run P w=.ok (c==b) w:=λw=>by rw[oI];exact j _ w
     split at h
     .cases h
      simp[execOp,f,ar.ev hx,ar.ev i,eqGuard,binOp,A]
     .cases h
      simp[execOp,f,ar.ev hx,ar.ev i,eqGuard,binOp,A]
     .cases h
    .cases h
   .cases h
  .rename_i b i
   split at h
   .rename_i c hx
    split at h
    .cases h
     have j:(binOp .eql T (.string c) (.string b)).run P w=.ok (.bool (c.toList==b.toList)) w:=rfl;simp only[execOp,f,ar.ev hx,ar.ev i];simp[eqGuard,j]
    .cases h
     have j:(binOp .neq T (.string c) (.string b)).run P w=.ok (.bool (!(c.toList==b.toList))) w:=rfl;simp only[execOp,f,ar.ev hx,ar.ev i];simp[eqGuard,j]
    .cases h
   .cases h
  .rename_i i
   split at h
   .rename_i p hx
    by_cases g:lg (P.underlying T)=true
    .rw[g]at h
     simp only[cond_true]at h;split at h
     .cases h;simp[execOp,f,ar.ev hx,ar.ev i,eqGuard,binOp,r9 (P:=P) g]
     .cases h;simp[execOp,f,ar.ev hx,ar.ev i,eqGuard,binOp,r9 (P:=P) g]
     .cases h
    .simp only[e9]at g;rw[g]at h;cases h
   .cases h
  .rename_i l c i
   split at h
   .rename_i p _ _ hx
    by_cases g:l9 (P.underlying T)=true
    .rw[g]at h
     simp only[cond_true]at h;split at h
     .cases h;simp[execOp,f,ar.ev hx,ar.ev i,eqGuard,binOp,r_ (P:=P) g]
     .cases h;simp[execOp,f,ar.ev hx,ar.ev i,eqGuard,binOp,r_ (P:=P) g]
     .cases h
    .simp only[e9]at g;rw[g]at h;cases h
   .cases h
  .cases h
 .rename_i s d x f
  split at h
  .rename_i k n hx
   split at h
   .rename_i u hd
    by_cases hs:(P.underlying s).isSome=true
    .rw[hs]at h
     cases h;obtain⟨ds,B⟩:=jl _ hs;simp[execOp,f,ar.ev hx,convert,cP B,cP hd,Conv.intToInt]
    .simp only[e9]at hs;rw[hs]at h;cases h
   .cases h
  .cases h
 .rename_i args fN f
  split at h
  .rename_i x T m q
   split at h
   .rename_i p n c C hx g
    cases h;simp[execOp,f,resolve,invoke,Go.builtin,Builtin.len_,q,m,cP g,ar.ev hx,goInt]
   .rename_i s hx g
    cases h;simp[execOp,f,resolve,invoke,Go.builtin,Builtin.len_,q,m,cP g,ar.ev hx,goInt]
   .cases h
  .cases h
 .rename_i args fN f
  split at h
  .rename_i x T m q
   split at h
   .rename_i p n c C hx g
    cases h;simp[execOp,f,resolve,invoke,Go.builtin,Builtin.cap_,q,m,cP g,ar.ev hx,goInt]
   .cases h
  .cases h
 .cases h
theorem vD{e:Env}{ds:O Nat}{a b:Act}(ar:c6 e a)(hd:mb e ds=true)(f:dC ds a b):c6 e b:=by
 constructor;intro s v hs;have g:∃u,(s,u)∈e:=by
  clear hd ar
  induction e with
  |nil=>cases hs
  |cons p e h=>
   obtain⟨k,u⟩:=p;rw[nc]at hs;by_cases c:k=s
   .subst c;exact⟨u,by simp⟩
   .rw[if_neg c]at hs
    obtain⟨u,hu⟩:=h hs;exact⟨u,by simp[hu]⟩
 obtain⟨u,hu⟩:=g;have d:=ou.1 hd _ hu;simp only[ib,p9]at d;rw[f.same s λi=>d s i (Nat.beq_refl s)];exact ar.get s v hs
theorem vE{d:Oper}{e:Env}{a:Act}(ar:c6 e a){r:al}(h:ki d e=some r)(w:J):
 (execOp a.eval d).run P w=.ok (.value (.bool r)) w:=by
 unfold ki at h;split at h
 .rename_i x y z f
  split at h
  .rename_i b g
   split at h
   .rename_i i c
    cases h;simp only[execOp,f,ar.ev g]
    cases b
    .simp only[cond_false]at c
     simp[asBool,ar.ev c]
    .simp only[cond_true]at c
     simp[asBool,ar.ev c]
   .cases h
  .cases h
 .cases h
theorem vF{c:Oper}{e:Env}{a:Act}(ar:c6 e a)(h:lj ops c e=true):Region.wanted c (yielded ops a.tmps)=true:=by
 unfold lj at h;unfold Region.wanted;split at h
 .rename_i hg;rw[hg]
 .rename_i j want hg
  rw[hg];simp only;split at h
  .rename_i b d
   rw[qt ar d]
   cases b<;>cases want<;>first|rfl|cases h
  .cases h
theorem vG{o:Oper}{e:Env}{s:Nat}{c:al}(h:qq ops o e=some (s,c)):e.get s=some (.bool c):=by
 unfold qq at h;split at h
 .cases h
 .split at h
  .cases h
  .split at h
   .rename_i hs;cases h;exact hs
   .cases h
theorem c6.lit{e:Env}{a:Act}(ar:c6 e a){s:Nat}{v:aa}(h:e.get s=some v):c6 ((s,v)::e) a:=by
 constructor;intro t u ht;rw[nc]at ht;by_cases b:s=t
 .subst b
  rw[if_pos rfl]at ht
  cases ht;exact ar.get _ _ h
 .rw[if_neg b]at ht
  exact ar.get _ _ ht
theorem vH{α:Type}(o:α)(rest:O α)(m:Nat){a:α}{b:O α}(h:rest.drop m=a::b):
 o::rest=(o::rest.take m)++(a::b):=by
 rw[←h];simp
theorem Cv{b c:al}{α:Type}{x y z:α}(h:(bif b&&c then x else y)=z)(a:y≠z):b=true/\c=true/\x=z:=by
 cases b<;>cases c<;>first|exact absurd h a|exact⟨rfl,rfl,h⟩
theorem yz:∀ (n:Nat) (l:O Oper) (as:O jN) (e j:Env) (a:Act) (w:J),c6 e a->(∀d∈bA l,d<a.tmps.size)->
 hU P ops n l as e=some j->wpList P ops (λx f w'=>x=.normal/\dC (bA l) a f/\c6 j f/\w'=w) l a w:=by
 intro n
 induction n with
 |zero=>intro l as e j a w _ _ h;cases h
 |succ n C=>
  intro l as e j a w ar g h;have one:∀ (o:Oper) (rest:O Oper) (F:O jN),(∀d∈bA (o::rest),d<a.tmps.size)->
   (match kK ops o e (eI P o e) (some undef) with|some v=>hU P ops n rest F (cW o.dst v e)|none=>none)=some j->
   wpList P ops (λx f w'=>x=.normal/\dC (bA (o::rest)) a f/\c6 j f/\w'=w) (o::rest) a w:=by
   intro o rest F g h;have M:∀k,o.dst=some k->k∈bA (o::rest):=λk b=>by simp[bA,b]
   have q:∀k,k∈bA rest->k∈bA (o::rest):=λk b=>by
    simp only[bA,p_];split
    .exact b
    .exact iJ _ b
   split at h
   .rename_i v t
    have next:∀ (f:Act),f=a.put o.dst v->wpList P ops (λx f w'=>x=.normal/\dC (bA (o::rest)) a f/\c6 j f/\w'=w) rest f w:=by
     intro f V;subst V;have b:dC (bA (o::rest)) a (a.put o.dst v):=dC.put M;have:=C rest F (cW o.dst v e) j (a.put o.dst v) w (ar.put λk b=>g k (M k b)) (λd hd=>by rw[b.size];exact g d (q d hd)) h;exact hV (λx f w' ⟨G,H,W,X⟩=>⟨G,b.trans (H.mono q),W,X⟩) _ _ _ this
    rcases Cu ar t with ⟨I,u⟩|⟨I,u⟩
    .simp only[wpList,I,if_true]
     left;unfold Oper.wp;rw[yy ar u w];exact next _ rfl
    .simp only[wpList,I,fE,if_false]
     cases u;exact next _ rfl
   .cases h
  cases l with
  |nil=>
   simp only[hU,Option.some.injEq]at h;subst h;exact⟨rfl,.refl _ _,ar,rfl⟩
  |cons o rest=>
   cases as with
   |nil=>exact one o rest [] g (by simpa only[hU] using h)
   |cons Y as=>
    cases Y with
    |run=>exact one o rest as g (by simpa only[hU] using h)
    |split m=>exact one o rest as g (by simpa only[hU] using h)
    |sj ks=>exact one o rest as g (by simpa only[hU] using h)
    |pure m=>
     simp only[hU]at h;split at h
     .refine one o rest as g ?_
      cases t:kK ops o e none (some undef) with
      |none=>rw[t]at h;cases h
      |some v=>rw[t]at h;rw[Ct t];exact h
     .rename_i s c i p hg hd
      split at h
      .rename_i N Q G H
       split at h
       .rename_i r1 aD Z aa
        obtain⟨ab,ac,h⟩:=Cv h (by simp);rw[vH o rest (m-1) hd]at g⊢;have R:=vG hg;refine qs _ _ _ _ ?_;have K:∀k,k∈bA (o::rest.take (m-1))->k∈bA ((o::rest.take (m-1))++(i::p)):=λk b=>by
         simp only[bA,qa,cD];exact .inl b
        have D:∀k,k∈bA (i::p)->k∈bA ((o::rest.take (m-1))++(i::p)):=λk b=>by
         simp only[bA,qa,cD];exact .inr b
        have S:∀k,i.dst=some k->k∈bA (i::p):=λk b=>by simp[bA,b]
        have q:∀k,k∈bA p->k∈bA (i::p):=λk b=>by
         simp only[bA,p_];split
         .exact b
         .exact iJ _ b
        have fin:∀ (L:Env) (r:al) (a1:Act),dC (bA (o::rest.take (m-1))) a a1->c6 L a1->ki i L=some r->r=cond c r1 aD->
         wpList P ops (λx f w'=>x=.normal/\dC (bA ((o::rest.take (m-1))++(i::p))) a f/\c6 j f/\w'=w) (i::p) a1 w:=by
         intro L r a1 E ad u ae;have T:=vD ar ac E;simp only[wpList,vF T ab,if_true];left;unfold Oper.wp;rw[vE ad u w];simp only[Oper.upon];have U:dC (bA (i::p)) a1 (a1.put i.dst (.bool r)):=dC.put S;have:=C p (as.drop m) (cW i.dst (.bool (cond c r1 aD)) e) j (a1.put i.dst (.bool r)) w
          (by rw[ae];exact T.put λk b=>by rw[E.size];exact g k (D k (S k b)))
          (λd hd=>by rw[U.size,E.size];exact g d (D d (q d hd))) h
         refine hV (λx f w' ⟨y,z,A,B⟩=>⟨y,(E.mono K).trans ((U.mono D).trans (z.mono λk b=>D k (q k b))),A,B⟩) _ _ _ this
        cases c with
        |true=>
         have:=C _ _ _ N a w (ar.lit R) (λd hd=>g d (K d hd)) G;exact hV (λx f w' ⟨y,z,A,B⟩=>⟨y,by subst B;exact fin N r1 f z A Z rfl⟩) _ _ _ this
        |false=>
         have:=C _ _ _ Q a w (ar.lit R) (λd hd=>g d (K d hd)) H;exact hV (λx f w' ⟨y,z,A,B⟩=>⟨y,by subst B;exact fin Q aD f z A aa rfl⟩) _ _ _ this
       .cases h
      .cases h
     .cases h
theorem yA:∀ (n:Nat) (l:O Oper) (as:O jN) (K:Env->J->Prop) (e:Env) (a:Act) (w:J),c6 e a->(∀d∈bA l,d<a.tmps.size)->
 fw P tk ops n l as K e w->wpList P ops (fY a (bA l) K) l a w:=by
 intro n
 induction n with
 |zero=>intro l as K e a w _ _ h;cases h
 |succ n G=>
  intro l as K e a w ar i h;have one:∀ (o:Oper) (rest:O Oper) (j:O jN),(∀d∈bA (o::rest),d<a.tmps.size)->
   gl ops o e (iM P tk o (λv w'=>fw P tk ops n rest j K (cW o.dst v e) w') e w) (fw P tk ops n rest j K (cW o.dst undef e) w)->
   wpList P ops (fY a (bA (o::rest)) K) (o::rest) a w:=by
   intro o rest j i h;have H:∀k,o.dst=some k->k∈bA (o::rest):=λk b=>by simp[bA,b]
   have p:∀k,k∈bA rest->k∈bA (o::rest):=λk b=>by
    simp only[bA,p_];split
    .exact b
    .exact iJ _ b
   have next:∀ (v:aa) (w':J),fw P tk ops n rest j K (cW o.dst v e) w'->wpList P ops (fY a (bA (o::rest)) K) rest (a.put o.dst v) w':=by
    intro v w' h;have b:dC (bA (o::rest)) a (a.put o.dst v):=dC.put H;have:=G rest j K (cW o.dst v e) (a.put o.dst v) w' (ar.put λk b=>i k (H k b)) (λd hd=>by rw[b.size];exact i d (p d hd)) h;exact hV (λx A w' ⟨B,C,R⟩=>⟨B,b.trans (C.mono p),R⟩) _ _ _ this
   rcases qu ar h with ⟨D,q⟩|⟨D,q⟩
   .simp only[wpList,D,if_true]
    exact .inl ((si ar q).wp next)
   .simp only[wpList,D,fE,if_false]
    exact next _ _ q
  have Y:∀ (o:Oper) (rest:O Oper) (ks:O Kd) (j:O jN),(∀d∈bA (o::rest),d<a.tmps.size)->
   gl ops o e (sk P ks o (λv w'=>fw P tk ops n rest j K (cW o.dst v e) w') e w) (fw P tk ops n rest j K (cW o.dst undef e) w)->
   wpList P ops (fY a (bA (o::rest)) K) (o::rest) a w:=by
   intro o rest ks j i h;have H:∀k,o.dst=some k->k∈bA (o::rest):=λk b=>by simp[bA,b]
   have p:∀k,k∈bA rest->k∈bA (o::rest):=λk b=>by
    simp only[bA,p_];split
    .exact b
    .exact iJ _ b
   have next:∀ (v:aa) (w':J),fw P tk ops n rest j K (cW o.dst v e) w'->wpList P ops (fY a (bA (o::rest)) K) rest (a.put o.dst v) w':=by
    intro v w' h;have b:dC (bA (o::rest)) a (a.put o.dst v):=dC.put H;have:=G rest j K (cW o.dst v e) (a.put o.dst v) w' (ar.put λk b=>i k (H k b)) (λd hd=>by rw[b.size];exact i d (p d hd)) h;exact hV (λx A w' ⟨B,C,R⟩=>⟨B,b.trans (C.mono p),R⟩) _ _ _ this
   rcases qu ar h with ⟨D,q⟩|⟨D,q⟩
   .simp only[wpList,D,if_true]
    exact .inl ((Cs ar q).wp next)
   .simp only[wpList,D,fE,if_false]
    exact next _ _ q
  cases l with
  |nil=>exact⟨rfl,.refl _ _,e,ar,h⟩
  |cons o rest=>
   cases as with
   |nil=>exact one o rest [] i (by simpa only[fw] using h)
   |cons Z as=>
    cases Z with
    |run=>exact one o rest as i (by simpa only[fw] using h)
    |sj ks=>exact Y o rest ks as i (by simpa only[fw] using h)
    |split m=>
     simp only[fw]at h;split at h
     .exact one o rest as i (yx h False.elim)
     .rename_i s c f g hg hd
      obtain⟨S,T,h⟩:lj ops f e=true/\mb e (bA (o::rest.take (m-1)))=true/\_:=by
       cases B:lj ops f e<;>cases C:mb e (bA (o::rest.take (m-1)))<;>rw[B,C]at h<;>first|exact h.elim|exact⟨rfl,rfl,h⟩
      rw[vH o rest (m-1) hd]at i⊢;have I:=vG hg;refine qs _ _ _ _ ?_;have E:∀k,k∈bA (o::rest.take (m-1))->k∈bA ((o::rest.take (m-1))++(f::g)):=λk b=>by
       simp only[bA,qa,cD];exact .inl b
      have t:∀k,k∈bA (f::g)->k∈bA ((o::rest.take (m-1))++(f::g)):=λk b=>by
       simp only[bA,qa,cD];exact .inr b
      have L:∀k,f.dst=some k->k∈bA (f::g):=λk b=>by simp[bA,b]
      have p:∀k,k∈bA g->k∈bA (f::g):=λk b=>by
       simp only[bA,p_];split
       .exact b
       .exact iJ _ b
      have fin:∀ (x:Exit) (a1:Act) (w1:J),fY a (bA (o::rest.take (m-1)))
       (λab w'=>match ki f ab with|some r=>fw P tk ops n g (as.drop m) K (cW f.dst (.bool r) e) w'|none=>False) x a1 w1->
       x=.normal/\wpList P ops (fY a (bA ((o::rest.take (m-1))++(f::g))) K) (f::g) a1 w1:=by
       rintro x a1 w1 ⟨hx,u,Q,U,h⟩;refine⟨hx,?_⟩;have M:=vD ar T u;split at h
       .rename_i r q
        simp only[wpList,vF M S,if_true];left;unfold Oper.wp;rw[vE U q w1];simp only[Oper.upon];have N:dC (bA (f::g)) a1 (a1.put f.dst (.bool r)):=dC.put L;have:=G g (as.drop m) K (cW f.dst (.bool r) e) (a1.put f.dst (.bool r)) w1
         (M.put λk b=>by rw[u.size];exact i k (t k (L k b)))
         (λd hd=>by rw[N.size,u.size];exact i d (t d (p d hd))) h
        refine hV (λx A w' ⟨y,z,F⟩=>⟨y,(u.mono E).trans ((N.mono t).trans (z.mono λk b=>t k (p k b))),F⟩) _ _ _ this
       .exact h.elim
      have h:=h.out
      cases c with
      |true=>
       have:=G _ _ _ _ a w (ar.lit I) (λd hd=>i d (E d hd)) (h.1 rfl);exact hV fin _ _ _ this
      |false=>
       have:=G _ _ _ _ a w (ar.lit I) (λd hd=>i d (E d hd)) (h.2 rfl);exact hV fin _ _ _ this
     .exact h.elim
    |pure m=>
     simp only[fw]at h;split at h
     .exact one o rest as i (yx h False.elim)
     .rename_i s c f g hg hd
      split at h
      .rename_i W X B C
       split at h
       .rename_i r1 aD ac ad
        obtain⟨S,T,h⟩:lj ops f e=true/\mb e (bA (o::rest.take (m-1)))=true/\_:=by
         cases y:lj ops f e<;>cases z:mb e (bA (o::rest.take (m-1)))<;>rw[y,z]at h<;>first|exact h.elim|exact⟨rfl,rfl,h⟩
        rw[vH o rest (m-1) hd]at i⊢;have I:=vG hg;refine qs _ _ _ _ ?_;have E:∀k,k∈bA (o::rest.take (m-1))->k∈bA ((o::rest.take (m-1))++(f::g)):=λk b=>by
         simp only[bA,qa,cD];exact .inl b
        have t:∀k,k∈bA (f::g)->k∈bA ((o::rest.take (m-1))++(f::g)):=λk b=>by
         simp only[bA,qa,cD];exact .inr b
        have L:∀k,f.dst=some k->k∈bA (f::g):=λk b=>by simp[bA,b]
        have p:∀k,k∈bA g->k∈bA (f::g):=λk b=>by
         simp only[bA,p_];split
         .exact b
         .exact iJ _ b
        have fin:∀ (Q:Env) (r:al) (a1:Act),dC (bA (o::rest.take (m-1))) a a1->c6 Q a1->ki f Q=some r->r=cond c r1 aD->
         wpList P ops (fY a (bA ((o::rest.take (m-1))++(f::g))) K) (f::g) a1 w:=by
         intro Q r a1 u U q ae;have M:=vD ar T u;simp only[wpList,vF M S,if_true];left;unfold Oper.wp;rw[vE U q w];simp only[Oper.upon];have N:dC (bA (f::g)) a1 (a1.put f.dst (.bool r)):=dC.put L;have:=G g (as.drop m) K (cW f.dst (.bool (cond c r1 aD)) e) (a1.put f.dst (.bool r)) w
          (by rw[ae];exact M.put λk b=>by rw[u.size];exact i k (t k (L k b)))
          (λd hd=>by rw[N.size,u.size];exact i d (t d (p d hd))) h
         refine hV (λx A w' ⟨y,z,F⟩=>⟨y,(u.mono E).trans ((N.mono t).trans (z.mono λk b=>t k (p k b))),F⟩) _ _ _ this
        cases c with
        |true=>
         have:=yz n _ _ _ W a w (ar.lit I) (λd hd=>i d (E d hd)) B;exact hV (λx A w' ⟨y,z,F,V⟩=>⟨y,by subst V;exact fin W r1 A z F ac rfl⟩) _ _ _ this
        |false=>
         have:=yz n _ _ _ X a w (ar.lit I) (λd hd=>i d (E d hd)) C;exact hV (λx A w' ⟨y,z,F,V⟩=>⟨y,by subst V;exact fin X aD A z F ad rfl⟩) _ _ _ this
       .exact h.elim
      .exact h.elim
     .exact h.elim
end
end aP
namespace aP
open Go
structure af(W:Nat->Prop)(w w':J):Prop where
 os:w'.os=w.os
 tape:w'.tape=w.tape
 output:w'.output=w.output
 size:w.heap.size<=w'.heap.size
 block:∀k,k<w.heap.size->¬W k->w'.heap[k]? =w.heap[k]?
theorem af.refl(W:Nat->Prop)(w:J):af W w w:=⟨rfl,rfl,rfl,bk _,λ_ _ _=>rfl⟩
theorem af.trans{W:Nat->Prop}{a b c:J}(h:af W a b)(k:af W b c):af W a c:=
 ⟨k.os.trans h.os,k.tape.trans h.tape,k.output.trans h.output,eH h.size k.size,λi hi d=>(k.block i (e_ hi h.size) d).trans (h.block i hi d)⟩
theorem af.mono{W V:Nat->Prop}{a b:J}(h:af W a b)(c:∀k,k<a.heap.size->W k->V k):af V a b:=
 ⟨h.os,h.tape,h.output,h.size,λi hi d=>h.block i hi λcp=>d (c i hi cp)⟩
theorem af.cell{W:Nat->Prop}{w w':J}(h:af W w w'){A:ah}(cp:¬W A.block){v:aa}(a:w.cell? A=some v):w'.cell? A=some v:=by
 have c:A.block<w.heap.size:=by
  rcases ec A.block w.heap.size with b|b
  .exact b
  .simp[World.cell?,Array.getElem?_eq_none b]at a
 unfold World.cell? at a⊢;rw[h.block _ c cp];exact a
theorem af.bV{W:Nat->Prop}{w w':J}(h:af W w w'){A:ah}(cp:¬W A.block):∀ (n i:Nat) (vs:O aa),bV w A i n=some vs->bV w' A i n=some vs
 |0,_,_,a=>a
 |n+1,i,vs,a=>by
  simp only[aP.bV]at a⊢
  have d:(A.add i).block=A.block:=by unfold Addr.add;split<;>rfl
  cases b:w.cell? (A.add i) with
  |none=>simp[b]at a
  |some v=>
   cases c:aP.bV w A (i+1) n with
   |none=>simp[b,c]at a
   |some us=>
    simp only[b,c]at a
    rw[h.cell (by rw[d];exact cp) b,af.bV h cp n (i+1) us c]
    exact a
def fx{α:Type}:Sem α->Prop
 | .pure _=>True
 | .program k=>∀p,fx (k p)
 | .halt _=>True
 |_=>False
theorem fx.bind{α β:Type}:∀ {s:Sem α}{f:α->Sem β},fx s->(∀a,fx (f a))->fx (s>>=f)
 | .pure a,_,_,hf=>hf a
 | .program _,_,h,hf=> λp=>fx.bind (h p) hf
 | .halt _,_,_,_=>trivial
 | .load ..,_,h,_=>h.elim
 | .store ..,_,h,_=>h.elim
 | .new ..,_,h,_=>h.elim
 | .shape ..,_,h,_=>h.elim
 | .freeze ..,_,h,_=>h.elim
 | .frozen ..,_,h,_=>h.elim
 | .getObj ..,_,h,_=>h.elim
 | .setObj ..,_,h,_=>h.elim
 | .choose ..,_,h,_=>h.elim
 | .sys ..,_,h,_=>h.elim
 | .mark ..,_,h,_=>h.elim
theorem fx.run{α:Type}{P:Program}:∀ {s:Sem α}{w w':J}{v:α},fx s->s.run P w=.ok v w'->∀u,s.run P u=.ok v u
 | .pure a,w,w',v,_,h,u=>by
  simp only[Sem.run,Result.ok.injEq]at h⊢
  exact⟨h.1,trivial⟩
 | .program k,w,w',v,hf,h,u=>fx.run (hf P) h u
 | .halt _,w,w',v,_,h,_=>by simp[Sem.run]at h
 | .load ..,_,_,_,h,_,_=>h.elim
 | .store ..,_,_,_,h,_,_=>h.elim
 | .new ..,_,_,_,h,_,_=>h.elim
 | .shape ..,_,_,_,h,_,_=>h.elim
 | .freeze ..,_,_,_,h,_,_=>h.elim
 | .frozen ..,_,_,_,h,_,_=>h.elim
 | .getObj ..,_,_,_,h,_,_=>h.elim
 | .setObj ..,_,_,_,h,_,_=>h.elim
 | .choose ..,_,_,_,h,_,_=>h.elim
 | .sys ..,_,_,_,h,_,_=>h.elim
 | .mark ..,_,_,_,h,_,_=>h.elim
theorem yB:fx program:=λ_=>trivial
theorem yC(t:TypeId):fx (underlying t):=by
 unfold underlying;refine fx.bind yB λp=>?_;split<;>trivial
theorem Cw(t:TypeId):fx (typeInfo t):=by
 unfold typeInfo;refine fx.bind yB λp=>?_;split<;>trivial
theorem Cx(t:TypeId):fx (Go.sizeOf t):=fx.bind (Cw t) λ_=>trivial
theorem Cy(t:TypeId):fx (isAgg t):=by
 unfold isAgg;refine fx.bind (yC t) λd=>?_;split<;>trivial
theorem Cz(t:TypeId)(cs:Array aa)(off:Nat):fx (part t cs off):=by
 unfold part;refine fx.bind (Cy t) λd=>?_;split
 .exact fx.bind (Cx t) λ_=>trivial
 .split<;>trivial
theorem CA(t:TypeId)(x:aa)(i:Nat):fx (Instr.field t x i):=by
 unfold Instr.field;refine fx.bind (yC t) λd=>?_;split
 .split
  .refine fx.bind ?_ λ_=>Cz _ _ _
   unfold asAgg;split<;>trivial
  .trivial
 .trivial
def yD:Op->al
 | .move _=>true
 | .assign _=>true
 | .pick _ _ _=>true
 | .field _ _ _=>true
 |_=>false
def qv(P:Program)(o:Oper)(K:aa->Prop)(e:Env)(w:J):Prop:=
 bif yD o.op&&known e o.op.operands then
  match (execOp (ro e) o).run P w with
  | .ok (.value v) _=>K v
  |_=>False
 else False
def oL(P:Program)(o:Oper)(K:aa->Prop)(e:Env):Prop:=
 match eI P o e with
 |some v=>K v
 |none=>False
def yE(P:Program)(T:TypeId)(x:aa)(i:Nat)(K:aa->Prop):Prop:=
 match P.underlying T with
 |some (.struct fs)=>match fs[i]? with
  |some f=>match x with
   | .pointer (some A)=>match P.underlying f.type with
    |some _=>bif Nat.beq (P.cellsOf f.type) 0 then False else K (.pointer (some (A.add f.offset)))
    |none=>False
   |_=>False
  |none=>False
 |_=>False
def yF(x:aa)(i:Nat)(K:aa->Prop):Prop:=
 match x with
 | .tuple vs=>match vs[i]? with
  |some v=>K v
  |none=>False
 |_=>False
def iN(o:Oper):al:=
 match o.op with
 | .load _ _=>true
 | .convert _ _ _=>true
 |_=>false
def kj:Nat->O Oper->Nat
 |_,[]=>0
 |i,o::l=>bif iN o then 2^i|||kj (i+1) l else kj (i+1) l
def vI(P:Program)(tk:TypeId->dt)(W:Nat->Prop)(w:J)(o:Oper)(K:aa->Prop)(e:Env):Prop:=
 match o.op with
 | .nilCheck x=>match ev e x with
  |some (.pointer p)=>∃A,p=some A/\K (.pointer (some A))
  |_=>False
 | .load T x=>match ev e x with
  |some (.pointer (some A))=>¬W A.block/\oG P tk T A w K
  |_=>False
 | .binOp op T x y _=>match ev e x,ev e y with
  |some a,some c=>bif oK y c then r8 P op T a c K (oL P o K e) else False
  |_,_=>False
 | .indexAddr T x i=>match ev e x,ev e i with
  |some a,some b=>se P T a b K
  |_,_=>False
 | .index T x i=>match ev e x,ev e i with
  |some a,some b=>sf P tk T a b K
  |_,_=>False
 | .field T x i=>match ev e x with
  |some a=>sg P tk T a i K
  |_=>False
 | .fieldAddr T x i=>match ev e x with
  |some a=>yE P T a i K
  |_=>False
 | .extract x i=>match ev e x with
  |some a=>yF a i K
  |_=>False
 | .slice T x lo hi f=>bif known e o.op.operands then
  sh P T (ro e x) (lo.map (ro e)) (hi.map (ro e)) (f.map (ro e)) K
  else False
 | .convert s d x=>match ev e x with
  |some (.int _ _)=>oL P o K e
  |some v=>gV (tk o.type) λr=>(∀w',af W w w'->(convert s d v).run P w'=.ok r w')/\K r
  |none=>False
 | .build t ps=>bif known e o.op.operands then
  ∃cs:Array aa,(∀w',(Instr.build t (ps.map λp=>(p.1,ro e p.2))).run P w'=.ok (.agg cs) w')/\K (.agg cs)
  else False
 | .unOp _ _ _=>oL P o K e
 | .call _=>oL P o K e
 | .move _=>qv P o K e w
 | .assign _=>qv P o K e w
 | .pick _ _ _=>qv P o K e w
 | .sliceToArrayPointer T x=>match ev e x with
  |some a=>sd P T a K
  |_=>False
 |_=>False
section
variable {P:Program}{tk:TypeId->dt}{W:Nat->Prop}{o:Oper}{K:aa->Prop}{e:Env}{a:Act}{w:J}
theorem vJ(ar:c6 e a)(h:qv P o K e w):∃v,(∀w',(execOp a.eval o).run P w'=.ok (.value v) w')/\K v:=by
 unfold qv at h
 cases hf:yD o.op with
 |false=>rw[hf]at h;exact h.elim
 |true=>
  cases c:known e o.op.operands with
  |false=>rw[hf,c]at h;exact h.elim
  |true=>
   rw[hf,c]at h;simp only[Bool.and_self,cond_true]at h;have hc:=jM ar (by cases b:o.op<;>rw[b]at hf<;>first|rfl|cases hf) c;rw[hc];split at h
   .rename_i v w' d
    refine⟨v,λu=>fx.run ?_ d u,h⟩
    cases b:o.op<;>rw[b]at hf<;>first|(cases hf;done)|skip
    .simp only[execOp,b];trivial
    .simp only[execOp,b];trivial
    .simp only[execOp,b]
     refine fx.bind ?_ λ_=>trivial;unfold asBool;split<;>trivial
    .simp only[execOp,b]
     exact fx.bind (CA _ _ _) λ_=>trivial
   .exact h.elim
theorem sm(ar:c6 e a)(h:oL P o K e):∃v,(∀w',(execOp a.eval o).run P w'=.ok (.value v) w')/\K v:=by
 unfold oL at h;split at h
 .rename_i v b
  exact⟨v,yy ar b,h⟩
 .exact h.elim
theorem CB(ar:c6 e a)(h:vI P tk W w o K e):∃v,(∀w',(iN o=true->af W w w')->(execOp a.eval o).run P w'=.ok (.value v) w')/\K v:=by
 have aX:(∃v,(∀w',(execOp a.eval o).run P w'=.ok (.value v) w')/\K v)->∃v,(∀w',(iN o=true->af W w w')->(execOp a.eval o).run P w'=.ok (.value v) w')/\K v:=
  λ⟨v,F,G⟩=>⟨v,λw' _=>F w',G⟩
 unfold vI at h;split at h
 case h_1 x b=>
  split at h
  .rename_i p hx
   obtain⟨A,rfl,g⟩:=h;exact⟨_,λw' _=>by simp[execOp,b,ar.ev hx],g⟩
  .exact h.elim
 case h_2 T x b=>
  split at h
  .rename_i A hx
   obtain⟨cp,h⟩:=h;have key:∃v,(∀w',af W w w'->(Instr.loadAt T (.pointer (some A))).run P w'=.ok v w')/\K v:=by
    have z:∀w',(Instr.loadAt T (.pointer (some A))).run P w'=(loadVar T A).run P w':=λw'=>by simp[Instr.loadAt,Instr.sureAddr]
    unfold oG at h;split at h
    .exact h.elim
    .rename_i d m
     cases hd:gG d with
     |true=>
      rw[hd]at h;simp only[cond_true]at h;split at h
      .rename_i ls _
       by_cases n:Nat.beq (P.cellsOf T) ls.length=true
       .rw[n]at h
        simp only[cond_true]at h;obtain⟨vs,C,h⟩:=vB h;rw[←g3 n]at C;exact⟨_,λw' hc=>by rw[z,r7 m hd (hc.bV cp _ _ _ C)],h⟩
       .simp only[e9]at n;rw[n]at h;exact h.elim
      .obtain⟨cs,H,h⟩:=h
       exact⟨_,λw' hc=>by rw[z,r7 m hd (hc.bV cp _ _ _ H)],h⟩
     |false=>
      rw[hd]at h;simp only[cond_false]at h;split at h
      .obtain⟨v,j,h⟩:=oD h
       exact⟨v,λw' hc=>by rw[z,yd m hd (hc.cell cp j)],h⟩
      .exact h.elim
   obtain⟨v,j,g⟩:=key;exact⟨v,λw' hc=>by simp[execOp,b,ar.ev hx,j w' (hc (by unfold iN;rw[b]))],g⟩
  .exact h.elim
 case h_3 op T x y N b=>
  split at h
  .rename_i l D hx I
   by_cases q:oK y D=true
   .rw[q]at h
    simp only[cond_true]at h;have J:D=.nilIface->∃c,y=.const c:=by
     intro j;subst j
     cases y<;>simp[oK]at q⊢
    rcases yj (hT:=x) (oJ:=y) J h with hg|⟨v,j,g⟩
    .exact aX (sm ar hg)
    .exact⟨v,λw' _=>by
      simp only[execOp,b,ar.ev hx,ar.ev I];have E:=j w';simp only[Sem.run_bind]at E⊢;rw[E];rfl,g⟩
   .simp only[e9]at q;rw[q]at h;exact h.elim
  .exact h.elim
 case h_4 T x i b=>
  split at h
  .rename_i l L hx hi
   obtain⟨v,j,g⟩:=yl h;exact⟨v,λw' _=>by simp[execOp,b,ar.ev hx,ar.ev hi,j],g⟩
  .exact h.elim
 case h_5 T x i b=>
  split at h
  .rename_i l L hx hi
   obtain⟨v,j,g⟩:=yn h;exact⟨v,λw' _=>by simp[execOp,b,ar.ev hx,ar.ev hi,j],g⟩
  .exact h.elim
 case h_6 T x i b=>
  split at h
  .rename_i l hx
   obtain⟨v,j,g⟩:=yo h;exact⟨v,λw' _=>by simp[execOp,b,ar.ev hx,j],g⟩
  .exact h.elim
 case h_7 T x i b=>
  split at h
  .rename_i l hx
   unfold yE at h;split at h
   .rename_i fs m
    split at h
    .rename_i f hf
     split at h
     .rename_i A
      split at h
      .rename_i d hd
       cases u:Nat.beq (P.cellsOf f.type) 0 with
       |true=>rw[u]at h;exact h.elim
       |false=>
        rw[u]at h;have M:¬P.cellsOf f.type=0:=λh0=>by rw[h0]at u;cases u
        exact⟨_,λw' _=>by simp[execOp,b,ar.ev hx,Instr.fieldAt,cP m,hf,Instr.sureAddr,fieldPlace,gH hd,M],h⟩
      .exact h.elim
     .exact h.elim
    .exact h.elim
   .exact h.elim
  .exact h.elim
 case h_8 x i b=>
  split at h
  .rename_i l hx
   unfold yF at h;split at h
   .rename_i vs
    split at h
    .rename_i v j
     exact⟨v,λw' _=>by simp[execOp,b,ar.ev hx,Instr.extract,j],h⟩
    .exact h.elim
   .exact h.elim
  .exact h.elim
 case h_9 T x lo hi O b=>
  by_cases k:known e o.op.operands=true
  .rw[k]at h
   simp only[cond_true]at h;have hc:=jM ar (by rw[b];rfl) k;obtain⟨v,j,g⟩:=yp h;exact⟨v,λw' _=>by rw[hc];simp[execOp,b,j],g⟩
  .simp only[e9]at k;rw[k]at h;exact h.elim
 case h_10 s d x b=>
  split at h
  .exact aX (sm ar h)
  .rename_i v _ hx
   obtain⟨r,B,g⟩:=g9 h;exact⟨r,λw' hc=>by simp[execOp,b,ar.ev hx,B w' (hc (by unfold iN;rw[b]))],g⟩
  .exact h.elim
 case h_11 t ps b=>
  by_cases k:known e o.op.operands=true
  .rw[k]at h
   simp only[cond_true]at h;have hc:=jM ar (by rw[b];rfl) k;obtain⟨cs,B,g⟩:=h;exact⟨_,λw' _=>by rw[hc];simp[execOp,b];rw[B];rfl,g⟩
  .simp only[e9]at k;rw[k]at h;exact h.elim
 case h_12=>exact aX (sm ar h)
 case h_13=>exact aX (sm ar h)
 case h_14=>exact aX (vJ ar h)
 case h_15=>exact aX (vJ ar h)
 case h_16=>exact aX (vJ ar h)
 case h_17 T x b=>
  split at h
  .rename_i l hx
   obtain⟨v,j,g⟩:=yk h;exact⟨v,λw' _=>by simp[execOp,b,ar.ev hx,j],g⟩
  .exact h.elim
 case h_18=>exact h.elim
end
inductive aF where
 |take (i:Nat) (t:aF)
 |bZ (i:Nat) (t:aF)
 |out (i:Nat) (b:al) (t:aF)
 |two (i:Nat) (t:aF) (j:Nat) (u:aF)
 |three (i:Nat) (t:aF) (j:Nat) (u:aF) (k:Nat) (v:aF)
 |sp (s:Nat) (t u:aF)
 |fin
 |tail (as:O jN)
def gX:O Nat->Nat
 | []=>0
 |d::l=>2^d|||gX l
theorem ln:∀ (l:O Nat) (k:Nat),(gX l).testBit k=decide (k∈l)
 | [],k=>by simp[gX]
 |d::l,k=>by
  simp only[gX,lX,ln l k,qb]
  by_cases h:d=k
  .subst h;simp
  .have:¬k=d:=λa=>h a.symm
   simp[h,this]
def mc(o:Oper):O Nat:=(o.after.toList.filter λe=>Region.binds .any e).map (·.on)
structure jO where
 M:O Nat
 A:O Nat
def jP(l:O Nat)(i:Nat):Nat:=l.getD i 0
def jQ(bK:jO)(m i:Nat):al:= !(m.testBit i)&&Nat.beq (jP bK.M i&&&m) (jP bK.M i)
def yG(bK:jO)(N m i:Nat):al:=Nat.beq (jP bK.A i&&&((2^N-1)^^^m)) 0
def kk(bK:jO)(m:Nat)(is:O Nat):Nat->al
 |0=>true
 |k+1=>(is.any (Nat.beq k)|| !(jQ bK m k))&&kk bK m is k
def qw(bK:jO):Nat->O Oper->al
 |_,[]=>true
 |i,o::l=>Nat.beq (gX (mc o)) (jP bK.M i)&&qw bK (i+1) l
def qx(M:O Nat)(a i b c:Nat):Nat->O Nat->O Nat->O Nat->al
 |j,e::f,d::g,h::k=>(a.testBit j||(Nat.beq i j||(e.testBit i||(Nat.beq (b&&&(h|||d)) 0&&Nat.beq (d&&&c) 0))))&&qx M a i b c (j+1) f g k
 |_,_,_,_=>true
def sn(bK:jO)(D K:O Nat):Nat->O Nat->O Nat->al
 |i,d::a,k::b=>qx bK.M (jP bK.A i) i d k 0 bK.M D K&&sn bK D K (i+1) a b
 |_,_,_=>true
def yH(ops:O Oper):O Nat:=ops.map λo=>gX o.dst.toList
def yI(a:Array Oper)(ops:O Oper):O Nat:=ops.map λo=>gX (o.looksAt a)
def qy:O Nat->O Nat->al
 | [],[]=>true
 |a::l,b::r=>Nat.beq a b&&qy l r
 |_,_=>false
theorem vK:∀ {l r:O Nat},qy l r=true->l=r
 | [],[],_=>rfl
 |a::l,b::r,h=>by
  simp only[qy,dk]at h
  rw[g3 h.1,vK h.2]
def kL(bK:jO)(D K:O Nat)(a:Array Oper):al:=
 Nat.beq bK.M.length a.size&&(qw bK 0 a.toList&&(qy (yH a.toList) D&&(qy (yI a a.toList) K&&sn bK D K 0 D K)))
def qz(bK:jO):Nat->Nat->Nat->Nat->al
 |0,_,N,m=>kk bK m [] N
 |g+1,k,N,m=>(jQ bK m k&&kk bK m [k] N)&&qz bK g (k+1) N (m|||2^k)
def dy(P:Program)(tk:TypeId->dt)(ops:Array Oper)(n:Nat)(bK:jO)(W:Nat->Prop):aF->Nat->Nat->(Env->J->Prop)->Env->J->Prop
 | .take i t,f+1,m,K,e,w=>
  bif jQ bK m i&&(yG bK ops.size m i&&Nat.blt i n) then
   match ops[i]? with
   |some o=>gl ops o e (vI P tk W w o (λv=>dy P tk ops n bK W t f (m|||2^i) K (cW o.dst v e) w) e) (dy P tk ops n bK W t f (m|||2^i) K (cW o.dst undef e) w)
   |none=>False
  else False
 | .bZ i t,f+1,m,K,e,w=>
  bif (jQ bK m i&&kk bK m [i] ops.size)&&Nat.blt i n then
   match ops[i]? with
   |some o=>gl ops o e (iM P tk o (λv w'=>af W w w'/\dy P tk ops n bK W t f (m|||2^i) K (cW o.dst v e) w') e w) (dy P tk ops n bK W t f (m|||2^i) K (cW o.dst undef e) w)
   |none=>False
  else False
 | .out i b t,f+1,m,K,e,w=>
  bif (jQ bK m i&&kk bK m [i] ops.size)&&(Nat.blt i n&&Nat.beq ((kj 0 ops.toList&&&m)&&&jP bK.M i) (kj 0 ops.toList&&&m)) then
   match ops[i]? with
   |some o=>gl ops o e (iM P tk o (λv w'=>bif b then ∃V:Nat->Prop,dy P tk ops n bK V t f (m|||2^i) K (cW o.dst v e) w' else dy P tk ops n bK W t f (m|||2^i) K (cW o.dst v e) w') e w) (dy P tk ops n bK W t f (m|||2^i) K (cW o.dst undef e) w)
   |none=>False
  else False
 | .two i t j u,f+1,m,K,e,w=>
  bif (jQ bK m i&&kk bK m [i,j] ops.size)&&(Nat.blt i n&&Nat.blt j n) then
   match ops[i]?,ops[j]? with
   |some o,some q=>
    gl ops o e (iM P tk o (λv w'=>af W w w'/\dy P tk ops n bK W t f (m|||2^i) K (cW o.dst v e) w') e w) (dy P tk ops n bK W t f (m|||2^i) K (cW o.dst undef e) w)/\
    gl ops q e (iM P tk q (λv w'=>af W w w'/\dy P tk ops n bK W u f (m|||2^j) K (cW q.dst v e) w') e w) (dy P tk ops n bK W u f (m|||2^j) K (cW q.dst undef e) w)
   |_,_=>False
  else False
 | .three i t j u k x,f+1,m,K,e,w=>
  bif (jQ bK m i&&kk bK m [i,j,k] ops.size)&&(Nat.blt i n&&(Nat.blt j n&&Nat.blt k n)) then
   match ops[i]?,ops[j]?,ops[k]? with
   |some o,some q,some r=>
    gl ops o e (iM P tk o (λv w'=>af W w w'/\dy P tk ops n bK W t f (m|||2^i) K (cW o.dst v e) w') e w) (dy P tk ops n bK W t f (m|||2^i) K (cW o.dst undef e) w)/\
    gl ops q e (iM P tk q (λv w'=>af W w w'/\dy P tk ops n bK W u f (m|||2^j) K (cW q.dst v e) w') e w) (dy P tk ops n bK W u f (m|||2^j) K (cW q.dst undef e) w)/\
    gl ops r e (iM P tk r (λv w'=>af W w w'/\dy P tk ops n bK W x f (m|||2^k) K (cW r.dst v e) w') e w) (dy P tk ops n bK W x f (m|||2^k) K (cW r.dst undef e) w)
   |_,_,_=>False
  else False
 | .sp s t u,f,m,K,e,w=>
  match e.get s with
  |some (.bool c)=>(c=true->dy P tk ops n bK W t f m K ((s,.bool true)::e) w)/\(c=false->dy P tk ops n bK W u f m K ((s,.bool false)::e) w)
  |_=>False
 | .fin,0,m,K,e,w=>bif kk bK m [] ops.size&&Nat.beq n ops.size then K e w else False
 | .tail as,0,m,K,e,w=>bif qz bK (ops.size-n) n ops.size m&&Nat.blt n ops.size then fw P tk ops (ops.size-n+1) (ops.toList.drop n) as K e w else False
 |_,_,_,_,_,_=>False
def dW(N m:Nat):Array al:=(Array.range N).map λi=>m.testBit i
theorem oM{N m i:Nat}{d:al}(h:i<N):(dW N m).getD i d=m.testBit i:=by
 simp[dW,h]
theorem CC{N m i:Nat}{d:al}(h:N<=i):(dW N m).getD i d=d:=by
 simp[dW,h]
theorem so(N m i:Nat):(dW N m).setIfInBounds i true=dW N (m|||2^i):=by
 apply Array.ext
 .simp[dW]
 .intro j e b
  have c:j<N:=by simpa[dW] using b
  have d:j<(dW N m).size:=by simpa[dW] using c
  rw[Array.getElem_setIfInBounds d];simp only[dW,Array.getElem_map,Array.getElem_range,lX,qb];by_cases a:i=j
  .subst a;simp
  .simp[a]
theorem yJ(N:Nat):dW N 0=Array.replicate N false:=by
 apply Array.ext
 .simp[dW]
 .intro j a b
  simp[dW]
section
variable {ops:Array Oper}{bK:jO}{D K:O Nat}
theorem yK:∀ (l:O Oper) (i k:Nat) (o:Oper),qw bK i l=true->l[k]? =some o->jP bK.M (i+k)=gX (mc o)
 | [],_,_,_,_,h=>by simp at h
 |p::l,i,0,o,hc,h=>by
  simp only[qw,dk]at hc
  simp only[lY,Option.some.injEq]at h
  subst h
  exact(g3 hc.1).symm
 |p::l,i,k+1,o,hc,h=>by
  simp only[qw,dk]at hc
  have:=yK l (i+1) k o hc.2 (by simpa using h)
  rw[show i+(k+1)=i+1+k from I]
  exact this
theorem sq(h:kL bK D K ops=true){i:Nat}{o:Oper}(a:ops[i]? =some o):jP bK.M i=gX (mc o):=by
 simp only[kL,dk]at h;have:=yK ops.toList 0 i o h.2.1 (by simpa using a);simpa using this
theorem yL{a b:Nat}(h:a&&&b=a){k:Nat}(c:a.testBit k=true):b.testBit k=true:=by
 have:=congrArg (λx=>x.testBit k) h;simp only[Nat.testBit_and,c,ic]at this;exact this
theorem yM:∀ (l:O Oper) (i k:Nat) (o:Oper),l[k]? =some o->(kj i l).testBit (i+k)=iN o
 | [],_,_,_,h=>by simp at h
 |p::l,i,0,o,h=>by
  simp only[lY,Option.some.injEq]at h
  subst h
  have low:∀ (l:O Oper) (i k:Nat),k<i->(kj i l).testBit k=false:=by
   intro l
   induction l with
   |nil=>intro i k _;simp[kj]
   |cons q l a=>
    intro i k b;simp only[kj]
    cases iN q
    .exact a (i+1) k I
    .simp only[cond_true,lX,qb,a (i+1) k I,Bool.or_false,kF]
     omega
  simp only[kj,lV]
  cases iN p
  .exact low l (i+1) i I
  .simp[lX]
 |p::l,i,k+1,o,h=>by
  have:=yM l (i+1) k o (by simpa using h);rw[show i+1+k=i+(k+1) from I]at this;simp only[kj]
  cases iN p
  .exact this
  .simp only[cond_true,lX,qb,this]
   simp
theorem sr{o:Oper}{k:Nat}:k∈mc o↔∃e∈o.after,Region.binds .any e=true/\e.on=k:=by
 simp only[mc,fq,gk,Array.mem_toList_iff];constructor
 .rintro⟨e,⟨a,b⟩,c⟩;exact⟨e,a,b,c⟩
 .rintro⟨e,a,b,c⟩;exact⟨e,⟨a,b⟩,c⟩
def Small(N m:Nat):Prop:=∀k,N<=k->m.testBit k=false
theorem CD(N:Nat):Small N 0:=λk _=>by simp
theorem ss{N m i:Nat}(h:Small N m)(hi:i<N):Small N (m|||2^i):=λk a=>by
 simp only[lX,h k a,qb,lZ,kF]
 omega
theorem su(hc:kL bK D K ops=true){m i:Nat}(j:Small ops.size m):i∈Region.ready .any ops (dW ops.size m)↔i<ops.size/\jQ bK m i=true:=by
 rw[mem_ready];constructor
 .rintro⟨g,o,b,l⟩
  have hi:i<ops.size:=(k6.1 b).1;refine⟨hi,?_⟩;rw[oM hi]at g;simp only[jQ,g,Bool.not_false,ic];rw[sq hc b];have:gX (mc o)&&&m=gX (mc o):=by
   apply Nat.eq_of_testBit_eq;intro k;simp only[Nat.testBit_and,ln];by_cases c:k∈mc o
   .obtain⟨e,he,d,n⟩:=sr.1 c
    have a:=l e he d;rw[n]at a;rcases ec k ops.size with aH|p
    .rw[oM aH]at a;simp[c,a]
    .rw[CC p]at a;cases a
   .simp[c]
  rw[this];exact Nat.beq_refl _
 .rintro⟨hi,h⟩
  simp only[jQ,dk,ib]at h;have b:ops[i]? =some ops[i]:=by simp[hi]
  refine⟨by rw[oM hi];exact h.1,ops[i],b,λe he d=>?_⟩;have a:=g3 h.2;rw[sq hc b]at a;have f:m.testBit e.on=true:=yL a (by
   rw[ln];simp only[cu];exact sr.2 ⟨e,he,d,rfl⟩)
  have aH:e.on<ops.size:=by
   rcases ec e.on ops.size with h|h
   .exact h
   .rw[j _ h]at f;cases f
  rw[oM aH];exact f
theorem yN:∀ (N:Nat) {m:Nat}{is:O Nat},kk bK m is N=true->∀k,k<N->jQ bK m k=true->k∈is
 |0,_,_,_,k,d,_=>by omega
 |N+1,m,is,h,k,d,b=>by
  simp only[kk,dk,ie,ib]at h
  rcases ec k N with c|c
  .exact yN N h.2 k c b
  .have:k=N:=by omega
   subst this
   rcases h.1 with a|a
   .obtain⟨x,hx,e⟩:=List.any_eq_true.1 a
    rw[g3 e];exact hx
   .rw[b]at a;cases a
theorem ni(hc:kL bK D K ops=true){m:Nat}{is:O Nat}(a:Small ops.size m)(h:kk bK m is ops.size=true):
 ∀k∈Region.ready .any ops (dW ops.size m),k∈is:=λk b=>
 let ⟨c,d⟩:=(su hc a).1 b
 yN _ h k c d
theorem yO:∀ (b c d:O Nat) (n:O Nat) (e i f g j k:Nat) (l a m:Nat),qx n e i f g j b c d=true->b[k]? =some l->c[k]? =some a->d[k]? =some m->
 e.testBit (j+k)=true\/i=j+k\/l.testBit i=true\/(f&&&(m|||a)=0/\a&&&g=0)
 | [],_,_,_,_,_,_,_,_,_,_,_,_,_,h,_,_=>by simp at h
 |_::_,[],_,_,_,_,_,_,_,_,_,_,_,_,_,h,_=>by simp at h
 |_::_,_::_,[],_,_,_,_,_,_,_,_,_,_,_,_,_,h=>by simp at h
 |r::b,s::c,t::d,n,e,i,f,g,j,k,l,a,m,hc,o,p,q=>by
  simp only[qx,dk,ie]at hc
  cases k with
  |zero=>
   simp only[lY,Option.some.injEq]at o p q
   subst o p q
   rcases hc.1 with h|h|h|h
   .exact .inl h
   .exact .inr (.inl (g3 h))
   .exact .inr (.inr (.inl h))
   .exact .inr (.inr (.inr ⟨g3 h.1,g3 h.2⟩))
  |succ k=>
   have:=yO b c d n e i f g (j+1) k l a m hc.2 (by simpa using o) (by simpa using p) (by simpa using q)
   rw[show j+(k+1)=j+1+k from I]
   exact this
theorem yP:∀ (a b:O Nat) (i k:Nat) (c e:Nat),sn bK D K i a b=true->a[k]? =some c->b[k]? =some e->
 qx bK.M (jP bK.A (i+k)) (i+k) c e 0 bK.M D K=true
 | [],_,_,_,_,_,_,h,_=>by simp at h
 |_::_,[],_,_,_,_,_,_,h=>by simp at h
 |d::a,j::b,i,k,c,e,hc,f,g=>by
  simp only[sn,dk]at hc
  cases k with
  |zero=>
   simp only[lY,Option.some.injEq]at f g
   subst f g
   exact hc.1
  |succ k=>
   have:=yP a b (i+1) k c e hc.2 (by simpa using f) (by simpa using g)
   rw[show i+(k+1)=i+1+k from I]
   exact this
theorem vL{a b:Nat}(h:a&&&b=0){k:Nat}(c:a.testBit k=true):b.testBit k=false:=by
 have:=congrArg (λx=>x.testBit k) h;simp only[Nat.testBit_and,c,ic,Nat.zero_testBit]at this;exact this
theorem CE{x y:Oper}(b:gX x.dst.toList&&&(gX (y.looksAt ops)|||gX y.dst.toList)=0)(c:gX y.dst.toList&&&gX (x.looksAt ops)=0):
 x.apart ops y=true:=by
 unfold Oper.apart;simp only[dk];refine⟨?_,?_⟩
 .cases hx:x.dst with
  |none=>rfl
  |some d=>
   rw[hx]at b;have a:=vL b (k:=d) (by rw[ln];simp);simp only[lX,ln,qc,kF]at a;simp only[dk,ib,bne_iff_ne,ne_eq];refine⟨by simpa using a.1,λh=>?_⟩;rw[h]at a;simp at a
 .cases e:y.dst with
  |none=>rfl
  |some d=>
   rw[e]at c;have a:=vL c (k:=d) (by rw[ln];simp);simp only[ln,kF]at a;simpa using a
theorem CF(hc:kL bK D K ops=true){m i:Nat}{f:Oper}(hi:ops[i]? =some f)(h:yG bK ops.size m i=true):
 ∀j b,ops[j]? =some b->j≠i->(dW ops.size m).getD j true=false->(∀e∈b.after,Region.binds .any e=true->e.on≠i)->f.apart ops b=true:=by
 intro j b c q g r;have s:=hc;simp only[kL,dk]at hc;obtain⟨hlen,E,t,u,ar⟩:=hc;have F:=g3 hlen;have v:=vK t;have w:=vK u;have l:j<ops.size:=(k6.1 c).1;have n:∀ {k:Nat}{o:Oper},ops[k]? =some o->D[k]? =some (gX o.dst.toList):=λ{k o} d=>by
  rw[←v];simp[yH,d]
 have p:∀ {k:Nat}{o:Oper},ops[k]? =some o->K[k]? =some (gX (o.looksAt ops)):=λ{k o} d=>by
  rw[←w];simp[yI,d]
 have x:=yP D K 0 i _ _ ar (n hi) (p hi);have y:bK.M[j]? =some (jP bK.M j):=by
  unfold jP;have:j<bK.M.length:=by omega
  simp[List.getD,this]
 have:=yO bK.M D K bK.M _ _ _ _ 0 j _ _ _ x y (n c) (p c);simp only[cQ]at this;rcases this with a|a|a|a
 .exfalso
  have z:=g3 h;have A:=vL z a;rw[oM l]at g;simp[Nat.testBit_xor,Nat.testBit_two_pow_sub_one,l,g]at A
 .exact absurd a.symm q
 .exfalso
  rw[sq s c,ln]at a;simp only[cu]at a;obtain⟨e,he,B,C⟩:=sr.1 a;exact r e he B C
 .exact CE a.1 a.2
end
def nj(ops:Array Oper)(b:Array al)(j:Nat):Prop:=
 ∀k ok a,ops[k]? =some ok->ops[j]? =some a->iN ok=true->b.getD k false=true->∃e∈a.after,Region.binds .any e=true/\e.on=k
def kM(P:Program)(ops:Array Oper)(Q:Exit->Act->J->Prop)(n:Nat)(L:Array al->Act->J->Prop):Nat->(J->Prop)->Array al->Act->J->Prop
 |0,_,b,a,w=>L b a w
 |f+1,S,b,a,w=>Region.ready .any ops b≠ []/\
  ∀i∈Region.ready .any ops b,i<n/\wpOp P ops Q i (λc w'=>∃aC:J->Prop,((∀x,aC x->S x)\/nj ops b i)/\aC w'/\kM P ops Q n L f aC (b.setIfInBounds i true) c w') a w
def qA(ops:Array Oper)(n:Nat):Prop:=
 ∀a,HeadInv .any ops n a->∀i,i<n->a.getD i true=false->∀t,n<=t->t∉Region.ready .any ops a
theorem CG(ops:Array Oper):qA ops ops.size:=by
 intro c _ i _ _ t ht a;obtain⟨_,o,b,_⟩:=mem_ready.1 a;have:=(k6.1 b).1;omega
theorem CH{ops:Array Oper}{n:Nat}(hs:Region.sinkB .any ops n=true)(hc:Region.chainB .any ops n=true)(a:n<ops.size):qA ops n:=
 λ_ inv i hi b t ht=>tail_waits hs hc a inv _ i rfl hi b t ht
section
variable {P:Program}{ops:Array Oper}{Q:Exit->Act->J->Prop}{n:Nat}{L:Array al->Act->J->Prop}
theorem YieldsIf.mono{S aC:J->Prop}{o:Oper}{v:aa}{a:Act}(h:YieldsIf P ops S o v a)(hs:∀x,aC x->S x):YieldsIf P ops aC o v a:=
 h.imp (λ⟨b,c⟩=>⟨b,λw d=>c w (hs w d)⟩) id
theorem CI(G:qA ops n){i:Nat}{m:Oper}{v:aa}(hi:ops[i]? =some m)(I:∀ (j:Nat) (o:Oper) cs b,ops[j]? =some o->o.op≠ .select cs b)
 (ae:∀c a w,Q (.panic c) (a.put m.dst v) w->Q (.panic c) a w) (K:i<n) (af:∀d a w,L d a w->∀j∈Region.ready .any ops d,n<=j):
 ∀ (f:Nat) (S T:J->Prop) (d:Array al) (a:Act) (w:J),(∀x,S x->T x)->(iN m=true\/∀x,T x)->HeadInv .any ops n d->
  (∀j r,ops[j]? =some r->j≠i->d.getD j true=false->(∀e∈r.after,Region.binds .any e=true->e.on≠i)->m.apart ops r=true)->
  i∈Region.ready .any ops d->YieldsIf P ops T m v a->S w->
  kM P ops Q n L f S (d.setIfInBounds i true) (a.put m.dst v) w->kM P ops Q n L (f+1) S d a w:=by
 intro f
 induction f with
 |zero=>
  intro S T d a w y M inv _ p z t H;have g:=(mem_ready.1 p).1;refine⟨λh=>(by rw[h]at p;cases p),λj s=>?_⟩;have u:j<n:=by
   rcases ec j n with h|h
   .exact h
   .exact absurd s (G d inv i K g j h)
  refine⟨u,?_⟩;by_cases q:j=i
  .subst q;exact(YieldsIf.mono z y).wpOp hi t ⟨S,.inl λ_ h=>h,t,H⟩
  .have:=af _ _ _ H j (ready_mono s q)
   omega
 |succ f N=>
  intro S T d a w y M inv O p z t H;have g:=(mem_ready.1 p).1;refine⟨λh=>(by rw[h]at p;cases p),λj s=>?_⟩;have u:j<n:=by
   rcases ec j n with h|h
   .exact h
   .exact absurd s (G d inv i K g j h)
  refine⟨u,?_⟩;by_cases q:j=i
  .subst q;exact(YieldsIf.mono z y).wpOp hi t ⟨S,.inl λ_ h=>h,t,H⟩
  .have A:=(H.2 j (ready_mono s q)).2
   obtain⟨R,r,B,ag⟩:=mem_ready.1 s;have U:∀e∈r.after,Region.binds .any e=true->e.on≠i:=λe he D ah=>by
    have A:=ag e he D;rw[ah,getD_both g]at A
    cases A
   have ai:=wpOp_putIf B (O j r B q R U) (λcs b=>I i m cs b hi) (λcs b=>I j r cs b B) ae z A;have V:∀k ok,ops[k]? =some ok->k≠i->(d.setIfInBounds j true).getD k true=false->
    (∀e∈ok.after,Region.binds .any e=true->e.on≠i)->m.apart ops ok=true:=λk ok E aj g ak=>by
    refine O k ok E aj ?_ ak;by_cases W:j=k
    .subst W;exact R
    .rw[getD_set_ne true W]at g;exact g
   refine wpOp_mono (λX w' am=>?_) ai;obtain⟨Y,aC,Z,C,an⟩:=am;have F:=an;rw[←Array.setIfInBounds_comm _ _ q]at F;have ao:nj ops (d.setIfInBounds i true) j->nj ops d j:=λap k ok aq E ar hs l=>ap k ok aq E ar hs (by
    by_cases ab:i=k
    .subst ab
     have:d.getD i true=true:=by
      simp only[Array.getD]at l⊢;split at l
      .rename_i aH;simp[aH]at l⊢;exact l
      .cases l
     rw[this]at g;cases g
    .simp only[Array.getD,Array.size_setIfInBounds]at l⊢
     split at l
     .rename_i aH
      simp only[aH,dif_pos];simp only[Array.getInternal_eq_getElem]at l⊢;rw[Array.getElem_setIfInBounds_ne _ ab];exact l
     .cases l)
   rcases M with hs|ac
   .have ad:∀x,aC x->S x:=by
     rcases Z with h|h
     .exact h
     .exfalso
      obtain⟨e,he,D,au⟩:=h i m r hi B hs (by
       have aH:i<d.size:=by
        rcases ec i d.size with h|h
        .exact h
        .simp[Array.getD,Nat.not_lt.2 h]at g
       simp[Array.getD,aH])
      exact U e he D au
    exact⟨aC,.inl ad,C,N aC T (d.setIfInBounds j true) X w' (λx hx=>y x (ad x hx)) (.inl hs) (inv.set s u) V (ready_mono p (Ne.symm q)) Y C F⟩
   .exact⟨aC,Z.imp id ao,C,N aC T (d.setIfInBounds j true) X w' (λx _=>ac x) (.inr ac) (inv.set s u) V (ready_mono p (Ne.symm q)) Y C F⟩
theorem yQ{g:Nat}(c:∀b a w,L b a w->wpAny P .any ops Q g b a w):
 ∀ (f:Nat) (S:J->Prop) (b:Array al) (a:Act) (w:J),kM P ops Q n L f S b a w->wpAny P .any ops Q (f+g) b a w
 |0,_,b,a,w,h=>by rw[cQ];exact c _ _ _ h
 |f+1,S,b,a,w,h=>by
  rw[show f+1+g=(f+g)+1 from I]
  exact⟨λh0=>absurd h0 h.1,λi hi=>wpOp_mono (λd w' ⟨aC,_,_,e⟩=>yQ c f aC _ d w' e) (h.2 i hi).2⟩
def LE(P:Program)(ops:Array Oper)(Q:Exit->Act->J->Prop)(n:Nat)(b:Array al)(a:Act)(w:J):Prop:=
 (Region.ready .any ops b=[]/\n=ops.size/\Q .normal a w)\/
 (Region.seqB .any ops (ops.size-n) n b=true/\n<ops.size/\wpList P ops Q (ops.toList.drop n) a w)
theorem CJ:∀b a w,LE P ops Q n b a w->∀j∈Region.ready .any ops b,n<=j:=by
 rintro b a w (⟨h,_,_⟩|⟨h,d,_⟩) j c
 .rw[h]at c;cases c
 .exact seqB_ready h j c
theorem CK:∀b a w,LE P ops Q n b a w->wpAny P .any ops Q (ops.size-n) b a w:=by
 rintro b a w (⟨h,d,c⟩|⟨h,d,c⟩)
 .subst d
  rw[mX];exact⟨h,c⟩
 .have:=wpAny_of_seq (md:=.any) (P:=P) (Q':=Q) (ops.toList.drop n) n b a w (λj=>by simp[rR]) (by simpa using h) c
  simpa using this
end
section
variable {P:Program}{tk:TypeId->dt}{ops:Array Oper}{n:Nat}{bK:jO}{D0 dI:O Nat}{W:Nat->Prop}
theorem yR(hc:kL bK D0 dI ops=true):∀ (g k m:Nat),Small ops.size m->k+g=ops.size->qz bK g k ops.size m=true->Region.seqB .any ops g k (dW ops.size m)=true
 |0,k,m,c,e,h=>by
  simp only[qz]at h
  simp only[Region.seqB,List.isEmpty_iff]
  cases f:Region.ready .any ops (dW ops.size m) with
  |nil=>rfl
  |cons x l=>
   have:=ni hc c h x (by rw[f];simp)
   cases this
 |g+1,k,m,c,e,h=>by
  simp only[qz,dk]at h
  simp only[Region.seqB,dk,cu]
  have d:k<ops.size:=by omega
  have b:k∈Region.ready .any ops (dW ops.size m):=(su hc c).2 ⟨d,h.1.1⟩
  refine⟨?_,?_⟩
  .have a:=ni hc c h.1.2
   have dM:(Region.ready .any ops (dW ops.size m)).Nodup:=by
    unfold Region.ready;exact List.Pairwise.filter _ List.nodup_range
   revert b a dM
   generalize Region.ready .any ops (dW ops.size m)=l;intro b a dM
   match l,b,a,dM with
   | [],b,_,_=>cases b
   | [x],b,a,_=>rw[fi.1 (a x (by simp))]
   |x::y::l,_,a,dM=>
    have hx:=fi.1 (a x (by simp));have i:=fi.1 (a y (by simp));simp[hx,i]at dM
  .rw[so]
   exact yR hc g (k+1) (m|||2^k) (ss c d) I h.2
theorem CL(hc:kL bK D0 dI ops=true)(ao:qA ops n)(aJ:n<=ops.size)(ap:Region.noSelect ops=true){a0:Act}(ae:∀d∈bA ops.toList,d<a0.tmps.size):
 ∀ (t:aF) (W:Nat->Prop) (f:Nat) (m:Nat) (K:Env->J->Prop) (e:Env) (a:Act) (w:J),c6 e a->dC (bA ops.toList) a0 a->Small ops.size m->HeadInv .any ops n (dW ops.size m)->
  dy P tk ops n bK W t f m K e w->kM P ops (fY a0 (bA ops.toList) K) n (LE P ops (fY a0 (bA ops.toList) K) n) f (af W w) (dW ops.size m) a w:=by
 intro t;have R:∀ (i:Nat) (o:Oper),ops[i]? =some o->∀k,o.dst=some k->k∈bA ops.toList:=by
  intro i o z k g;simp only[bA,List.mem_filterMap];exact⟨o,by simpa using Array.mem_of_getElem? z,g⟩
 have S:∀ (W:Nat->Prop) (t:aF),(∀ (W:Nat->Prop) (f:Nat) (m:Nat) (K:Env->J->Prop) (e:Env) (a:Act) (w:J),c6 e a->dC (bA ops.toList) a0 a->Small ops.size m->HeadInv .any ops n (dW ops.size m)->
  dy P tk ops n bK W t f m K e w->kM P ops (fY a0 (bA ops.toList) K) n (LE P ops (fY a0 (bA ops.toList) K) n) f (af W w) (dW ops.size m) a w)->
  ∀ (f:Nat) (m:Nat) (K:Env->J->Prop) (e:Env) (a:Act) (w:J) (i:Nat) (o:Oper),c6 e a->dC (bA ops.toList) a0 a->Small ops.size m->HeadInv .any ops n (dW ops.size m)->
  i∈Region.ready .any ops (dW ops.size m)->i<n->ops[i]? =some o->
  gl ops o e (iM P tk o (λv w'=>af W w w'/\dy P tk ops n bK W t f (m|||2^i) K (cW o.dst v e) w') e w) (dy P tk ops n bK W t f (m|||2^i) K (cW o.dst undef e) w)->
  wpOp P ops (fY a0 (bA ops.toList) K) i (λak w'=>∃aC:J->Prop,((∀x,aC x->af W w x)\/nj ops (dW ops.size m) i)/\aC w'/\kM P ops (fY a0 (bA ops.toList) K) n (LE P ops (fY a0 (bA ops.toList) K) n) f aC ((dW ops.size m).setIfInBounds i true) ak w') a w:=by
  intro W t O f m K e a w i o ar g p inv T L z h;have next:∀ (v:aa) (w':J),af W w w'->dy P tk ops n bK W t f (m|||2^i) K (cW o.dst v e) w'->
   ∃aC:J->Prop,((∀x,aC x->af W w x)\/nj ops (dW ops.size m) i)/\aC w'/\kM P ops (fY a0 (bA ops.toList) K) n (LE P ops (fY a0 (bA ops.toList) K) n) f aC ((dW ops.size m).setIfInBounds i true) (a.put o.dst v) w':=by
   intro v w' aq h;have A:dC (bA ops.toList) a (a.put o.dst v):=dC.put (R i o z);have hinv:=inv.set T L;rw[so]at hinv⊢;exact⟨af W w',.inl λx hx=>aq.trans hx,.refl _ _,O W f _ K _ _ w' (ar.put λk Y=>by rw[g.size];exact ae k (R i o z k Y)) (g.trans A) (ss p I) hinv h⟩
  unfold wpOp;simp only[z];rcases qu ar h with ⟨G,H⟩|⟨G,H⟩
  .simp only[G,if_true]
   exact .inl ((si ar H).wp λv w' ⟨Q,F⟩=>next v w' Q F)
  .simp only[G,fE,if_false]
   exact next _ _ (.refl _ _) H
 have ag:∀ {b c d:al}{X:Prop},(bif b&&(c&&d) then X else False)->b=true/\c=true/\d=true/\X:=by
  intro b c d X h
  cases b<;>cases c<;>cases d<;>first|exact h.elim|exact⟨rfl,rfl,rfl,h⟩
 have ai:∀ {b c:al}{X:Prop},(bif b&&c then X else False)->b=true/\c=true/\X:=by
  intro b c X h
  cases b<;>cases c<;>first|exact h.elim|exact⟨rfl,rfl,h⟩
 have B:∀ {i j:Nat},Nat.blt i j=true->i<j:=λh=>by
  have:=l0 h;omega
 have ne_nil:∀ {m i:Nat},Small ops.size m->jQ bK m i=true->i<ops.size->Region.ready .any ops (dW ops.size m)≠ []:=λp h hi h0=>by
  have:=(su hc p).2 ⟨hi,h⟩;rw[h0]at this;cases this
 induction t with
 |take i t O=>
  intro W f m K e a w ar g p inv h
  cases f with
  |zero=>simp[dy]at h
  |succ f=>
   simp only[dy]at h;obtain⟨Q,F,D,h⟩:=ag h;have L:=B D;have T:i∈Region.ready .any ops (dW ops.size m):=(su hc p).2 ⟨I,Q⟩;split at h
   .rename_i o z
    have fin:∀v,YieldsIf P ops (λx=>iN o=true->af W w x) o v a->dy P tk ops n bK W t f (m|||2^i) K (cW o.dst v e) w->
     kM P ops (fY a0 (bA ops.toList) K) n (LE P ops (fY a0 (bA ops.toList) K) n) (f+1) (af W w) (dW ops.size m) a w:=by
     intro v au h;have A:dC (bA ops.toList) a (a.put o.dst v):=dC.put (R i o z);refine CI ao z (Region.noSelect_spec ap) (λc a w Z=>by cases Z.1) L CJ f (af W w) (λx=>iN o=true->af W w x) _ a w (λ_ h _=>h) (by cases hs:iN o<;>simp) inv (CF hc z F) T au (.refl _ _) ?_;have hinv:=inv.set T L;rw[so]at hinv⊢;exact O W f _ K _ _ w (ar.put λk Y=>by rw[g.size];exact ae k (R i o z k Y)) (g.trans A) (ss p I) hinv h
    rcases qu ar h with ⟨G,H⟩|⟨G,H⟩
    .obtain⟨v,av,aw⟩:=CB ar H
     exact fin v (.inl ⟨G,λw' hc=>av w' hc⟩) aw
    .exact fin undef (.inr ⟨G,rfl⟩) H
   .exact h.elim
 |bZ i t O=>
  intro W f m K e a w ar g p inv h
  cases f with
  |zero=>simp[dy]at h
  |succ f=>
   simp only[dy]at h;obtain⟨C,D,h⟩:=ai h;simp only[dk]at C;have L:=B D;split at h
   .rename_i o z
    refine⟨ne_nil p C.1 I,λj ab=>?_⟩;have aj:j=i:=by simpa using ni hc p C.2 j ab
    subst aj;exact⟨L,S W t O f m K e a w j o ar g p inv ab L z h⟩
   .exact h.elim
 |out i b t O=>
  intro W f m K e a w ar g p inv h
  cases f with
  |zero=>simp[dy]at h
  |succ f=>
   simp only[dy]at h;obtain⟨C,D,N,h⟩:=ag h;simp only[dk]at C;have L:=B D;have N:=g3 N;split at h
   .rename_i o z
    refine⟨ne_nil p C.1 I,λj ab=>?_⟩;have aj:j=i:=by simpa using ni hc p C.2 j ab
    subst aj;refine⟨L,?_⟩;have ax:nj ops (dW ops.size m) j:=by
     intro k ok aK A ay hs am;have az:k<ops.size:=(k6.1 A).1;rw[oM az]at am;have aA:(kj 0 ops.toList&&&m).testBit k=true:=by
      rw[Nat.testBit_and,am,Bool.and_true];exact(yM ops.toList 0 k ok (by simpa using A)).trans hs|>(by simpa using ·)
     have U:(jP bK.M j).testBit k=true:=yL N aA;rw[sq hc ay,ln]at U;simp only[cu]at U;exact sr.1 U
    have next:∀ (v:aa) (w':J) (V:Nat->Prop),dy P tk ops n bK V t f (m|||2^j) K (cW o.dst v e) w'->
     ∃aC:J->Prop,((∀x,aC x->af W w x)\/nj ops (dW ops.size m) j)/\aC w'/\kM P ops (fY a0 (bA ops.toList) K) n (LE P ops (fY a0 (bA ops.toList) K) n) f aC ((dW ops.size m).setIfInBounds j true) (a.put o.dst v) w':=by
     intro v w' V h;have A:dC (bA ops.toList) a (a.put o.dst v):=dC.put (R j o z);have hinv:=inv.set ab L;rw[so]at hinv⊢;exact⟨af V w',.inr ax,.refl _ _,O V f _ K _ _ w' (ar.put λk Y=>by rw[g.size];exact ae k (R j o z k Y)) (g.trans A) (ss p I) hinv h⟩
    unfold wpOp;simp only[z];rcases qu ar h with ⟨G,H⟩|⟨G,H⟩
    .simp only[G,if_true]
     refine .inl ((si ar H).wp λv w' F=>?_)
     cases b with
     |true=>
      obtain⟨V,F⟩:=F;exact next v w' V F
     |false=>exact next v w' W F
    .simp only[G,fE,if_false]
     exact next _ _ W H
   .exact h.elim
 |two i t j u ac ad=>
  intro W f m K e a w ar g p inv h
  cases f with
  |zero=>simp[dy]at h
  |succ f=>
   simp only[dy]at h;obtain⟨C,D,N,h⟩:=ag h;simp only[dk]at C;have hi:=B D;split at h
   .rename_i o q z Z
    refine⟨ne_nil p C.1 I,λk A=>?_⟩;have E:k=i\/k=j:=by simpa using ni hc p C.2 k A
    rcases E with E|E
    .subst E
     exact⟨B D,S W t ac f m K e a w k o ar g p inv A (B D) z h.1⟩
    .subst E
     exact⟨B N,S W u ad f m K e a w k q ar g p inv A (B N) Z h.2⟩
   .exact h.elim
 |three i t j u k x ac ad aB=>
  intro W f m K e a w ar g p inv h
  cases f with
  |zero=>simp[dy]at h
  |succ f=>
   simp only[dy]at h;obtain⟨C,D,aD,h⟩:=ag (d:=_) h;obtain⟨N,U⟩:Nat.blt j n=true/\Nat.blt k n=true:=by simpa using aD
   simp only[dk]at C;have hi:=B D;split at h
   .rename_i o q r z Z aE
    refine⟨ne_nil p C.1 I,λy A=>?_⟩;have E:y=i\/y=j\/y=k:=by simpa using ni hc p C.2 y A
    rcases E with E|E|E
    .subst E
     exact⟨B D,S W t ac f m K e a w y o ar g p inv A (B D) z h.1⟩
    .subst E
     exact⟨B N,S W u ad f m K e a w y q ar g p inv A (B N) Z h.2.1⟩
    .subst E
     exact⟨B U,S W x aB f m K e a w y r ar g p inv A (B U) aE h.2.2⟩
   .exact h.elim
 |sp s t u ac ad=>
  intro W f m K e a w ar g p inv h;have ah:match e.get s with
   |some (.bool c)=>(c=true->dy P tk ops n bK W t f m K ((s,.bool true)::e) w)/\(c=false->dy P tk ops n bK W u f m K ((s,.bool false)::e) w)
   |_=>False:=by cases f<;>simpa only[dy] using h
  split at ah
  .rename_i c hs
   cases c with
   |true=>exact ac W f m K _ a w (ar.lit hs) g p inv (ah.1 rfl)
   |false=>exact ad W f m K _ a w (ar.lit hs) g p inv (ah.2 rfl)
  .exact ah.elim
 |fin=>
  intro W f m K e a w ar g p inv h
  cases f with
  |succ f=>simp[dy]at h
  |zero=>
   simp only[dy]at h;obtain⟨Q,F,h⟩:=ai h;refine .inl ⟨?_,g3 F,rfl,g,e,ar,h⟩
   cases T:Region.ready .any ops (dW ops.size m) with
   |nil=>rfl
   |cons x l=>
    have:=ni hc p Q x (by rw[T];simp)
    cases this
 |tail as=>
  intro W f m K e a w ar g p inv h
  cases f with
  |succ f=>simp[dy]at h
  |zero=>
   simp only[dy]at h;obtain⟨Q,F,h⟩:=ai h;have an:∀k,k∈bA (ops.toList.drop n)->k∈bA ops.toList:=λk g=>by
    simp only[bA,List.mem_filterMap]at g⊢;obtain⟨o,z,g⟩:=g;exact⟨o,ft z,g⟩
   have:=yA _ _ _ K e a w ar (λd hd=>by rw[g.size];exact ae d (an d hd)) h;exact .inr ⟨yR hc _ _ _ p I Q,B F,hV (λx ak w' ⟨aG,aH,aI⟩=>⟨aG,g.trans (aH.mono an),aI⟩) _ _ _ this⟩
theorem CM(ops:Array Oper)(n:Nat):HeadInv .any ops n (Array.replicate ops.size false):=
 ⟨by simp,λj b _ a=>(by rw[getD_replicate_false]at a;cases a),λt _ ht=>getD_in (by simpa using ht) (getD_replicate_false _ _)⟩
def vM(P:Program)(tk:TypeId->dt)(ops:Array Oper)(n:Nat)(a:al)(bK:jO)(D0 dI:O Nat)(t:aF)(K:Env->J->Prop)(e:Env)(w:J):Prop:=
 bif (Region.noSelect ops&&kL bK D0 dI ops)&&(bif Nat.beq n ops.size then true else Nat.blt n ops.size&&(Region.sinkB .any ops n&&Region.chainB .any ops n)) then
  bif a then
   aq w.drew λw1=>∃W:Nat->Prop,dy P tk ops n bK W t n 0 K e w1
  else aq w.drew λw1=>dy P tk ops n bK (λ_=>False) t n 0 K e w1
 else False
theorem CN{id:Nat}{f:al}{t:aF}{K:Env->J->Prop}{e:Env}{a:Act}{w:J}(i:P.follows .mixedOrders=true)
 (ar:c6 e a) (j:∀d∈bA ops.toList,d<a.tmps.size) (h:vM P tk ops n f bK D0 dI t K e w):
 (Code.region id ops true).wp P (fY a (bA ops.toList) K) a w:=by
 unfold vM at h
 cases h0:(Region.noSelect ops&&kL bK D0 dI ops) with
 |false=>rw[h0]at h;exact h.elim
 |true=>
  rw[h0]at h;simp only[ic]at h;simp only[dk]at h0;obtain⟨k,hc⟩:=h0
  cases b:(bif Nat.beq n ops.size then true else Nat.blt n ops.size&&(Region.sinkB .any ops n&&Region.chainB .any ops n)) with
  |false=>rw[b]at h;exact h.elim
  |true=>
   rw[b]at h;simp only[cond_true]at h;have l:qA ops n:=by
    cases c:Nat.beq n ops.size with
    |true=>rw[g3 c];exact CG ops
    |false=>
     rw[c]at b;simp only[cond_false,dk]at b;refine CH b.2.1 b.2.2 ?_;have:=l0 b.1;omega
   have m:n<=ops.size:=by
    cases c:Nat.beq n ops.size with
    |true=>rw[g3 c];exact bk _
    |false=>
     rw[c]at b;simp only[cond_false,dk]at b;have:=l0 b.1;omega
   have key:∀W,dy P tk ops n bK W t n 0 K e w.drew->(Code.region id ops true).wp P (fY a (bA ops.toList) K) a w:=by
    intro W h;refine wp_region_any i ?_;have g:=CL hc l m k j t W n 0 K e a w.drew ar (.refl _ _) (CD _) (by rw[yJ];exact CM ops n) h;rw[yJ]at g;have:=yQ CK _ _ _ _ _ g;rw[show n+(ops.size-n)=ops.size from I]at this;exact this
   cases f with
   |true=>obtain⟨W,h⟩:=h;exact key W h
   |false=>exact key _ h
end
end aP
namespace aP
open Go
inductive aL where
 |leaf
 |oN (as:O jN)
 |sw (n:Nat) (c:al) (bK:jO) (D0 dI:O Nat) (t:aF)
 |seq (a b:aL)
 |cond (a b:aL)
 |bY (a:aL)
 |loop (live:O (Nat×c4)) (dX:O Nat) (a:aL)
 |fl (live:O (Nat×c4)) (dX:O Nat) (a:aL)
def fO:O (Nat×c4)->Type
 | []=>J->Prop
 |(_,l)::r=>l.T->fO r
def me:O (Nat×c4)->Type
 | []=>J->Nat
 |(_,l)::r=>l.T->me r
def oO(l:c4)(v:au aa)(K:l.T->Prop):Prop:=
 match l,v with
 | .int k,some (.int d n)=>bif jk k d then K n else False
 | .bool,some (.bool b)=>K b
 | .str,some (.string s)=>K s
 | .ptr,some (.pointer p)=>K p
 | .slice,some (.slice a n c)=>K ⟨a,n,c⟩
 | .map,some (.map r)=>K r
 | .agg,some (.agg cs)=>K cs
 | .fn,some (.func (.func f) a b)=>K ⟨f,a,b⟩
 | .any,some v=>K v
 |_,_=>False
def fO.app:(live:O (Nat×c4))->fO live->(Nat->au aa)->J->Prop
 | [],k,_,w=>k w
 |(s,l)::r,k,g,w=>oO l (g s) λx=>fO.app r (k x) g w
def fO.lam:(live:O (Nat×c4))->(Env->J->Prop)->fO live
 | [],F=> λw=>F [] w
 |(s,l)::r,F=> λx=>fO.lam r λe w=>F ((s,l.v x)::e) w
def vN:(live:O (Nat×c4))->fO live->me live->(Env->Nat->J->Prop)->Prop
 | [],a,b,F=>∀w,a w->F [] (b w) w
 |(s,l)::r,a,b,F=>∀x:l.T,vN r (a x) (b x) λe m w=>F ((s,l.v x)::e) m w
def vO:(live:O (Nat×c4))->fO live->me live->Nat->(Nat->au aa)->J->Prop
 | [],a,b,m,_,w=>a w/\b w<m
 |(s,l)::r,a,b,m,g,w=>oO l (g s) λx=>vO r (a x) (b x) m g w
def im:(live:O (Nat×c4))->me live->(Nat->au aa)->J->Nat
 | [],d,_,w=>d w
 |(s,l)::r,d,g,w=>
  match l,g s,d with
  | .int _,some (.int _ n),d=>im r (d n) g w
  | .bool,some (.bool b),d=>im r (d b) g w
  | .str,some (.string b),d=>im r (d b) g w
  | .ptr,some (.pointer b),d=>im r (d b) g w
  | .slice,some (.slice a n c),d=>im r (d (ad.mk a n c)) g w
  | .map,some (.map b),d=>im r (d b) g w
  | .agg,some (.agg b),d=>im r (d b) g w
  | .fn,some (.func (.func f) a b),d=>im r (d (g8.mk f a b)) g w
  | .any,some v,d=>im r (d v) g w
  |_,_,_=>0
def writes:Code->O Nat
 | .region _ ops _=>bA ops.toList
 | .seq a b=>writes a++writes b
 | .cond _ a b=>writes a++writes b
 | .block _ a=>writes a
 | .loop a=>writes a
 | .scope a=>writes a
 |_=> []
def qB(dX ws:O Nat):al:=dX.all λs=> !(ws.any λd=>Nat.beq d s)
def nk(e:Env):O Nat->Env
 | []=> []
 |s::ks=>match e.get s with
  |some v=>(s,v)::nk e ks
  |none=>nk e ks
def oP:Env->Env->Env
 | [],f=>f
 |p::e,f=>p::oP e f
def D(P:Program)(tk:TypeId->dt):aL->Code->(Exit->Env->J->Prop)->Env->J->Prop
 | .leaf,c,K,e,w=>
  match c with
  | .skip=>K .normal e w
  | .label _=>K .normal e w
  | .exit id=>K (.exit id) e w
  | .ret=>K .ret e w
  |_=>False
 | .oN as,c,K,e,w=>
  match c with
  | .region _ ops false=>fw P tk ops (ops.size+1) ops.toList as (λd w'=>K .normal d w') e w
  |_=>False
 | .sw n he bK D0 dI t,c,K,e,w=>
  match c with
  | .region _ ops true=>vM P tk ops n he bK D0 dI t (λd w'=>K .normal d w') e w
  |_=>False
 | .seq A B,c,K,e,w=>
  match c with
  | .seq a b=>D P tk A a (λx d w'=>match x with| .normal=>D P tk B b K d w'|x=>K x d w') e w
  |_=>False
 | .cond A B,c,K,e,w=>
  match c with
  | .cond o x y=>match ev e o with
   |some (.bool b)=>(b=true->D P tk A x K e w)/\(b=false->D P tk B y K e w)
   |_=>False
  |_=>False
 | .bY A,c,K,e,w=>
  match c with
  | .block id b=>D P tk A b (λx d w'=>match x with| .exit h=>bif Nat.beq h id then K .normal d w' else K (.exit h) d w'|x=>K x d w') e w
  |_=>False
 | .loop live dX A,c,K,e,w=>
  match c with
  | .loop b=>bif qB dX (writes b) then
   ∃ (f:fO live) (i:me live),fO.app live f e.get w/\
    vN live f i λg m w'=>D P tk A b (λx d j=>match x with| .normal=>vO live f i m d.get j|x=>K x d j) (oP g (nk e dX)) w'
   else False
  |_=>False
 | .fl live dX A,c,K,e,w=>
  bif qB dX (writes c) then
   bX (λk:fO live=>D P tk A c (λx d w'=>match x with| .normal=>fO.app live k d.get w'|x=>K x d w') e w)
    (fO.lam live λg w'=>K .normal (oP g (nk e dX)) w')
  else False
def CO(a:Act)(ds:O Nat)(K:Exit->Env->J->Prop)(x:Exit)(b:Act)(w':J):Prop:=
 dC ds a b/\∃c,c6 c b/\K x c w'
def Sub(e:Env)(g:Nat->au aa):Prop:=∀s v,e.get s=some v->g s=some v
theorem Sub.cons{e:Env}{g:Nat->au aa}{s:Nat}{v:aa}(h:Sub e g)(hs:g s=some v):Sub ((s,v)::e) g:=by
 intro t u ht;rw[nc]at ht;by_cases a:s=t
 .subst a;rw[if_pos rfl]at ht;rw[hs];exact ht
 .rw[if_neg a]at ht;exact h t u ht
theorem Sub.nil{g:Nat->au aa}:Sub [] g:=λ_ _ h=>by cases h
theorem sx{l:c4}{v:au aa}{K:l.T->Prop}(h:oO l v K):∃x:l.T,v=some (l.v x)/\K x:=by
 unfold oO at h;split at h
 .rename_i k b n K
  by_cases a:k=b
  .subst a
   simp only[jk,decide_true,cond_true]at h;exact⟨n,rfl,h⟩
  .simp[jk,a]at h
 all_goals first
  |exact⟨_,rfl,h⟩
  |exact h.elim
theorem yS{l:c4}{v:au aa}{K:l.T->Prop}{x:l.T}(a:v=some (l.v x))(h:K x):oO l v K:=by
 subst a
 cases l<;>simp only[oO,c4.v,jk,decide_true,cond_true]<;>exact h
theorem yT{s:Nat}{l:c4}{r:O (Nat×c4)}{a:me ((s,l)::r)}{g:Nat->au aa}{w:J}{x:l.T}(b:g s=some (l.v x)):
 im ((s,l)::r) a g w=im r (a x) g w:=by
 cases l<;>simp only[im,b,c4.v]<;>rfl
theorem yU:∀ {live:O (Nat×c4)}{F:Env->J->Prop}{g:Nat->au aa}{w:J},fO.app live (fO.lam live F) g w->∃a,Sub a g/\F a w
 | [],F,g,w,h=>⟨[],Sub.nil,h⟩
 |(s,l)::r,F,g,w,h=>by
  obtain⟨x,b,h⟩:=sx h
  obtain⟨a,hs,h⟩:=yU h
  exact⟨(s,l.v x)::a,hs.cons b,h⟩
theorem yV:∀ {live:O (Nat×c4)}{a:fO live}{g g':Nat->au aa}{w:J},(∀s v,g s=some v->g' s=some v)->fO.app live a g w->fO.app live a g' w
 | [],_,_,_,_,_,h=>h
 |(s,l)::r,a,g,g',w,hg,h=>by
  obtain⟨x,b,h⟩:=sx h
  exact yS (hg _ _ b) (yV hg h)
theorem yW:∀ {live:O (Nat×c4)}{b:fO live}{c:me live}{F:Env->Nat->J->Prop}{g:Nat->au aa}{w:J},
 vN live b c F->fO.app live b g w->∃d,Sub d g/\F d (im live c g w) w
 | [],b,c,F,g,w,h,a=>⟨[],Sub.nil,h w a⟩
 |(s,l)::r,b,c,F,g,w,h,a=>by
  obtain⟨x,e,a⟩:=sx a
  obtain⟨d,hs,h⟩:=yW (h x) a
  exact⟨(s,l.v x)::d,hs.cons e,by rw[yT e];exact h⟩
theorem yX:∀ {live:O (Nat×c4)}{a:fO live}{b:me live}{m:Nat}{g g':Nat->au aa}{w:J},
 (∀s v,g s=some v->g' s=some v)->vO live a b m g w->fO.app live a g' w/\im live b g' w<m
 | [],_,_,_,_,_,_,_,h=>h
 |(s,l)::r,a,b,m,g,g',w,hg,h=>by
  obtain⟨x,c,h⟩:=sx h
  obtain⟨d,e⟩:=yX hg h
  exact⟨yS (hg _ _ c) d,by rw[yT (hg _ _ c)];exact e⟩
theorem yY:∀ {e f:Env}{s:Nat}{v:aa},(oP e f).get s=some v->e.get s=some v\/f.get s=some v
 | [],_,_,_,h=>.inr h
 |(k,u)::e,f,s,v,h=>by
  simp only[oP]at h
  rw[nc]at h⊢
  by_cases a:k=s
  .rw[if_pos a]at h⊢;exact .inl h
  .rw[if_neg a]at h⊢;exact yY h
theorem vP{e:Env}:∀ {ks:O Nat}{s:Nat}{v:aa},(nk e ks).get s=some v->s∈ks/\e.get s=some v
 | [],_,_,h=>by cases h
 |k::ks,s,v,h=>by
  simp only[nk]at h
  split at h
  .rename_i u hu
   rw[nc]at h
   by_cases a:k=s
   .rw[if_pos a]at h
    subst a
    exact⟨by simp,by rw[hu];exact h⟩
   .rw[if_neg a]at h
    have:=vP h
    exact⟨by simp[this.1],this.2⟩
  .have:=vP h
   exact⟨by simp[this.1],this.2⟩
theorem yZ{e c:Env}{a b:Act}{dX ws:O Nat}(ar:c6 e a)(f:dC ws a b)(g:qB dX ws=true)(hs:Sub c λs=>b.tmps[s]?):
 c6 (oP c (nk e dX)) b:=by
 constructor;intro s v h;rcases yY h with h|h
 .exact hs s v h
 .obtain⟨i,j⟩:=vP h
  have d:=ou.1 g s i;simp only[ib,p9]at d;rw[f.same s λk=>d s k (Nat.beq_refl s)];exact ar.get s v j
section
variable {P:Program}{tk:TypeId->dt}
theorem iO{c:Code}{Q Q':Exit->Act->J->Prop}{a:Act}{w:J}(h:c.wp P Q a w)(b:∀e a w,Q e a w->Q' e a w):c.wp P Q' a w:=wp_mono h b
theorem sy(R:P.follows .mixedOrders=true):∀ (A:aL) (c:Code) (K:Exit->Env->J->Prop) (e:Env) (a:Act) (w:J),c6 e a->(∀d∈writes c,d<a.tmps.size)->
 D P tk A c K e w->c.wp P (CO a (writes c) K) a w:=by
 intro A
 induction A with
 |leaf=>
  intro c K e a w ar k h;simp only[D]at h;split at h
  .exact wp_skip ⟨.refl _ _,e,ar,h⟩
  .exact wp_label ⟨.refl _ _,e,ar,h⟩
  .exact wp_exit ⟨.refl _ _,e,ar,h⟩
  .exact wp_ret ⟨.refl _ _,e,ar,h⟩
  .exact h.elim
 |oN as=>
  intro c K e a w ar k h;simp only[D]at h;split at h
  .rename_i id ops
   have:=yA _ _ _ _ e a w ar k h;refine wp_region_list (hV ?_ _ _ _ this);rintro x z w' ⟨rfl,f,F,G,H⟩;exact⟨f,F,G,H⟩
  .exact h.elim
 |sw n he bK D0 dI t=>
  intro c K e a w ar k h;simp only[D]at h;split at h
  .rename_i id ops
   refine iO (CN R ar k h) ?_;rintro x z w' ⟨rfl,f,F,G,H⟩;exact⟨f,F,G,H⟩
  .exact h.elim
 |seq A B I L=>
  intro c K e a w ar k h;simp only[D]at h;split at h
  .rename_i x y
   have hx:∀d,d∈writes x->d∈writes (.seq x y):=λd hd=>by simp[writes,hd]
   have C:∀d,d∈writes y->d∈writes (.seq x y):=λd hd=>by simp[writes,hd]
   refine wp_seq (iO (I x _ e a w ar (λd hd=>k d (hx d hd)) h) ?_);rintro ex a1 w1 ⟨f,j,i,g⟩
   cases ex with
   |normal=>
    refine iO (L y K j a1 w1 i (λd hd=>by rw[f.size];exact k d (C d hd)) g) ?_;rintro ex a2 ai ⟨m,r,p,q⟩;exact⟨(f.mono hx).trans (m.mono C),r,p,q⟩
   |exit id=>exact⟨f.mono hx,j,i,g⟩
   |goto l=>exact⟨f.mono hx,j,i,g⟩
   |ret=>exact⟨f.mono hx,j,i,g⟩
   |panic ch=>exact⟨f.mono hx,j,i,g⟩
   |outgrown=>exact⟨f.mono hx,j,i,g⟩
  .exact h.elim
 |cond A B I L=>
  intro c K e a w ar k h;simp only[D]at h;split at h
  .rename_i o x y
   have hx:∀d,d∈writes x->d∈writes (.cond o x y):=λd hd=>by simp[writes,hd]
   have C:∀d,d∈writes y->d∈writes (.cond o x y):=λd hd=>by simp[writes,hd]
   split at h
   .rename_i b S
    refine wp_cond_split (ar.ev S) (λM=>?_) (λM=>?_)
    .refine iO (I x K e a w ar (λd hd=>k d (hx d hd)) (h.1 M)) ?_
     rintro ex a2 ai ⟨m,r,p,q⟩;exact⟨m.mono hx,r,p,q⟩
    .refine iO (L y K e a w ar (λd hd=>k d (C d hd)) (h.2 M)) ?_
     rintro ex a2 ai ⟨m,r,p,q⟩;exact⟨m.mono C,r,p,q⟩
   .exact h.elim
  .exact h.elim
 |bY A E=>
  intro c K e a w ar k h;simp only[D]at h;split at h
  .rename_i id b
   refine wp_block (iO (E b _ e a w ar k h) ?_);rintro ex a1 w1 ⟨f,j,i,g⟩
   cases ex with
   |exit N=>
    simp only[Exit.inBlock];by_cases O:N=id
    .subst O
     simp only[Nat.beq_refl,cond_true]at g;rw[if_pos rfl];exact⟨f,j,i,g⟩
    .have:Nat.beq N id=false:=by
      cases T:Nat.beq N id
      .rfl
      .exact absurd (g3 T) O
     simp only[this,cond_false]at g;rw[if_neg O];exact⟨f,j,i,g⟩
   |normal=>exact⟨f,j,i,g⟩
   |goto l=>exact⟨f,j,i,g⟩
   |ret=>exact⟨f,j,i,g⟩
   |panic ch=>exact⟨f,j,i,g⟩
   |outgrown=>exact⟨f,j,i,g⟩
  .exact h.elim
 |loop live dX A E=>
  intro c K e a w ar k h;simp only[D]at h;split at h
  .rename_i b
   cases u:qB dX (writes b) with
   |false=>rw[u]at h;exact h.elim
   |true=>
    rw[u]at h;obtain⟨U,V,h0,W⟩:=h;refine wp_loop (λz w'=>dC (writes b) a z/\fO.app live U (λs=>z.tmps[s]?) w') (λz w'=>im live V (λs=>z.tmps[s]?) w')
     ⟨.refl _ _,yV (λs v hs=>ar.get s v hs) h0⟩ ?_
    rintro a1 w1 ⟨f,X⟩;obtain⟨Y,hs,Q⟩:=yW W X;refine iO (E b _ _ a1 w1 (yZ ar f u hs) (λd hd=>by rw[f.size];exact k d hd) Q) ?_;rintro ex a2 ai ⟨m,r,p,q⟩
    cases ex with
    |normal=>
     obtain⟨Z,aa⟩:=yX (g':=λs=>a2.tmps[s]?) (λs v hs=>p.get s v hs) q;exact⟨⟨f.trans m,Z⟩,aa⟩
    |exit id=>exact⟨f.trans m,r,p,q⟩
    |goto l=>exact⟨f.trans m,r,p,q⟩
    |ret=>exact⟨f.trans m,r,p,q⟩
    |panic ch=>exact⟨f.trans m,r,p,q⟩
    |outgrown=>exact⟨f.trans m,r,p,q⟩
  .exact h.elim
 |fl live dX A E=>
  intro c K e a w ar k h;simp only[D]at h
  cases u:qB dX (writes c) with
  |false=>rw[u]at h;exact h.elim
  |true=>
   rw[u]at h;simp only[cond_true]at h;have h:=h.out;refine iO (E c _ e a w ar k h) ?_;rintro ex a1 w1 ⟨f,j,i,g⟩
   cases ex with
   |normal=>
    obtain⟨Y,hs,Q⟩:=yU g;exact⟨f,_,yZ ar f u (λs v h=>i.get s v (hs s v h)),Q⟩
   |exit id=>exact⟨f,j,i,g⟩
   |goto l=>exact⟨f,j,i,g⟩
   |ret=>exact⟨f,j,i,g⟩
   |panic ch=>exact⟨f,j,i,g⟩
   |outgrown=>exact⟨f,j,i,g⟩
def lp(P:Program)(tk:TypeId->dt):O ResultVar->Env->J->(O aa->Prop)->Prop
 | [],_,_,K=>K []
 | .tmp t::r,e,w,K=>match e.get t with
  |some v=>lp P tk r e w λvs=>K (v::vs)
  |none=>False
 | .cell t T::r,e,w,K=>match e.get t with
  |some (.pointer (some A))=>oG P tk T A w λv=>lp P tk r e w λvs=>K (v::vs)
  |_=>False
def oQ:O aa->aa
 | [v]=>v
 |vs=>.tuple vs.toArray
def y0(P:Program)(tk:TypeId->dt)(a:O ResultVar)(R:aa->J->Prop)(x:Exit)(e:Env)(w:J):Prop:=
 match x with
 | .normal=>lp P tk a e w λvs=>R (oQ vs) w
 | .ret=>lp P tk a e w λvs=>R (oQ vs) w
 |_=>False
def nm:Nat->O aa->Env
 |_,[]=> []
 |i,v::vs=>(i,v)::nm (i+1) vs
def oR(P:Program)(tk:TypeId->dt)(A:aL)(fn:Func)(args:O aa)(w:J)(R:aa->J->Prop):Prop:=
 match fn.body with
 |some c=>D P tk A c (y0 P tk fn.results.toList R) (nm 0 args) w
 |none=>False
def nn(fn:Func)(n:Nat):al:=
 match fn.body with
 |some c=>(writes c).all (λd=>Nat.blt d fn.ntmps)&&Nat.ble n fn.ntmps
 |none=>false
theorem vQ:∀ {vs:O aa}{i s:Nat}{v:aa},(nm i vs).get s=some v->i<=s/\vs[s-i]? =some v
 | [],_,_,_,h=>by cases h
 |u::vs,i,s,v,h=>by
  simp only[nm]at h
  rw[nc]at h
  by_cases a:i=s
  .subst a
   rw[if_pos rfl]at h
   simpa using h
  .rw[if_neg a]at h
   obtain⟨c,b⟩:=vQ h
   refine⟨I,?_⟩
   rw[show s-i=(s-(i+1))+1 from I]
   simpa using b
def qC(tmps:Array aa)(r:ResultVar):Sem aa:=
 match r with
 | .tmp t=>pure (tmps.getD t undef)
 | .cell x t=>do loadVar t (←asAddr (tmps.getD x undef))
theorem lq{a:Act}:∀ {f:O ResultVar}{e:Env}{w:J}{K:O aa->Prop},c6 e a->lp P tk f e w K->
 ∃vs,(f.mapM (qC a.tmps)).run P w=.ok vs w/\K vs
 | [],_,_,_,_,h=>⟨[],by simp,h⟩
 | .tmp t::r,e,w,K,ar,h=>by
  simp only[lp]at h
  split at h
  .rename_i v b
   obtain⟨vs,c,d⟩:=lq ar h
   refine⟨v::vs,?_,d⟩
   have ht:a.tmps.getD t undef=v:=by simp[Array.getD_eq_getD_getElem?,ar.get _ _ b]
   simp only[List.mapM_cons,qC,Sem.run_bind,Sem.run_pure,Result.andThen,ht]
   rw[c]
  .exact h.elim
 | .cell t T::r,e,w,K,ar,h=>by
  simp only[lp]at h
  split at h
  .rename_i A b
   obtain⟨v,g,h⟩:=yw h
   obtain⟨vs,c,d⟩:=lq ar h
   refine⟨v::vs,?_,d⟩
   have ht:a.tmps.getD t undef=.pointer (some A):=by simp[Array.getD_eq_getD_getElem?,ar.get _ _ b]
   have i:(loadVar T A).run P w=.ok v w:=by simpa[Instr.loadAt,Instr.sureAddr] using g
   simp only[List.mapM_cons,qC,Sem.run_bind,Sem.run_pure,Result.andThen,ht,asAddr,i]
   rw[c]
  .exact h.elim
theorem np{fn:Func}{tmps:Array aa}{w:J}{vs:O aa}
 (h:(fn.results.toList.mapM (qC tmps)).run P w=.ok vs w):
 (results fn tmps).run P w=.ok (oQ vs) w:=by
 have a:results fn tmps=(do let vs ←fn.results.mapM (qC tmps);pure (if h:vs.size=1 then vs[0] else .tuple vs)):=rfl;rw[a,Array.mapM_eq_mapM_toList];simp only[Sem.run_bind,Sem.run_map];rw[h];simp only[Result.andThen,Sem.run_pure]
 congr 1
 match vs with
 | []=>rfl
 | [v]=>rfl
 |u::v::vs=>simp[oQ]
theorem CP{f:FuncId}{fn:Func}{A:aL}{args:O aa}{w:J}{R:aa->J->Prop}(n:P.follows .mixedOrders=true)
 (hf:P.funcs[f]? =some fn) (g:nn fn args.length=true) (h:oR P tk A fn args w R):
 Calls P f args.toArray w λe w'=>∃v,e=.returned v/\R v w':=by
 unfold oR at h;unfold nn at g
 cases i:fn.body with
 |none=>rw[i]at h;exact h.elim
 |some c=>
  rw[i]at h g;simp only[dk]at h g;obtain⟨o,p⟩:=g;have y:=l0 p;refine calls_of_wp hf i ?_;have q:(args.toArray++Array.replicate (fn.ntmps-args.toArray.size) undef).size=fn.ntmps:=by simp;omega
  have ar:c6 (nm 0 args) {tmps:=args.toArray++Array.replicate (fn.ntmps-args.toArray.size) undef,defers:=[]}:=by
   constructor;intro s v hs;obtain⟨_,b⟩:=vQ hs;simp only[mY]at b;have aH:s<args.length:=(iI.1 b).1;simp[Array.getElem?_append,aH];rw[dr aH]at b;exact Option.some.inj b
  refine iO (sy n A c _ _ _ w ar (λd hd=>?_) h) ?_
  .have r:=ou.1 o d hd
   have b:=l0 r;show d<(args.toArray++Array.replicate (fn.ntmps-args.toArray.size) undef).size;rw[q];omega
  .rintro x t w' ⟨u,z,m,a⟩
   have hd:t.defers=[]:=u.defers
   cases x with
   |normal=>
    obtain⟨vs,j,k⟩:=lq m a;exact⟨hd,_,np j,_,rfl,k⟩
   |ret=>
    obtain⟨vs,j,k⟩:=lq m a;exact⟨hd,_,np j,_,rfl,k⟩
   |exit id=>exact a.elim
   |goto l=>exact a.elim
   |panic ch=>exact a.elim
   |outgrown=>exact a.elim
end
end aP
namespace aP
open Go Go.ChangeShapes Go.WideShapes Go.ChangeAt Go.RowKit
def kl(P:Program)(w:J):Nat->TypeId->O aa->Prop
 |0,_,_=>False
 |fuel+1,t,cs=>
  match P.underlying t with
  |some .bool=>∃b:al,cs=[.bool b]
  |some (.int k)=>∃n:Int,cs=[.int k n]/\k.min<=n/\n<=k.max
  |some .string=>∃s:ByteArray,cs=[.string s]/\s.size<=maxLen
  |some (.slice e)=>∃s:ad,cs=[.slice s.a s.len s.cap]/\s.len<=s.cap/\s.cap<=maxLen/\(s.a=none->s.cap=0)/\
   ∀a,s.a=some a->∀i,i<s.cap->∃vs,bV w (a.add (i*P.cellsOf e)) 0 (P.cellsOf e)=some vs/\kl P w fuel e vs
  |some (.struct fs)=>cs.length=P.cellsOf t/\∀f∈fs,kl P w fuel f.type ((cs.drop f.offset).take (P.cellsOf f.type))
  |some (.array n e)=>cs.length=P.cellsOf t/\∀i,i<n->kl P w fuel e ((cs.drop (i*P.cellsOf e)).take (P.cellsOf e))
  |some (.pointer e)=>cs=[.pointer none]\/∃a vs,cs=[.pointer (some a)]/\bV w a 0 (P.cellsOf e)=some vs/\kl P w fuel e vs
  |_=>True
theorem mapM_some{α β:Type}{f:α->au β}:∀ {l:O α}{r:O β},l.mapM f=some r->∀x∈l,∃y,f x=some y
 | [],_,_,_,hx=>by cases hx
 |a::l,r,h,x,hx=>by
  simp only[List.mapM_cons]at h
  cases c:f a with
  |none=>simp[c]at h
  |some b=>
   cases d:l.mapM f with
   |none=>simp[c,d]at h
   |some e=>
    rcases cN.1 hx with rfl|hx
    .exact⟨b,c⟩
    .exact mapM_some d x hx
theorem y1{w:J}{a:ah}:∀ (n i:Nat) (vs:O aa),((List.range' i n).mapM λj=>w.cell? (a.add j))=some vs->bV w a i n=some vs
 |0,i,vs,h=>by simp at h;simp[bV,h]
 |n+1,i,vs,h=>by
  simp only[List.range'_succ,List.mapM_cons]at h
  cases b:w.cell? (a.add i) with
  |none=>simp[b]at h
  |some v=>
   cases c:((List.range' (i+1) n).mapM λj=>w.cell? (a.add j)) with
   |none=>simp[b,c]at h
   |some us=>
    simp[b,c]at h
    have:=y1 n (i+1) us c
    simp[bV,b,this,h]
theorem y2{w:J}{base:Nat}{a:ah}{n:Nat}{vs:O aa}(h:w.cells? base a n=some vs):bV w a 0 n=some vs:=by
 unfold World.cells? at h;split at h
 .rw[rS]at h
  exact y1 n 0 vs h
 .cases h
section
variable {H:Type}{enc:TypeId×aa->H}{P:Program}{w:J}
theorem qD:∀ (fuel:Nat) (t:TypeId) (cs:O aa) (x:DataW H×O MemPlace),DataW.trod enc P w 0 (λ_=>true) true fuel t cs=some x->kl P w fuel t cs
 |0,_,_,_,h=>by cases h
 |fuel+1,t,cs,x,h=>by
  simp only[DataW.trod]at h
  simp only[kl]
  cases ht:P.underlying t with
  |none=>trivial
  |some d=>
   rw[ht]at h
   cases d<;>try trivial
   case bool=>
    match cs,h with
    | [.bool b],_=>exact⟨b,rfl⟩
   case int k=>
    match cs,h with
    | [.int u n],h=>
     simp only at h
     split at h
     .rename_i g
      obtain⟨rfl,o⟩:=g
      exact⟨n,rfl,by simpa[Lit.wf] using o⟩
     .cases h
   case string=>
    match cs,h with
    | [.string s],h=>
     simp only at h
     split at h
     .rename_i g;exact⟨s,rfl,g⟩
     .cases h
   case pointer e=>
    match cs,h with
    | [.pointer none],_=>exact .inl rfl
    | [.pointer (some a)],h=>
     simp only[rT]at h
     obtain⟨y,c,_⟩:=h
     obtain⟨vs,l,m⟩:=Option.bind_eq_some_iff.1 c
     exact .inr ⟨a,vs,rfl,y2 l,qD fuel e vs _ m⟩
   case slice e=>
    match cs,h with
    | [.slice none 0 0],_=>exact⟨⟨none,0,0⟩,rfl,bk _,cO _,(λ_=>rfl),(λa p=>by cases p)⟩
    | [.slice (some a) len cap],h=>
     simp only at h
     split at h
     .rename_i g
      refine⟨⟨some a,len,cap⟩,rfl,g.2.1,g.2.2,(λh0=>by cases h0),λv q i hi=>?_⟩
      obtain⟨elems,he,h⟩:=Option.bind_eq_some_iff.1 h
      simp only[if_true,rT]at h
      obtain⟨rest,r,_⟩:=h
      cases q
      have key:∃y,((w.cells? 0 (a.add (i*P.cellsOf e)) (P.cellsOf e)).bind (DataW.trod enc P w 0 (λ_=>true) true fuel e))=some y:=by
       rcases ec i len with j|j
       .exact mapM_some he i (jG.2 j)
       .obtain⟨y,c⟩:=mapM_some r (i-len) (jG.2 (by simp only at hi;omega))
        rw[show len+(i-len)=i from I]at c;exact⟨y,c⟩
      obtain⟨y,c⟩:=key;obtain⟨vs,l,m⟩:=Option.bind_eq_some_iff.1 c;exact⟨vs,y2 l,qD fuel e vs _ m⟩
     .cases h
   case struct fs=>
    simp only at h;split at h
    .rename_i j
     refine⟨j,λf hf=>?_⟩;simp only[rT]at h;obtain⟨ys,c,_⟩:=h;obtain⟨y,c⟩:=mapM_some c f (by simpa using hf);exact qD fuel _ _ _ c
    .cases h
   case array n e=>
    simp only at h;split at h
    .rename_i j
     refine⟨j,λi hi=>?_⟩;simp only[rT]at h;obtain⟨ys,c,_⟩:=h;obtain⟨y,c⟩:=mapM_some c i (jG.2 hi);exact qD fuel _ _ _ c
    .cases h
def qE(P:Program)(w:J)(t:TypeId)(v:aa):Prop:=
 match P.underlying t with
 |some (.struct _)=>∃cs:Array aa,v=.agg cs/\∃fuel,kl P w fuel t cs.toList
 |some (.array _ _)=>∃cs:Array aa,v=.agg cs/\∃fuel,kl P w fuel t cs.toList
 |_=>∃fuel,kl P w fuel t [v]
theorem CQ{r:Reach}{b:Nat}{t:TypeId}{v:aa}{d:DataW H}{ps:O MemPlace}(jR:Value.okWide P w r b t v)
 (hd:DataW.Trod enc P w 0 (λ_=>true) true t v d ps):qE P w t v:=by
 obtain⟨fuel,hd⟩:=hd;have a:=qD fuel t _ _ hd;unfold qE;unfold Value.okWide at jR;have c:(∀cs,v≠ .agg cs)->v.cells.toList=[v]:=λh=>by cases v<;>first|rfl|exact absurd rfl (h _)
 cases ht:P.underlying t with
 |none=>
  rw[ht]at jR
  cases fuel with
  |zero=>cases hd
  |succ f=>exact⟨1,by simp[kl,ht]⟩
 |some g=>
  rw[ht]at jR
  cases g
  case struct fs=>obtain⟨cs,rfl,_,_⟩:=jR;exact⟨cs,rfl,fuel,a⟩
  case array n e=>obtain⟨cs,rfl,_,_⟩:=jR;exact⟨cs,rfl,fuel,a⟩
  all_goals
   refine⟨fuel,?_⟩;rw[←c]
   .exact a
   .rintro cs rfl
    simp[Cell.okWide,Cell.ok,ht]at jR
theorem y3{w w':J}(h:af (λ_=>False) w w'):Below w.heap.size w w':=
 ⟨h.os,h.tape,h.output,h.size,λk a=>h.block k a (λh=>h)⟩
theorem CR{f:Func}{s:ChangeSpec}{apart fresh handsOn again:al}{W W':J}{args:Array aa}{T:TypeId}{ds gs:O (DataW H)}{before pa eI:O MemPlace}
 (cp:DataW.Whole enc P f.params.toList s.vars apart W args.toList ds gs before) (d:P.underlying T=some .bool) (e:f.resultTypes= #[T])
 (hs:s.fn H (ds++gs)={results:=[.lit (.bool true)],args:=ds})
 (sA:∀sp:Nat->al,(∀p∈before,sp p.block=true)->DataW.TrodAll enc P W' 0 sp true f.params.toList args.toList ds pa)
 (l:∀sp:Nat->al,(∀p∈before,sp p.block=true)->DataW.TrodVars enc P W' sp s.vars [] eI)
 (c:before=pa++eI) (m:af (λ_=>False) W W'):
 s.post enc P f apart fresh handsOn again W args (.bool true) W':=by
 have g:=y3 m;have aH:∀p∈before,p.block<W.heap.size:=λp a=>cp.lt p a;have hold:∀p∈before,(λb=>decide (b<W.heap.size)) p.block=true:=λp a=>by simpa using aH p a
 have h:∀ (b:Nat) (sp:Nat->al) (hd:al),DataW.TrodAll enc P W' b sp hd f.resultTypes.toList ((Value.bool true).resultList f.resultTypes.size) (s.fn H (ds++gs)).results []:=by
  intro b sp hd;rw[hs,e];exact trodAll_cons_mk (shut_bool d true) trodAll_mk0
 have i:∀sp:Nat->al,(∀p∈before,sp p.block=true)->DataW.TrodAll enc P W' 0 sp true f.params.toList args.toList (s.fn H (ds++gs)).args pa:=by
  intro sp iq;rw[hs];exact sA sp iq
 have j:∀sp:Nat->al,(∀p∈before,sp p.block=true)->DataW.TrodVars enc P W' sp s.vars (s.fn H (ds++gs)).vars eI:=by
  intro sp iq;rw[hs];exact l sp iq
 refine⟨ds,gs,before,[],pa,eI,cp,h _ _ _,i _ hold,j _ hold,World.keptBut_mono (λp a=>⟨a,?_⟩) (g.frame (· ∈before)),λ_=>?_⟩
 .rw[c,cD]at a
  exact Or.inr a
 .obtain⟨_,_,_,_,_,n,o⟩:=cp
  refine⟨ok_one e rfl (okWide_bool_mk d _),_,_,([]++pa)++eI,⟨[]++pa,eI,trodAll_append (i _ (λ_ _=>rfl)) (h _ _ _),j _ (λ_ _=>rfl),rfl,?_,?_⟩,?_⟩
  .intro b off a
   have k:MemPlace.cell b off∈before:=by rw[c];simpa using a
   rw[g.frozen (aH _ k)];exact n b off k
  .intro q
   have:=o q;rw[c]at this;simpa using this
  .intro p a _
   rw[c];simpa using a
theorem CS{t:TypeId}(a:laidOutB P=true)(b:P.readableRec t=true)(c:t<P.types.size){W W':J}{v:aa}{d:DataW H}{ps:O MemPlace}{sp:Nat->al}
 (h:DataW.Trod enc P W 0 (λ_=>true) true t v d ps) (e:af (λ_=>False) W W') (aH:∀x∈ps,x.block<W.heap.size) (hs:∀p∈ps,sp p.block=true):
 DataW.Trod enc P W' 0 sp true t v d ps:=
 WideElems.Trod_stays a b c h (λx hx=>(y3 e).same (aH x hx)) hs
end
end aP
namespace aP
open Go Go.RowKit
def aJ(P:Program)(f:FuncId)(args:Array aa)(w:J)(Q:aa->J->Prop):Prop:=
 Calls P f args w λe w1=>∃v,e=.returned v/\Q v w1
theorem aJ.use{P:Program}{f:FuncId}{args:Array aa}{w:J}{Q:aa->J->Prop}{R:Ending->J->Prop}
 (h:aJ P f args w Q) (k:∀v w',Q v w'->R (.returned v) w'):Calls P f args w R:=
 Calls.mono h λ_ _ ⟨v,a,b⟩=>by subst a;exact k v _ b
theorem aJ.mono{P:Program}{f:FuncId}{args:Array aa}{w:J}{Q R:aa->J->Prop}
 (h:aJ P f args w Q) (k:∀v w',Q v w'->R v w'):aJ P f args w R:=
 aJ.use h λv _ a=>⟨v,rfl,k _ _ a⟩
abbrev Ext(w w':J):Prop:=af (λ_=>False) w w'
theorem af.c7{W:Nat->Prop}{w w':J}(h:Ext w w'):af W w w':=af.mono h λ_ _ h=>h.elim
theorem af.drew{W:Nat->Prop}{w w':J}(h:af W w w'):af W w w'.drew:=⟨h.os,h.tape,h.output,h.size,h.block⟩
theorem af.alloc{W:Nat->Prop}{w w':J}(h:af W w w')(o:Obj):af W w (w'.alloc o):=
 h.trans ⟨rfl,rfl,rfl,by simp,λk a _=>Below.heap_alloc _ _ _ a⟩
theorem af.set{W:Nat->Prop}{w w':J}(h:af W w w'){A:ah}(b:A.block<w.heap.size->W A.block)(v:aa):af W w (w'.setCell A v):=
 ⟨h.os,h.tape,h.output,by simp only[World.setCell,Array.size_modify];exact h.size,λk a cp=>by
  rw[Below.heap_setCell _ _ _ _ (λe=>cp (by subst e;exact b a))];exact h.block k a cp⟩
theorem af.setCells{W:Nat->Prop}{w:J}{A:ah}(a:A.block<w.heap.size->W A.block):∀ (vs:O aa) (i:Nat) {w':J},af W w w'->af W w (setCells w' A i vs)
 | [],_,_,h=>h
 |v::vs,i,w',h=>by
  have b:(A.add i).block=A.block:=by unfold Addr.add;split<;>rfl
  exact af.setCells a vs (i+1) (af.set h (by rw[b];exact a) v)
theorem aB(b o n:Nat):(Addr.mk b o none).add n=⟨b,o+n,none⟩:=by
 unfold Addr.add;split
 .rename_i h;subst h;rfl
 .rfl
def bf(w:J)(b:Nat)(c:Array aa)(T:TypeId):Prop:=w.heap[b]? =some (.cells c T (0,0))
section
variable {w w':J}{b i:Nat}{c:Array aa}{T:TypeId}
theorem bf.lt(h:bf w b c T):b<w.heap.size:=(k6.1 h).1
theorem bf.cell(h:bf w b c T)(i:Nat):w.cell? ⟨b,i,none⟩=c[i]? :=by
 unfold bf at h;simp[World.cell?,h]
theorem bf.frozen(h:bf w b c T)(A:ah)(ar:A.block=b):w.frozen? A=false:=by
 unfold bf at h;simp[World.frozen?,ar,h]
theorem bf.ag{W:Nat->Prop}(h:bf w b c T)(hc:af W w w')(a:¬W b):bf w' b c T:=by
 have d:=h.lt;unfold bf at h⊢;rw[hc.block b d a];exact h
theorem bf.ext(h:bf w b c T)(hc:Ext w w'):bf w' b c T:=h.ag hc id
theorem bf.drew(h:bf w b c T):bf w.drew b c T:=h
theorem bf.new(w:J)(c:Array aa)(T:TypeId):bf (w.alloc (.cells c T)) w.heap.size c T:=by
 show(w.heap.push (.cells c T))[w.heap.size]? =some (.cells c T (0,0));simp
theorem bf.set(h:bf w b c T)(i:Nat)(v:aa):bf (w.setCell ⟨b,i,none⟩ v) b (c.setIfInBounds i v) T:=by
 unfold bf at h⊢;simp[World.setCell,rQ,h]
def fP(c:Array aa)(i:Nat):O aa->Array aa
 | []=>c
 |v::vs=>fP (c.setIfInBounds i v) (i+1) vs
theorem g_:∀ (vs:O aa) (c:Array aa) (i:Nat),(fP c i vs).size=c.size
 | [],_,_=>rfl
 |v::vs,c,i=>by simp[fP,g_ vs]
theorem bf.qF:∀ (vs:O aa) {w:J}{c:Array aa} (i j:Nat),bf w b c T->bf (setCells w ⟨b,i,none⟩ j vs) b (fP c (i+j) vs) T
 | [],_,_,_,_,h=>h
 |v::vs,w,c,i,j,h=>by
  simp only[setCells,fP,aB]
  have:=bf.qF vs i (j+1) (h.set (i+j) v)
  rw[show i+(j+1)=i+j+1 from I]at this
  exact this
theorem bf.cd(h:bf w b c T)(i:Nat)(vs:O aa)(d:i+vs.length<=c.size)(a:∀v∈vs,Plain v):bC w ⟨b,i,none⟩ vs:=by
 refine⟨λj e=>?_,a⟩;rw[aB,h.cell,h.frozen _ rfl];have:i+j<c.size:=by omega
 simp[this]
end
theorem kN{B:(J->Prop)->Prop}{rest:J->Prop}(a:J->Prop)(b:∀k:J->Prop,(∀w,a w->k w)->B k)(c:∀w,a w->rest w):bX B rest:=⟨b rest c⟩
theorem cz{a:Type}{B:(a->J->Prop)->Prop}{rest:a->J->Prop}(b:a->J->Prop)(c:∀k:a->J->Prop,(∀x w,b x w->k x w)->B k)(d:∀x w,b x w->rest x w):bX B rest:=⟨c rest d⟩
theorem sB{a b:Type}{B:(a->b->J->Prop)->Prop}{rest:a->b->J->Prop}(c:a->b->J->Prop)(d:∀k:a->b->J->Prop,(∀x y w,c x y w->k x y w)->B k)(e:∀x y w,c x y w->rest x y w):bX B rest:=⟨d rest e⟩
theorem CT.of{P:Program}{w:J}{T:TypeId}{k:IntKind}{v:aa}(h:qE P w T v)(a:P.underlying T=some (.int k)):∃n:Int,v=.int k n/\k.min<=n/\n<=k.max:=by
 simp only[qE,a]at h;obtain⟨fuel,h⟩:=h
 cases fuel with
 |zero=>cases h
 |succ f=>
  simp only[kl,a]at h;obtain⟨n,b,c,d⟩:=h;exact⟨n,by simpa using b,c,d⟩
theorem bw{n:Int}(h0: -9223372036854775808<=n)(a:n<=9223372036854775807):IntKind.i64.wrap n=n:=by
 by_cases h:0<=n
 .exact vx h a
 .have e:n%18446744073709551616=n+18446744073709551616:=by omega
  simp[IntKind.wrap,IntKind.signed,IntKind.bits,e];omega
end aP
namespace aP
open Go Go.RowKit
structure Src(sz:Nat)(w:J)(x:ad)(xs:O aa):Prop where
 len:xs.length=x.len*sz
 nil:x.a=none->xs=[]
 rd:∀a,x.a=some a->bV w a 0 (x.len*sz)=some xs
def aV(sz:Nat)(T:TypeId)(w:J)(s:ad)(vs:O aa):Prop:=
 vs.length=s.len*sz/\s.len<=s.cap/\s.cap<=maxLen/\
 ((s.a=none/\s.cap=0)\/∃b c,s.a=some ⟨b,0,none⟩/\bf w b c T/\c.size=s.cap*sz/\c.toList.take (s.len*sz)=vs)
def ay(s:ad)(k:Nat):Prop:=∃A,s.a=some A/\A.block=k
theorem y4{w:J}{A:ah}:∀ {n i:Nat}{vs:O aa},bV w A i n=some vs->vs.length=n
 |0,_,_,h=>by simp[bV]at h;simp[←h]
 |n+1,i,vs,h=>by
  simp only[bV]at h
  cases a:w.cell? (A.add i) with
  |none=>simp[a]at h
  |some v=>
   cases b:bV w A (i+1) n with
   |none=>simp[a,b]at h
   |some us=>
    simp only[a,b,Option.some.injEq]at h
    subst h
    simp[y4 b]
theorem oS{w:J}{b:Nat}{c:Array aa}{T:TypeId}(h:bf w b c T):∀ (n o i:Nat),o+i+n<=c.size->bV w ⟨b,o,none⟩ i n=some ((c.toList.drop (o+i)).take n)
 |0,o,i,_=>by simp[bV]
 |n+1,o,i,g=>by
  have a:o+i<c.size:=by omega
  have d:=oS h n o (i+1) I
  simp only[bV,aB,h.cell,d]
  have e:c[o+i]? =some c[o+i]:=by simp[a]
  rw[e]
  simp only[Option.some.injEq]
  have f:c.toList.drop (o+i)=c[o+i]::c.toList.drop (o+i+1):=by
   rw[k7 (by simpa using a)];simp
  rw[f];simp[Nat.add_assoc]
theorem aV.src{sz:Nat}{T:TypeId}{w:J}{s:ad}{vs:O aa}(h:aV sz T w s vs):Src sz w s vs:=by
 obtain⟨f,j,m,i⟩:=h;refine⟨f,λg=>?_,λa d=>?_⟩
 .rcases i with ⟨_,hc⟩|⟨b,c,e,_⟩
  .have:s.len=0:=by omega
   rw[this,Nat.zero_mul]at f;exact k8.1 f
  .rw[g]at e;cases e
 .rcases i with ⟨g,_⟩|⟨b,c,e,k,hs,l⟩
  .rw[g]at d;cases d
  .rw[e]at d
   cases d;have:=oS k (s.len*sz) 0 0 (by rw[hs];simp;exact mZ _ j);rw[this];simp[l]
section
variable {P:Program}{w:J}
theorem oT{sz:Nat}{x:ad}{xs:O aa}(h:Src sz w x xs):(Builtin.firstCells sz x.len (.slice x.a x.len x.cap)).run P w=.ok xs.toArray w:=by
 cases hx:x.a with
 |none=>rw[h.nil hx];rfl
 |some a=>
  simp only[Builtin.firstCells,loadCells];rw[run_loadCellsFrom _ _ _ _ (h.rd a hx)];simp
theorem y5(a:Nat):∀ (r c:Nat),c<=2*a+1000->Builtin.growBy a r c<=2*a+1000
 |0,c,h=>h
 |r+1,c,h=>by
  simp only[Builtin.growBy]
  split
  .exact h
  .exact y5 a r _ I
theorem y6{a cap:Nat}(h:cap<a):Builtin.nextslicecap a cap<=2*a+1000:=by
 unfold Builtin.nextslicecap;split
 .omega
 .split
  .omega
  .exact y5 a 4 cap I
theorem vR{fN:Array TypeId}{dD dP jm e:TypeId}{d:TypeDesc}{sz:Nat}{s x:ad}{xs:O aa}(h0:fN[0]? =some dP)(c:fN[1]? =some jm)
 (hs:P.underlying dP=some (.slice e)) (hx:P.underlying jm=some (.slice e)) (he:P.underlying e=some d) (h:P.cellsOf e=sz) (i:Src sz w x xs)
 (f:s.len+x.len<=s.cap) (j:∀a,s.a=some a->bC w (a.add (s.len*sz)) xs):
 Sem.run P (Builtin.append_ fN dD #[.slice s.a s.len s.cap,.slice x.a x.len x.cap]) w=
  .ok (.slice s.a (s.len+x.len) s.cap) (match s.a with|some a=>setCells w (a.add (s.len*sz)) 0 xs|none=>w):=by
 have hf:=oT (P:=P) i;have b:=gH (w:=w) he;rw[h]at b
 cases k:s.a with
 |none=>
  simp[Builtin.append_,h0,c,cP hs,cP hx,b,Builtin.lenOf,f,hf]
 |some a=>
  have g:=j a k;have:=oF (P:=P) (A:=a.add (s.len*sz)) xs 0 w (by simpa using g.1) g.2;simp[Builtin.append_,h0,c,cP hs,cP hx,b,Builtin.lenOf,f,hf,this]
theorem run_append_grow{fN:Array TypeId}{dD dP jm e:TypeId}{i:TypeInfo}{z:aa}{sz:Nat}{s x:ad}{xs c:O aa}(h0:fN[0]? =some dP)(k:fN[1]? =some jm)
 (hs:P.underlying dP=some (.slice e)) (hx:P.underlying jm=some (.slice e)) (hi:P.info? e=some i) (hd:(P.underlying e).isSome=true) (l:i.zero=some z) (m:z.cells.size=sz) (o:P.cellsOf e=sz)
 (p:i.bytes≠0) (f:Src sz w x xs) (hold:Src sz w s c) (r:s.cap<s.len+x.len) (t:(2*(s.len+x.len)+1000)*i.bytes<=281474976710656):
 ∃ (b:Nat) (rest:O aa),s.len+x.len<=b/\b<=maxLen/\rest.length=(b-(s.len+x.len))*sz/\
  Sem.run P (Builtin.append_ fN dD #[.slice s.a s.len s.cap,.slice x.a x.len x.cap]) w=
   .ok (.slice (some ⟨w.heap.size,0,none⟩) (s.len+x.len) b) (w.drew.alloc (.cells (c++xs++rest).toArray e)):=by
 obtain⟨d,hd⟩:=jl _ hd;have h:=gH (w:=w) hd;rw[o]at h;have u:=y6 r;have R:Builtin.nextslicecap (s.len+x.len) s.cap*i.bytes<=281474976710656:=eH (mZ _ u) t;have S:s.len+x.len<=281474976710656:=by
  have:s.len+x.len<=(2*(s.len+x.len)+1000)*i.bytes:=by
   have:=Nat.mul_le_mul_left (2*(s.len+x.len)+1000) (Nat.one_le_iff_ne_zero.2 p);omega
  omega
 let q:Question:=.appendCap (s.len+x.len) s.cap e
 let b:Nat:=q.cut (w.tape w.drawn q)
 have v:q.forced=false:=rfl;have A:s.len+x.len<=b:=by show s.len+x.len<=s.len+x.len+_;omega
 have B:b<=maxLen:=by
  show s.len+x.len+_%(2^63-(s.len+x.len))<=2^63-1;have:=g4 (w.tape w.drawn q) (y:=2^63-(s.len+x.len)) I;omega
 have C:Src sz w.drew x xs:=⟨f.len,f.nil,λa g=>by
  have:=f.rd a g;have hc:af (λ_=>False) w w.drew:=af.drew (.refl _ _);exact hc.bV (by simp) _ _ _ this⟩
 have D:Src sz w.drew s c:=⟨hold.len,hold.nil,λa g=>by
  have:=hold.rd a g;have hc:af (λ_=>False) w w.drew:=af.drew (.refl _ _);exact hc.bV (by simp) _ _ _ this⟩
 have hf:=oT (P:=P) C;have E:=oT (P:=P) D;have F:∀n (w':J),(askRoom n).run P w'=.ok () w':=λn w'=>by unfold askRoom;split<;>rfl
 have G:(choose q).run P w=.ok b w.drew:=by
  show Sem.run P (.choose q .pure) w=_;simp only[Sem.run,v,fE,if_false];rfl
 have j:=λw:J=>l8 (w:=w) hi;refine⟨b,(Builtin.zeroCells z.cells (b-(s.len+x.len))).toList,A,B,by simp[Builtin.zeroCells,m],?_⟩;have H:¬(s.len+x.len<=s.cap):=by omega
 have K:¬((s.len+x.len:Nat):Int)>IntKind.i64.max:=by
  simp[IntKind.max,IntKind.signed,IntKind.bits];omega
 have L:¬(281474976710656<Builtin.nextslicecap (s.len+x.len) s.cap*i.bytes):=by omega
 have M:¬Builtin.nextslicecap (s.len+x.len) s.cap*i.bytes>2^48:=by simpa using L
 unfold Builtin.append_;simp only[qd,lY,List.getElem?_cons_succ,h0,k,Sem.run_bind,cP hs,cP hx,Result.andThen,h,Builtin.lenOf,Sem.run_pure,H,if_false,fE,j,K,false_and,M,Bool.not_false,if_true];have N:Sem.run P (choose (.appendCap (s.len+x.len) s.cap e)) w=.ok b w.drew:=G;simp only[N,F,hf,E,zeroValue,j,l,Sem.run_bind,Result.andThen,Sem.run_pure,newRow,newObj,Sem.run];have Q:w.drew.heap.size=w.heap.size:=rfl;rw[Q]
 congr 1
 show w.drew.alloc _=w.drew.alloc _
 congr 2
 simp
theorem qG:∀ (vs:O aa) (c:Array aa) (i:Nat),i+vs.length<=c.size->(fP c i vs).toList.take (i+vs.length)=c.toList.take i++vs
 | [],c,i,_=>by simp[fP]
 |v::vs,c,i,h=>by
  simp only[fF]at h
  simp only[fP]
  have:=qG vs (c.setIfInBounds i v) (i+1) (by simpa using (by omega:i+1+vs.length<=c.size))
  rw[show i+(v::vs).length=i+1+vs.length by simp;omega,this]
  have hi:i<c.size:=by omega
  have a:(c.setIfInBounds i v).toList.take (i+1)=c.toList.take i++ [v]:=by
   rw[kG (by simpa using hi)];have b:(List.take i c.toList).set i v=List.take i c.toList:=by
    apply List.set_eq_of_length_le;simp only[cE];omega
   simp[List.take_set,b]
  rw[a];simp
theorem CU{fN:Array TypeId}{dD dP jm e:TypeId}{i:TypeInfo}{z:aa}{sz:Nat}{s x:ad}{xs vs:O aa}(h0:fN[0]? =some dP)(t:fN[1]? =some jm)
 (hs:P.underlying dP=some (.slice e)) (hx:P.underlying jm=some (.slice e)) (hi:P.info? e=some i) (hd:(P.underlying e).isSome=true) (D:i.zero=some z) (E:z.cells.size=sz) (u:P.cellsOf e=sz)
 (F:i.bytes≠0) (f:Src sz w x xs) (y:aV sz e w s vs) (G:∀v∈xs,Plain v) (H:(2*(s.len+x.len)+1000)*i.bytes<=281474976710656):
 ∃ (g:ad) (w':J),Sem.run P (Builtin.append_ fN dD #[.slice s.a s.len s.cap,.slice x.a x.len x.cap]) w=.ok (.slice g.a g.len g.cap) w'/\
  aV sz e w' g (vs++xs)/\g.len=s.len+x.len/\af (ay s) w w'/\(∀k,ay g k->ay s k\/w.heap.size<=k):=by
 have hold:=y.src;obtain⟨h,V,K,B⟩:=y;by_cases j:s.len+x.len<=s.cap
 .have L:∀a,s.a=some a->bC w (a.add (s.len*sz)) xs:=by
   intro a l;rcases B with ⟨o,_⟩|⟨b,c,m,p,n,C⟩
   .rw[o]at l;cases l
   .rw[m]at l
    cases l;rw[aB];refine p.cd _ _ ?_ G;rw[n,f.len,cQ,←jd];exact mZ _ j
  obtain⟨d,hd⟩:=jl _ hd;have q:=vR (dD:=dD) h0 t hs hx hd u f j L;refine⟨⟨s.a,s.len+x.len,s.cap⟩,_,q,?_,rfl,?_,λk r=>.inl r⟩
  .refine⟨by simp[h,f.len,jd],j,K,?_⟩
   rcases B with ⟨o,hc⟩|⟨b,c,m,p,n,C⟩
   .exact .inl ⟨o,hc⟩
   .refine .inr ⟨b,fP c (s.len*sz) xs,m,?_,by rw[g_];exact n,?_⟩
    .simp only[m,aB]
     have:=bf.qF (T:=e) xs (0+s.len*sz) 0 p;simpa using this
    .have M:s.len*sz+xs.length<=c.size:=by
      rw[n,f.len,←jd];exact mZ _ j
     have:=qG xs c (s.len*sz) M;rw[f.len,←jd]at this;rw[this,C]
  .cases N:s.a with
   |none=>exact .refl _ _
   |some a=>
    refine af.setCells (λ_=>?_) xs 0 (.refl _ _);exact⟨a,N,by unfold Addr.add;split<;>rfl⟩
 .obtain⟨Q,rest,R,S,U,q⟩:=run_append_grow (dD:=dD) h0 t hs hx hi hd D E u F f hold I H
  refine⟨⟨some ⟨w.heap.size,0,none⟩,s.len+x.len,Q⟩,_,q,?_,rfl,af.alloc (af.drew (.refl _ _)) _,?_⟩
  .refine⟨by simp[h,f.len,jd],R,S,.inr ⟨w.heap.size,(vs++xs++rest).toArray,rfl,bf.new w.drew _ _,?_,?_⟩⟩
   .simp[h,f.len,U]
    rw[←jd,←jd]
    congr 1
    omega
   .have:(vs++xs).length=(s.len+x.len)*sz:=by simp[h,f.len,jd]
    show List.take ((s.len+x.len)*sz) (vs++xs++rest).toArray.toList=vs++xs;rw[←this];exact List.take_left
  .rintro k ⟨A,ar,r⟩
   cases ar;exact .inr (by simpa using r▸bk _)
end
theorem aV.ag{sz:Nat}{T:TypeId}{w w':J}{s:ad}{vs:O aa}{W:Nat->Prop}(h:aV sz T w s vs)(hc:af W w w')(e:∀k,ay s k->¬W k):aV sz T w' s vs:=by
 obtain⟨f,g,i,a⟩:=h;refine⟨f,g,i,?_⟩;rcases a with a|⟨b,c,d,j,l,m⟩
 .exact .inl a
 .exact .inr ⟨b,c,d,j.ag hc (e b ⟨_,d,rfl⟩),l,m⟩
theorem Src.ag{sz:Nat}{w w':J}{s:ad}{vs:O aa}{W:Nat->Prop}(h:Src sz w s vs)(hc:af W w w')(c:∀k,ay s k->¬W k):Src sz w' s vs:=
 ⟨h.len,h.nil,λa b=>hc.bV (c _ ⟨a,b,rfl⟩) _ _ _ (h.rd a b)⟩
theorem aV.lt{sz:Nat}{T:TypeId}{w:J}{s:ad}{vs:O aa}(h:aV sz T w s vs):∀k,ay s k->k<w.heap.size:=by
 rintro k ⟨A,ar,rfl⟩;obtain⟨_,_,_,a⟩:=h;rcases a with ⟨d,_⟩|⟨b,c,e,f,_⟩
 .rw[d]at ar;cases ar
 .rw[e]at ar;cases ar;exact f.lt
theorem aV.cell{T:TypeId}{w:J}{s:ad}{vs:O aa}(h:aV 1 T w s vs){i:Nat}{v:aa}(d:vs[i]? =some v):
 ∃b c,s.a=some ⟨b,0,none⟩/\bf w b c T/\c.size=s.cap/\i<s.len/\i<c.size/\w.cell? ⟨b,i,none⟩=some v/\c.toList.take s.len=vs:=by
 obtain⟨k,l,m,g⟩:=h;have hi:i<s.len:=by
  have:=(iI.1 d).1;omega
 rcases g with ⟨_,hc⟩|⟨b,c,j,e,f,ht⟩
 .omega
 .rw[fj]at f ht
  refine⟨b,c,j,e,f,hi,I,?_,ht⟩;rw[e.cell];rw[←ht,rU]at d;rw[if_pos hi]at d;simpa using d
theorem aV.set{T:TypeId}{w:J}{s:ad}{vs:O aa}{b i:Nat}(h:aV 1 T w s vs)(d:s.a=some ⟨b,0,none⟩)(v:aa):
 aV 1 T (w.setCell ⟨b,i,none⟩ v) s (vs.set i v):=by
 obtain⟨f,g,j,k⟩:=h;refine⟨by simpa using f,g,j,.inr ?_⟩;rcases k with ⟨l,_⟩|⟨o,c,e,m,n,ht⟩
 .rw[l]at d;cases d
 .rw[d]at e
  cases e;refine⟨b,_,d,m.set i v,by simpa using n,?_⟩;rw[←ht];simp[List.take_set]
def y7(P:Program)(dP e:TypeId)(sz bytes:Nat):al:=
 match P.underlying dP,P.info? e,P.underlying e with
 |some (.slice a),some i,some _=>a==e&&(match i.zero with|some z=>z.cells.size==sz|none=>false)&&P.cellsOf e==sz&&i.bytes==bytes&&bytes !=0
 |_,_,_=>false
structure hW(P:Program)(dP e:TypeId)(sz bytes:Nat):Prop where
 h:y7 P dP e sz bytes=true
theorem hW.out{P:Program}{dP e:TypeId}{sz bytes:Nat}(h:hW P dP e sz bytes):
 P.underlying dP=some (.slice e)/\∃i z,P.info? e=some i/\(P.underlying e).isSome=true/\i.zero=some z/\z.cells.size=sz/\P.cellsOf e=sz/\i.bytes=bytes/\bytes≠0:=by
 have h:=h.h;unfold y7 at h;split at h
 .rename_i m i d b c f
  simp only[dk,jH,bne_iff_ne]at h;obtain⟨⟨⟨⟨rfl,a⟩,g⟩,j⟩,k⟩:=h;split at a
  .rename_i z l
   exact⟨b,i,z,c,by simp[f],l,by simpa using a,g,j,k⟩
  .cases a
 .cases h
theorem hW.append{P:Program}{w:J}{dP e dD:TypeId}{sz bytes:Nat}{s x:ad}{xs vs:O aa}(h:hW P dP e sz bytes)
 (d:Src sz w x xs) (f:aV sz e w s vs) (g:∀v∈xs,Plain v) (j:(2*(s.len+x.len)+1000)*bytes<=281474976710656):
 ∃ (b:ad) (w':J),Sem.run P (Builtin.append_ #[dP,dP] dD #[.slice s.a s.len s.cap,.slice x.a x.len x.cap]) w=.ok (.slice b.a b.len b.cap) w'/\
  aV sz e w' b (vs++xs)/\b.len=s.len+x.len/\af (ay s) w w'/\(∀k,ay b k->ay s k\/w.heap.size<=k):=by
 obtain⟨c,i,z,l,m,n,o,p,rfl,q⟩:=h.out;exact CU rfl rfl c c l m n o p q d f g j
theorem Src.new{sz:Nat}{T:TypeId}(w:J)(xs:O aa)(n:Nat)(b:xs.length=n*sz):Src sz (w.alloc (.cells xs.toArray T)) ⟨some ⟨w.heap.size,0,none⟩,n,n⟩ xs:=by
 refine⟨b,(λh=>by cases h),λa c=>?_⟩
 cases c;rw[oS (bf.new w xs.toArray T) _ _ _ (by simp[b])];simp[←b]
theorem aV.new{sz:Nat}{T:TypeId}(w:J)(xs:O aa)(n:Nat)(a:xs.length=n*sz)(b:n<=maxLen):aV sz T (w.alloc (.cells xs.toArray T)) ⟨some ⟨w.heap.size,0,none⟩,n,n⟩ xs:=by
 refine⟨a,bk _,b,.inr ⟨_,_,rfl,bf.new w _ _,by simp[a],?_⟩⟩;show List.take (n*sz) xs=xs;rw[←a,jI]
theorem aV.none(sz:Nat)(T:TypeId)(w:J):aV sz T w ⟨.none,0,0⟩ []:=⟨by simp,bk _,by decide,.inl ⟨rfl,rfl⟩⟩
theorem fZ(k:Nat):¬ay ⟨.none,0,0⟩ k:=by rintro⟨A,ar,_⟩;cases ar
theorem oU{A:ah}{n m k:Nat}:ay ⟨some A,n,m⟩ k↔A.block=k:=⟨λ⟨B,a,h⟩=>by cases a;exact h,λh=>⟨_,rfl,h⟩⟩
theorem Src.alloc{sz:Nat}{w:J}{s:ad}{vs:O aa}(h:Src sz w s vs)(o:Obj):Src sz (w.alloc o) s vs:=h.ag (W:=λ_=>False) (af.alloc (.refl _ _) o) (λ_ _ h=>h)
theorem aV.ext{sz:Nat}{T:TypeId}{w w':J}{s:ad}{vs:O aa}(h:aV sz T w s vs)(hc:Ext w w'):aV sz T w' s vs:=h.ag hc λ_ _ h=>h
theorem Src.ext{sz:Nat}{w w':J}{s:ad}{vs:O aa}(h:Src sz w s vs)(hc:Ext w w'):Src sz w' s vs:=h.ag hc λ_ _ h=>h
theorem hW.push{P:Program}{w:J}{dP e dD:TypeId}{sz bytes:Nat}{s:ad}{vs xs:O aa}(h:hW P dP e sz bytes)(hx:xs.length=sz)
 (c:aV sz e w s vs) (d:∀v∈xs,Plain v) (f:(2*(s.len+1)+1000)*bytes<=281474976710656):
 ∃ (b:ad) (w':J),Sem.run P (Builtin.append_ #[dP,dP] dD #[.slice s.a s.len s.cap,.slice (some ⟨w.heap.size,0,none⟩) 1 1]) (w.alloc (.cells xs.toArray e))=.ok (.slice b.a b.len b.cap) w'/\
  aV sz e w' b (vs++xs)/\b.len=s.len+1/\af (ay s) w w'/\(∀k,ay b k->ay s k\/w.heap.size<=k):=by
 have hc:Ext w (w.alloc (.cells xs.toArray e)):=af.alloc (.refl _ _) _;obtain⟨b,w',g,i,j,l,m⟩:=h.append (dD:=dD) (Src.new (T:=e) w xs 1 (by simpa using hx)) (c.ext hc) d f;exact⟨b,w',g,i,j,(af.c7 hc).trans l,λk n=>(m k n).imp id (λh=>by simp at h;omega)⟩
theorem hW.clone{P:Program}{w:J}{dP e dD:TypeId}{sz bytes:Nat}{x:ad}{xs:O aa}(h:hW P dP e sz bytes)
 (o:Src sz w x xs) (t:∀v∈xs,Plain v) (u:(2*x.len+1000)*bytes<=281474976710656):
 ∃ (f:ad) (w':J),Sem.run P (Builtin.append_ #[dP,dP] dD #[.slice (some ⟨w.heap.size,0,none⟩) 0 0,.slice x.a x.len x.cap]) (w.alloc (.cells #[] e))=.ok (.slice f.a f.len f.cap) w'/\
  aV sz e w' f xs/\f.len=x.len/\Ext w w'/\(∀k,ay f k->w.heap.size<=k)/\f.a.isSome=true:=by
 have y:=aV.new (sz:=sz) (T:=e) w [] 0 (by simp) (by decide);have p:=o.alloc (.cells #[] e);obtain⟨f,w',g,l,q,j,B⟩:=h.append (dD:=dD) p y t (by simpa using u);refine⟨f,w',g,by simpa using l,by simpa using q,?_,λk m=>?_,?_⟩
 .refine⟨j.os.trans rfl,j.tape.trans rfl,j.output.trans rfl,?_,λk m _=>?_⟩
  .have:=j.size;simp at this;omega
  .rw[j.block k (by simp;omega) (by rintro⟨A,ar,h⟩;cases ar;simp at h;omega)]
   exact Below.heap_alloc _ _ _ m
 .rcases B k m with ⟨A,ar,h⟩|h
  .cases ar;simp at h;omega
  .simp at h;omega
 .obtain⟨_,i,z,H,C,I,K,D,rfl,L⟩:=h.out
  have n:=l.2.2.2;rcases n with ⟨E,hc⟩|⟨b,c,n,_⟩
  .
   exfalso;have M:=l.2.1;have r:x.len=0:=by simp at q;omega
   have F:xs=[]:=k8.1 (by rw[o.len,r,Nat.zero_mul]);obtain⟨d,hd⟩:=jl _ C;have:=vR (P:=P) (w:=w.alloc (.cells #[] e)) (fN:= #[dP,dP]) (dD:=dD) (s:=⟨some ⟨w.heap.size,0,Option.none⟩,0,0⟩) rfl rfl h.out.1 h.out.1 hd D p (by simp[r]) (λa _=>by
    rw[F];exact⟨λi hi=>by simp at hi,λv G=>by simp at G⟩)
   rw[this]at g;simp only[Result.ok.injEq,Value.slice.injEq]at g;rw[E]at g
   cases g.1.1
  .rw[n];rfl
theorem aV.at{T:TypeId}{w:J}{s:ad}{vs:O aa}(h:aV 1 T w s vs){i:Nat}{v:aa}(g:vs[i]? =some v):
 ∃A:ah,s.a=some A/\((0:Int)<=(i:Int)/\(i:Int)<((s.len:Nat):Int))/\w.cell? (A.add (Int.toNat (i:Int)*1))=some v/\w.frozen? (A.add (Int.toNat (i:Int)*1))=false/\
  ay s (A.add (Int.toNat (i:Int)*1)).block/\∀d,aV 1 T (w.setCell (A.add (Int.toNat (i:Int)*1)) d) s (vs.set i d):=by
 obtain⟨b,c,f,j,k,hi,l,hc,_⟩:=h.cell g;have e:(Addr.mk b 0 Option.none).add (Int.toNat (i:Int)*1)=⟨b,i,Option.none⟩:=by rw[fj,dm,aB,cQ]
 exact⟨_,f,⟨I,I⟩,by rw[e];exact hc,by rw[e];exact j.frozen _ rfl,by rw[e];exact⟨_,f,rfl⟩,λd=>by rw[e];exact h.set f d⟩
end aP
namespace aP
open Go Go.RowKit
def y8(ns:O Int):ByteArray:=ns.foldl (λr n=>r.push (UInt8.ofNat n.toNat)) ByteArray.empty
theorem CV{P:Program}{w:J}{src dst e:TypeId}{s:ad}{ns:O Int}(hs:P.underlying src=some (.slice e))(he:P.underlying e=some (.int .u8))(hd:P.underlying dst=some .string)
 (h:Src 1 w s (ns.map (.int .u8))):Sem.run P (convert src dst (.slice s.a s.len s.cap)) w=.ok (.string (y8 ns)) w:=by
 rw[run_convert_bytes_string w src dst e s.a s.len s.cap hs he hd]
 cases b:s.a with
 |none=>
  have:=h.nil b;have d:ns=[]:=by simpa using this
  subst d;rfl
 |some A=>
  have c:=h.rd A b;rw[fj]at c;exact run_bytesToString w A s.len s.cap ns (by
   unfold loadCells;rw[run_loadCellsFrom _ _ _ _ c];simp)
theorem y9{P:Program}{e:TypeId}{v:aa}(a:((P.info? e).bind (·.zero)).map (·.cells)=some #[v])(hc:P.cellsOf e=1)(n:Nat):gy P e n=(List.replicate n v).toArray:=by
 unfold gy;rw[hc]
 cases hi:(P.info? e).bind (·.zero) with
 |none=>rw[hi]at a;cases a
 |some z=>
  rw[hi]at a;simp only[l1,Option.some.injEq]at a;simp only[Option.getD_some,a,fj];apply Array.ext
  .simp
  .intro i d b
   have c:n≠0:=by
    intro h;subst h;simp at b
   simp[c,Nat.mod_one]
section
variable {P:Program}{w:J}{T:TypeId}{fuel:Nat}{cs:O aa}
end
theorem qH{w:J}{A:ah}:∀ {n i:Nat}{vs:O aa}{j:Nat}{v:aa},bV w A i n=some vs->vs[j]? =some v->w.cell? (A.add (i+j))=some v
 |0,i,vs,j,v,h,a=>by simp[bV]at h;subst h;simp at a
 |n+1,i,vs,j,v,h,a=>by
  simp only[bV]at h
  cases b:w.cell? (A.add i) with
  |none=>simp[b]at h
  |some u=>
   cases c:bV w A (i+1) n with
   |none=>simp[b,c]at h
   |some us=>
    simp only[b,c,Option.some.injEq]at h
    subst h
    cases j with
    |zero=>simp at a;subst a;exact b
    |succ j=>
     have:=qH c (j:=j) (by simpa using a)
     rw[show i+(j+1)=i+1+j from I]
     exact this
theorem Src.at{w:J}{s:ad}{vs:O aa}(h:Src 1 w s vs){i:Nat}{v:aa}(b:vs[i]? =some v):
 ∃A:ah,s.a=some A/\((0:Int)<=(i:Int)/\(i:Int)<((s.len:Nat):Int))/\w.cell? (A.add (Int.toNat (i:Int)*1))=some v:=by
 have hi:i<vs.length:=(iI.1 b).1;have d:=h.len
 cases c:s.a with
 |none=>have:=h.nil c;subst this;simp at hi
 |some A=>
  have:=qH (h.rd A c) b;exact⟨A,rfl,⟨I,I⟩,by rw[fj,dm];simpa using this⟩
end aP
