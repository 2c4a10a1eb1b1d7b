/- What a Go program of the model must show, as text that can be read; sound against the kit. -/
import Derived.Below
import Derived.KernelRfl
import Derived.Laws.BytesString
import Derived.OpenShut
import Derived.OrdersHeld
import Derived.ProofKit
import Derived.StillTail
import Derived.Tactics
import Derived.WalkKit
import Derived.WideKeyArgs
namespace Go
theorem bp:type_of% @Nat.le_refl:=@Nat.le_refl
theorem b1:type_of% @of_decide_eq_true:=@of_decide_eq_true
theorem cu:type_of% @of_decide_eq_false:=@of_decide_eq_false
theorem cz:type_of% @List.length_append:=@List.length_append
theorem cB:type_of% @Nat.zero_add:=@Nat.zero_add
theorem cC:type_of% @List.length_take:=@List.length_take
theorem cE:type_of% @List.getElem_mem:=@List.getElem_mem
theorem cG:type_of% @Nat.zero_le:=@Nat.zero_le
theorem cO:type_of% @List.append_assoc:=@List.append_assoc
theorem cQ:type_of% @decide_eq_true_eq:=@decide_eq_true_eq
theorem cT:type_of% @List.mem_append:=@List.mem_append
theorem cU:type_of% @List.mem_cons:=@List.mem_cons
theorem c_:type_of% @List.length_drop:=@List.length_drop
theorem dc:type_of% @Int.toNat_natCast:=@Int.toNat_natCast
theorem df:type_of% @List.length_set:=@List.length_set
theorem dE:type_of% @List.getElem?_eq_getElem:=@List.getElem?_eq_getElem
theorem dJ:type_of% @Nat.lt_or_ge:=@Nat.lt_or_ge
theorem dK:type_of% @decide_eq_true:=@decide_eq_true
theorem dL:type_of% @List.length_map:=@List.length_map
theorem dM:type_of% @List.take_of_length_le:=@List.take_of_length_le
theorem dZ:type_of% @Bool.and_eq_true:=@Bool.and_eq_true
theorem eD:type_of% @Nat.le_trans:=@Nat.le_trans
theorem eE:type_of% @List.mem_map:=@List.mem_map
theorem eL:type_of% @List.not_mem_nil:=@List.not_mem_nil
theorem eO:type_of% @or_false:=@or_false
theorem e8:type_of% @List.length_cons:=@List.length_cons
theorem fg:type_of% @List.mem_of_mem_drop:=@List.mem_of_mem_drop
theorem fh:type_of% @List.getElem_of_mem:=@List.getElem_of_mem
theorem fo:type_of% @List.mem_singleton:=@List.mem_singleton
theorem fp:type_of% @List.mem_of_mem_take:=@List.mem_of_mem_take
theorem fq:type_of% @List.getD_eq_getElem?_getD:=@List.getD_eq_getElem?_getD
theorem fF:type_of% @Nat.mul_one:=@Nat.mul_one
theorem fG:type_of% @List.getElem_set_ne:=@List.getElem_set_ne
theorem fN:type_of% @Bool.false_eq_true:=@Bool.false_eq_true
theorem fO:type_of% @Bool.not_eq_true:=@Bool.not_eq_true
theorem fP:type_of% @Nat.lt_of_lt_of_le:=@Nat.lt_of_lt_of_le
theorem fQ:type_of% @List.append_nil:=@List.append_nil
theorem fV:type_of% @Bool.eq_iff_iff:=@Bool.eq_iff_iff
theorem fW:type_of% @List.map_append:=@List.map_append
theorem g6:type_of% @Nat.mod_lt:=@Nat.mod_lt
theorem hJ:type_of% @List.mem_filter:=@List.mem_filter
theorem ib:type_of% @List.take_append_drop:=@List.take_append_drop
theorem ic:type_of% @List.mem_append_right:=@List.mem_append_right
theorem ie:type_of% @List.getElem_set_self:=@List.getElem_set_self
theorem iw:type_of% @Nat.eq_of_beq_eq_true:=@Nat.eq_of_beq_eq_true
theorem ix:type_of% @List.getElem?_eq_some_iff:=@List.getElem?_eq_some_iff
theorem iy:type_of% @List.take_succ_eq_append_getElem:=@List.take_succ_eq_append_getElem
theorem iz:type_of% @List.take_length:=@List.take_length
theorem iA:type_of% @List.map_map:=@List.map_map
theorem iS:type_of% @Bool.or_eq_true:=@Bool.or_eq_true
theorem iT:type_of% @List.nil_append:=@List.nil_append
theorem iU:type_of% @List.length_singleton:=@List.length_singleton
theorem iV:type_of% @decide_eq_false:=@decide_eq_false
theorem jh:type_of% @Bool.true_and:=@Bool.true_and
theorem ji:type_of% @List.map_cons:=@List.map_cons
theorem jj:type_of% @Nat.min_eq_left:=@Nat.min_eq_left
theorem jk:type_of% @List.find?_eq_none:=@List.find?_eq_none
theorem jw:type_of% @decide_eq_false_iff_not:=@decide_eq_false_iff_not
theorem jx:type_of% @List.mem_range:=@List.mem_range
theorem jy:type_of% @List.drop_eq_getElem_cons:=@List.drop_eq_getElem_cons
theorem jz:type_of% @List.mem_append_left:=@List.mem_append_left
theorem jA:type_of% @List.pairwise_cons:=@List.pairwise_cons
theorem jB:type_of% @List.mem_of_find?_eq_some:=@List.mem_of_find?_eq_some
theorem jC:type_of% @Nat.mod_eq_of_lt:=@Nat.mod_eq_of_lt
theorem jD:type_of% @List.length_nil:=@List.length_nil
theorem jR:type_of% @List.mem_cons_of_mem:=@List.mem_cons_of_mem
theorem jS:type_of% @Bool.false_or:=@Bool.false_or
theorem jT:type_of% @List.filter_eq_self:=@List.filter_eq_self
theorem jU:type_of% @List.count_pos_iff:=@List.count_pos_iff
theorem ki:type_of% @beq_iff_eq:=@beq_iff_eq
theorem kj:type_of% @List.find?_some:=@List.find?_some
theorem kk:type_of% @List.getElem?_eq_none:=@List.getElem?_eq_none
theorem kl:type_of% @List.getElem?_append_right:=@List.getElem?_append_right
theorem kN:type_of% @Nat.add_zero:=@Nat.add_zero
theorem kO:type_of% @List.length_eq_zero_iff:=@List.length_eq_zero_iff
theorem kP:type_of% @Nat.add_mul:=@Nat.add_mul
theorem kQ:type_of% @List.filter_append:=@List.filter_append
theorem lf:type_of% @Bool.not_eq_true':=@Bool.not_eq_true'
theorem lg:type_of% @List.getElem?_cons_zero:=@List.getElem?_cons_zero
theorem lh:type_of% @Option.map_some:=@Option.map_some
theorem lj:type_of% @List.sum_append:=@List.sum_append
theorem lk:type_of% @List.getElem?_map:=@List.getElem?_map
theorem ln:type_of% @List.drop_zero:=@List.drop_zero
theorem lp:type_of% @List.mem_or_eq_of_mem_set:=@List.mem_or_eq_of_mem_set
theorem lS:type_of% @Array.getElem?_eq_some_iff:=@Array.getElem?_eq_some_iff
theorem lT:type_of% @List.filter_eq_nil_iff:=@List.filter_eq_nil_iff
theorem lU:type_of% @List.getElem_append_left:=@List.getElem_append_left
theorem lV:type_of% @Bool.false_and:=@Bool.false_and
theorem lW:type_of% @List.length_filter_le:=@List.length_filter_le
theorem mB:type_of% @Option.isSome_iff_exists:=@Option.isSome_iff_exists
theorem mC:type_of% @List.all_eq_true:=@List.all_eq_true
theorem mD:type_of% @Nat.testBit_or:=@Nat.testBit_or
theorem mE:type_of% @Nat.le_of_ble_eq_true:=@Nat.le_of_ble_eq_true
theorem mF:type_of% @Nat.mul_le_mul_right:=@Nat.mul_le_mul_right
theorem mG:type_of% @List.perm_middle:=@List.perm_middle
theorem mH:type_of% @List.pairwise_append:=@List.pairwise_append
theorem mI:type_of% @List.length_zip:=@List.length_zip
theorem mJ:type_of% @List.map_take:=@List.map_take
theorem mK:type_of% @List.pairwise_iff_getElem:=@List.pairwise_iff_getElem
theorem mL:type_of% @List.length_replicate:=@List.length_replicate
theorem nv:type_of% @List.cons_append:=@List.cons_append
theorem nw:type_of% @Bool.or_eq_false_iff:=@Bool.or_eq_false_iff
theorem nx:type_of% @Nat.sub_self:=@Nat.sub_self
theorem ny:type_of% @List.getElem_append_right:=@List.getElem_append_right
theorem nz:type_of% @List.take_append_of_le_length:=@List.take_append_of_le_length
theorem nA:type_of% @Nat.eq_zero_or_pos:=@Nat.eq_zero_or_pos
theorem nB:type_of% @List.count_append:=@List.count_append
theorem oQ:type_of% @List.any_eq_false:=@List.any_eq_false
theorem oR:type_of% @Nat.sub_zero:=@Nat.sub_zero
theorem oS:type_of% @List.nodup_append:=@List.nodup_append
theorem oT:type_of% @List.map_drop:=@List.map_drop
theorem oU:type_of% @List.zipWith_append:=@List.zipWith_append
theorem oV:type_of% @List.getElem_take:=@List.getElem_take
theorem oW:type_of% @UInt8.toNat_lt:=@UInt8.toNat_lt
theorem oX:type_of% @Decidable.byContradiction:=@Decidable.byContradiction
theorem oY:type_of% @List.count_cons:=@List.count_cons
theorem oZ:type_of% @List.count_nil:=@List.count_nil
theorem o0:type_of% @List.filter_cons:=@List.filter_cons
theorem qt:type_of% @List.filterMap_cons:=@List.filterMap_cons
theorem qu:type_of% @List.filterMap_append:=@List.filterMap_append
theorem qv:type_of% @Nat.testBit_two_pow:=@Nat.testBit_two_pow
theorem qw:type_of% @List.getElem?_toArray:=@List.getElem?_toArray
theorem qx:type_of% @Option.getD_some:=@Option.getD_some
theorem qy:type_of% @List.of_mem_zip:=@List.of_mem_zip
theorem qz:type_of% @List.exists_mem_of_ne_nil:=@List.exists_mem_of_ne_nil
theorem qA:type_of% @List.sum_cons:=@List.sum_cons
theorem qB:type_of% @List.drop_drop:=@List.drop_drop
theorem qC:type_of% @List.perm_append_comm:=@List.perm_append_comm
theorem qD:type_of% @List.take_take:=@List.take_take
theorem qE:type_of% @List.getElem_drop:=@List.getElem_drop
theorem qF:type_of% @List.toList_toArray:=@List.toList_toArray
theorem qG:type_of% @Int.tmod_eq_emod_of_nonneg:=@Int.tmod_eq_emod_of_nonneg
theorem qH:type_of% @Int.eq_ofNat_of_zero_le:=@Int.eq_ofNat_of_zero_le
theorem sg:type_of% @Array.getElem?_modify:=@Array.getElem?_modify
theorem sh:type_of% @List.getElem?_drop:=@List.getElem?_drop
theorem si:type_of% @List.range_eq_range':=@List.range_eq_range'
theorem sj:type_of% @List.getElem?_take:=@List.getElem?_take
theorem sk:type_of% @List.length_pos_iff:=@List.length_pos_iff
theorem sm:type_of% @List.getElem_zip:=@List.getElem_zip
theorem sn:type_of% @Nat.pow_le_pow_right:=@Nat.pow_le_pow_right
theorem so:type_of% @List.flatten_append:=@List.flatten_append
theorem sq:type_of% @List.eq_of_mem_replicate:=@List.eq_of_mem_replicate
theorem sr:type_of% @List.flatten_cons:=@List.flatten_cons
theorem su:type_of% @Bool.not_eq_false':=@Bool.not_eq_false'
theorem sw:type_of% @List.getElem_set:=@List.getElem_set
theorem sx:type_of% @List.size_toArray:=@List.size_toArray
theorem sy:type_of% @Option.isNone_some:=@Option.isNone_some
theorem sA:type_of% @List.drop_eq_nil_of_le:=@List.drop_eq_nil_of_le
theorem we:type_of% @List.getElem?_cons_succ:=@List.getElem?_cons_succ
theorem I{p:Prop}(h:p:=by omega):p:=h
abbrev J:=World
abbrev aa:=Value
abbrev aq(α:Type):=Option α
abbrev O(α:Type):=List α
abbrev ae:=Addr
abbrev ai:=Bool
end Go
namespace a7
open Go
structure Y where
 a:aq ae
 len:Nat
 cap:Nat
instance:Coe Y Value:=⟨λs=>.slice s.a s.len s.cap⟩
instance:Coe Int Value:=⟨λn=>.int .i64 n⟩
instance:Coe Nat Value:=⟨λn=>.int .i64 (n:Int)⟩
instance:Coe Bool Value:=⟨λb=>.bool b⟩
instance:Coe Nat Addr:=⟨λb=>⟨b,0,none⟩⟩
instance:Coe (Option Addr) Value:=⟨λp=>.pointer p⟩
instance:Coe Unit Value:=⟨λ_=>.slice none 0 0⟩
structure hK where
 f:FuncId
 pre:Array aa
 cap:Array aa
inductive e3 where
 |int (k:IntKind)|bool|str|ptr|slice|map|agg|fn|any
def e3.T:e3->Type
 | .int _=>Int
 | .bool=>ai
 | .str=>ByteArray
 | .ptr=>aq ae
 | .slice=>Y
 | .map=>aq Nat
 | .agg=>Array aa
 | .fn=>hK
 | .any=>aa
def e3.v:(l:e3)->l.T->aa
 | .int k,(n:Int)=>.int k n
 | .bool,(b:ai)=>.bool b
 | .str,(s:ByteArray)=>.string s
 | .ptr,(p:aq ae)=>.pointer p
 | .slice,(s:Y)=>.slice s.a s.len s.cap
 | .map,(r:aq Nat)=>.map r
 | .agg,(cs:Array aa)=>.agg cs
 | .fn,(F:hK)=>.func (.func F.f) F.pre F.cap
 | .any,(v:aa)=>v
inductive Kd where
 |one (l:e3)
 |flat (ls:O e3)
def nC(l:e3)(K:aa->Prop):Prop:=
 match l with
 | .int k=>∃n:Int,K (.int k n)
 | .bool=>∃b:ai,K (.bool b)
 | .str=>∃s:ByteArray,K (.string s)
 | .ptr=>∃p:aq ae,K (.pointer p)
 | .slice=>∃s:Y,K (.slice s.a s.len s.cap)
 | .map=>∃r:aq Nat,K (.map r)
 | .agg=>∃cs:Array aa,K (.agg cs)
 | .fn=>∃F:hK,K (.func (.func F.f) F.pre F.cap)
 | .any=>∃v:aa,K v
def wg:O e3->(O aa->Prop)->Prop
 | [],K=>K []
 |l::ls,K=>nC l λv=>wg ls λvs=>K (v::vs)
def wh(k:Kd)(K:aa->Prop):Prop:=
 match k with
 | .one l=>nC l K
 | .flat ls=>wg ls λvs=>K (.agg vs.toArray)
def sB:O Kd->(O aa->Prop)->Prop
 | [],K=>K []
 |k::ks,K=>wh k λv=>sB ks λvs=>K (v::vs)
theorem o1{l:e3}{K:aa->Prop}(h:nC l K):∃v,K v:=by
 cases l<;>simp only[nC]at h<;>obtain⟨x,h⟩:=h<;>exact⟨_,h⟩
theorem y8:∀ {ls:O e3}{K:O aa->Prop},wg ls K->∃vs,K vs
 | [],_,h=>⟨_,h⟩
 |_::_,_,h=>let ⟨_,h⟩:=o1 h;let ⟨_,h⟩:=y8 h;⟨_,h⟩
theorem y9{k:Kd}{K:aa->Prop}(h:wh k K):∃v,K v:=by
 cases k with
 |one l=>exact o1 h
 |flat ls=>obtain⟨_,h⟩:=y8 h;exact⟨_,h⟩
theorem wi:∀ {ls:O Kd}{K:O aa->Prop},sB ls K->∃vs,K vs
 | [],_,h=>⟨_,h⟩
 |_::_,_,h=>let ⟨_,h⟩:=y9 h;let ⟨_,h⟩:=wi h;⟨_,h⟩
abbrev Env:=O (Nat×aa)
def Env.get:Env->Nat->aq aa
 | [],_=>none
 |(k,v)::e,s=>bif Nat.beq k s then some v else Env.get e s
def ev(e:Env):Operand->aq aa
 | .tmp t=>e.get t
 | .const v=>some v
 | .global g=>some (.pointer (some ⟨g,0,none⟩))
 | .func f=>some (.func (.func f) #[] #[])
def ro(e:Env)(x:Operand):aa:=(ev e x).getD undef
def known(e:Env)(xs:Array Operand):ai:=xs.toList.all λx=>(ev e x).isSome
structure dw(e:Env)(a:Act):Prop where
 get:∀s v,e.get s=some v->a.tmps[s]? =some v
theorem dw.ev{e:Env}{a:Act}(h:dw e a){x:Operand}{v:aa}(hx:ev e x=some v):a.eval x=v:=by
 cases x with
 |tmp t=>
  have:=h.get t v hx;simp[Act.eval,Array.getD_eq_getD_getElem?,this]
 |const c=>simpa[a7.ev,Act.eval] using hx
 |global g=>simpa[a7.ev,Act.eval] using hx
 |func f=>simpa[a7.ev,Act.eval] using hx
theorem dw.ro{e:Env}{a:Act}(h:dw e a){x:Operand}(hx:(a7.ev e x).isSome=true):a.eval x=ro e x:=by
 obtain⟨v,b⟩:=mB.1 hx;rw[h.ev b,a7.ro,b];rfl
def dk(d:aq Nat)(v:aa)(e:Env):Env:=
 match d with
 |some d=>(d,v)::e
 |none=>e
theorem nD(d:Nat)(v:aa)(e:Env)(s:Nat):Env.get ((d,v)::e) s=if d=s then some v else e.get s:=by
 simp only[Env.get,cond_eq_ite];by_cases a:d=s
 .subst a;simp
 .have:Nat.beq d s=false:=by
   cases b:Nat.beq d s
   .rfl
   .exact absurd (iw b) a
  simp[this,a]
theorem dw.put{e:Env}{a:Act}(h:dw e a){d:aq Nat}{v:aa}(hd:∀k,d=some k->k<a.tmps.size):dw (dk d v e) (a.put d v):=by
 cases d with
 |none=>exact h
 |some d=>
  constructor;intro s u hs;rw[dk,nD]at hs;simp only[Act.put];by_cases b:d=s
  .subst b
   simp only[if_true,Option.some.injEq]at hs;subst hs;simp[hd d rfl]
  .rw[if_neg b]at hs
   rw[Array.getElem?_setIfInBounds_ne b];exact h.get s u hs
inductive d_ where
 |one (k:Kd)
 |ft (ks:O Kd)
def ig(r:d_)(K:aa->Prop):Prop:=
 match r with
 | .one k=>wh k K
 | .ft ks=>sB ks λvs=>K (.tuple vs.toArray)
theorem iB{r:d_}{K:aa->Prop}(h:ig r K):∃v,K v:=by
 cases r with
 |one k=>exact y9 h
 |ft ks=>obtain⟨_,h⟩:=wi h;exact⟨_,h⟩
def cD(w:J)(A:ae):Nat->Nat->aq (O aa)
 |_,0=>some []
 |i,n+1=>match w.cell? (A.add i),cD w A (i+1) n with
  |some v,some vs=>some (v::vs)
  |_,_=>none
def setCells(w:J)(A:ae):Nat->O aa->J
 |_,[]=>w
 |i,v::vs=>setCells (w.setCell (A.add i) v) A (i+1) vs
def Plain:aa->Prop
 | .agg _=>False
 | .tuple _=>False
 |_=>True
def bA(w:J)(A:ae)(vs:O aa):Prop:=
 (∀i,i<vs.length->(w.cell? (A.add i)).isSome=true/\w.frozen? (A.add i)=false)/\∀v∈vs,Plain v
def lq:TypeDesc->ai
 | .struct _=>true
 | .array _ _=>true
 |_=>false
def g7(P:Program)(elem:TypeId)(n:Nat):Array aa:=
 let zero:=if n*P.cellsOf elem=0 then #[] else (((P.info? elem).bind (·.zero)).getD undef).cells
 (Array.range (n*P.cellsOf elem)).map (zero[· %zero.size]!)
section
variable {P:Program}{w:J}
theorem dm{t:TypeId}{d:TypeDesc}(h:P.underlying t=some d):(underlying t).run P w=.ok d w:=by
 simp[underlying,program,Sem.run,bind,Sem.bind,h,pure]
theorem mM{t:TypeId}{d:TypeInfo}(h:P.info? t=some d):(typeInfo t).run P w=.ok d w:=by
 simp[typeInfo,program,Sem.run,bind,Sem.bind,h,pure]
theorem info_of_underlying{t:TypeId}{d:TypeDesc}(h:P.underlying t=some d):∃i,P.info? t=some i:=by
 unfold Program.underlying at h
 cases hi:P.info? t with
 |none=>simp[hi]at h
 |some i=>exact⟨i,rfl⟩
theorem iC{t:TypeId}{d:TypeDesc}(h:P.underlying t=some d):(Go.sizeOf t).run P w=.ok (P.cellsOf t) w:=by
 obtain⟨i,hi⟩:=info_of_underlying h;simp[Go.sizeOf,mM hi,Program.cellsOf,hi]
theorem sC{t:TypeId}{d:TypeDesc}(h:P.underlying t=some d):(isAgg t).run P w=.ok (lq d) w:=by
 simp only[isAgg,Sem.run_bind,dm h,Result.andThen]
 cases d<;>rfl
theorem wj{A:ae}{v:aa}(h:w.cell? A=some v):(load A).run P w=.ok v w:=by
 simp[load,Sem.run,h]
theorem run_loadCellsFrom{A:ae}:∀ (n i:Nat) (acc:Array aa) (vs:O aa),cD w A i n=some vs->
 (loadCellsFrom A i n acc).run P w=.ok (acc++vs.toArray) w
 |0,i,acc,vs,h=>by
  simp only[cD,Option.some.injEq]at h
  subst h
  simp[loadCellsFrom]
 |n+1,i,acc,vs,h=>by
  simp only[cD]at h
  cases h1:w.cell? (A.add i) with
  |none=>simp[h1]at h
  |some v=>
   cases h2:cD w A (i+1) n with
   |none=>simp[h1,h2]at h
   |some us=>
    simp only[h1,h2,Option.some.injEq]at h
    subst h
    simp only[loadCellsFrom,Sem.run_bind,wj h1,Result.andThen]
    rw[run_loadCellsFrom n (i+1) (acc.push v) us h2]
    simp
theorem sD{T:TypeId}{d:TypeDesc}(a:P.underlying T=some d)(hd:lq d=true){A:ae}{vs:O aa}(h:cD w A 0 (P.cellsOf T)=some vs):
 (loadVar T A).run P w=.ok (.agg vs.toArray) w:=by
 simp only[loadVar,Sem.run_bind,sC a,Result.andThen,hd,if_true,iC a,loadCells,run_loadCellsFrom _ _ _ _ h];simp
theorem y_{T:TypeId}{d:TypeDesc}(a:P.underlying T=some d)(hd:lq d=false){A:ae}{v:aa}(h:w.cell? A=some v):
 (loadVar T A).run P w=.ok v w:=by
 simp only[loadVar,Sem.run_bind,sC a,Result.andThen,hd,fN,if_false,wj h]
theorem Ds{A:ae}{v u:aa}(a:Plain v)(h:w.cell? A=some u)(hf:w.frozen? A=false):(store A v).run P w=.ok () (w.setCell A v):=by
 cases v<;>simp_all [store,Sem.run,Plain]
theorem Dt(w:J)(A B:ae)(v:aa):((w.setCell A v).cell? B).isSome=(w.cell? B).isSome:=by
 simp only[World.setCell,World.cell?,sg];by_cases a:A.block=B.block
 .simp only[a,if_true]
  cases w.heap[B.block]? with
  |none=>rfl
  |some o=>
   cases o<;>simp
   by_cases hs:B.spot.isSome<;>simp[hs]
   by_cases b:A.spot.isSome<;>simp[b]
   rw[fV];simp
 .simp[a]
theorem Du(w:J)(A B:ae)(v:aa):(w.setCell A v).frozen? B=w.frozen? B:=by
 simp only[World.setCell,World.frozen?,sg];by_cases a:A.block=B.block
 .simp only[a,if_true]
  cases w.heap[B.block]? with
  |none=>rfl
  |some o=>cases o<;>rfl
 .simp[a]
theorem o2{A:ae}:∀ (vs:O aa) (i:Nat) (w:J),(∀j,j<vs.length->(w.cell? (A.add (i+j))).isSome=true/\w.frozen? (A.add (i+j))=false)->(∀v∈vs,Plain v)->
 (storeCells A vs i).run P w=.ok () (setCells w A i vs)
 | [],i,w,_,_=>rfl
 |v::vs,i,w,h,a=>by
  have h0:=h 0 (by simp)
  simp only[kN]at h0
  obtain⟨u,hu⟩:=mB.1 h0.1
  simp only[storeCells,Sem.run_bind,Ds (P:=P) (a v (by simp)) hu h0.2,Result.andThen,setCells]
  refine o2 vs (i+1) (w.setCell (A.add i) v) (λj b=>?_) (λx hx=>a x (by simp[hx]))
  have:=h (j+1) (by simp;omega)
  rw[Dt,Du,show i+1+j=i+(j+1) from I]
  exact this
theorem za{T:TypeId}{d:TypeDesc}(a:P.underlying T=some d){A:ae}{v:aa}(hs:v.cells.size=P.cellsOf T)(h:bA w A v.cells.toList):
 (storeVar T A v).run P w=.ok () (setCells w A 0 v.cells.toList):=by
 simp only[storeVar,Sem.run_bind,iC a,Result.andThen,hs,ne_eq,not_true,if_false];simpa using o2 v.cells.toList 0 w (by simpa using h.1) h.2
end
def wk:O e3->ae->Nat->J->(O aa->Prop)->Prop
 | [],_,_,_,K=>K []
 |l::ls,A,i,w,K=>nC l λv=>w.cell? (A.add i)=some v/\wk ls A (i+1) w λvs=>K (v::vs)
def o3(P:Program)(tk:TypeId->d_)(T:TypeId)(A:ae)(w:J)(K:aa->Prop):Prop:=
 match P.underlying T with
 |none=>False
 |some d=>
  bif lq d then
   match tk T with
   | .one (.flat ls)=>bif Nat.beq (P.cellsOf T) ls.length then wk ls A 0 w λvs=>K (.agg vs.toArray) else False
   |_=>∃cs:O aa,cD w A 0 (P.cellsOf T)=some cs/\K (.agg cs.toArray)
  else
   match tk T with
   | .one (.one l)=>nC l λv=>w.cell? A=some v/\K v
   |_=>False
def wm(P:Program)(tk:TypeId->d_)(T:TypeId)(A:ae)(x:aa)(w:J)(K:J->Prop):Prop:=
 match P.underlying T with
 |none=>False
 |some d=>
  bif lq d then
   match x with
   | .agg cs=>bA w A cs.toList/\cs.size=P.cellsOf T/\K (setCells w A 0 cs.toList)
   |_=>False
  else bif Nat.beq (P.cellsOf T) 1 then
   match tk T with
   | .one (.one .any)=>Plain x/\(∃u,w.cell? A=some u)/\w.frozen? A=false/\K (w.setCell A x)
   |_=>match x with
    | .agg _=>False
    | .tuple _=>False
    |_=>(∃u,w.cell? A=some u)/\w.frozen? A=false/\K (w.setCell A x)
  else False
def zb(P:Program)(T:TypeId)(xs a:Array aa)(b:ai):Prop:=
 P.eqGuardType P.depth T=false/\∀w,(Op.equal T (.agg xs) (.agg a)).run P w=.ok b w
def nE:aa->aq ai
 | .nilIface=>some true
 | .iface _ _=>some false
 |_=>none
def nF:aq TypeDesc->ai
 |some (.interface _)=>true
 |_=>false
def lX:aq TypeDesc->ai
 |some (.pointer _)=>true
 |_=>false
def mN:aq TypeDesc->ai
 |some (.slice _)=>true
 |_=>false
def o4:aq TypeDesc->ai
 |some (.map _ _)=>true
 |_=>false
def jV:IntKind->IntKind->ai:=λa b=>decide (a=b)
def sE(P:Program)(op:BinOp)(T:TypeId)(x y:aa)(K:aa->Prop)(G:Prop):Prop:=
 match y with
 | .nilIface=>bif nF (P.underlying T) then
  match op with
  | .eql=>∃b,nE x=some b/\K (.bool b)
  | .neq=>∃b,nE x=some b/\K (.bool (!b))
  |_=>False
  else False
 | .pointer none=>bif lX (P.underlying T) then
  match op,x with
  | .eql,.pointer p=>K (.bool p.isNone)
  | .neq,.pointer p=>K (.bool (!p.isNone))
  |_,_=>False
  else False
 | .slice none _ _=>bif mN (P.underlying T) then
  match op,x with
  | .eql,.slice a _ _=>K (.bool a.isNone)
  | .neq,.slice a _ _=>K (.bool (!a.isNone))
  |_,_=>False
  else False
 | .map none=>bif o4 (P.underlying T) then
  match op,x with
  | .eql,.map r=>K (.bool r.isNone)
  | .neq,.map r=>K (.bool (!r.isNone))
  |_,_=>False
  else False
 | .agg c=>
  match op,x with
  | .eql,.agg xs=>∃b,zb P T xs c b/\K (.bool b)
  | .neq,.agg xs=>∃b,zb P T xs c b/\K (.bool (!b))
  |_,_=>False
 | .int d b=>
  match op,x with
  | .quo,.int k a=>bif jV k d then b≠0/\K (.int k (k.wrap (a.tdiv b))) else False
  | .rem,.int k a=>bif jV k d then b≠0/\K (.int k (a.tmod b)) else False
  | .shl,.int k a=>0<=b/\K (.int k (k.wrap (a*2^(min b.toNat k.bits))))
  | .shr,.int k a=>0<=b/\K (.int k (a.fdiv (2^(min b.toNat k.bits))))
  |_,_=>G
 | .bool b=>match P.underlying T with
  |some .bool=>match op,x with
   | .eql,.bool a=>K (.bool (a==b))
   | .neq,.bool a=>K (.bool (!(a==b)))
   |_,_=>False
  |_=>False
 | .string b=>
  match op,x with
  | .add,.string a=>((a.size+b.size:Nat):Int)<=9223372036854775807/\K (.string (a++b))
  |_,_=>G
 |_=>G
section
variable {P:Program}
theorem o5(T:TypeId)(x y:aa):Op.equal T x y=Op.equalIn (9999+1) T x y:=rfl
theorem Dv(d:Nat){T:TypeId}{x:aa}{b:ai}(a:nF (P.underlying T)=true)(h:nE x=some b)(w:J):
 (Op.equalIn (d+1) T x .nilIface).run P w=.ok b w:=by
 cases hu:P.underlying T with
 |none=>simp[hu,nF]at a
 |some d=>
  cases d<;>simp only[hu,nF,fN]at a
  simp only[Op.equalIn,Sem.run_bind,dm hu,Result.andThen]
  cases x<;>simp only[nE,reduceCtorEq,Option.some.injEq]at h<;>subst h<;>rfl
theorem Dw(d:Nat){T:TypeId}{p:aq ae}(a:lX (P.underlying T)=true)(w:J):
 (Op.equalIn (d+1) T (.pointer p) (.pointer none)).run P w=.ok p.isNone w:=by
 cases hu:P.underlying T with
 |none=>simp[hu,lX]at a
 |some d=>
  cases d<;>simp only[hu,lX,fN]at a
  simp only[Op.equalIn,Sem.run_bind,dm hu,Result.andThen]
  cases p<;>rfl
theorem Dx(d:Nat){T:TypeId}{a:aq ae}{l c e c':Nat}(b:mN (P.underlying T)=true)(w:J):
 (Op.equalIn (d+1) T (.slice a l c) (.slice none e c')).run P w=.ok a.isNone w:=by
 cases hu:P.underlying T with
 |none=>simp[hu,mN]at b
 |some d=>
  cases d<;>simp only[hu,mN,fN]at b
  simp only[Op.equalIn,Sem.run_bind,dm hu,Result.andThen]
  cases a<;>rfl
theorem Dy(d:Nat){T:TypeId}{r:aq Nat}(a:o4 (P.underlying T)=true)(w:J):
 (Op.equalIn (d+1) T (.map r) (.map none)).run P w=.ok r.isNone w:=by
 cases hu:P.underlying T with
 |none=>simp[hu,o4]at a
 |some d=>
  cases d<;>simp only[hu,o4,fN]at a
  simp only[Op.equalIn,Sem.run_bind,dm hu,Result.andThen]
  cases r<;>rfl
theorem zc{T:TypeId}{x:aa}{b:ai}(a:nF (P.underlying T)=true)(h:nE x=some b)(w:J):
 (Op.equal T x .nilIface).run P w=.ok b w:=by rw[o5];exact Dv _ a h w
theorem sF{T:TypeId}{p:aq ae}(a:lX (P.underlying T)=true)(w:J):
 (Op.equal T (.pointer p) (.pointer none)).run P w=.ok p.isNone w:=by rw[o5];exact Dw _ a w
theorem sG{T:TypeId}{a:aq ae}{l c b c':Nat}(d:mN (P.underlying T)=true)(w:J):
 (Op.equal T (.slice a l c) (.slice none b c')).run P w=.ok a.isNone w:=by rw[o5];exact Dx _ d w
theorem zd{T:TypeId}{r:aq Nat}(a:o4 (P.underlying T)=true)(w:J):
 (Op.equal T (.map r) (.map none)).run P w=.ok r.isNone w:=by rw[o5];exact Dy _ a w
theorem ze{T:TypeId}{xs a:Array aa}(h:P.eqGuardType P.depth T=false)(op:BinOp)(x y:Operand)(w:J):
 (eqGuard op T x y (.agg xs) (.agg a)).run P w=.ok () w:=by
 cases op<;>simp[eqGuard,program,Sem.run,bind,Sem.bind,h,pure]
theorem zf{T:TypeId}{a b:ai}(c:P.underlying T=some .bool)(w:J):(Op.equal T (.bool a) (.bool b)).run P w=.ok (a==b) w:=by
 have e:∀ (d:Nat) (w:J),(Op.equalIn (d+1) T (.bool a) (.bool b)).run P w=.ok (a==b) w:=by
  intro d w;simp[Op.equalIn,dm c]
 rw[o5];exact e _ w
theorem zg{op:BinOp}{T:TypeId}{x y:aa}{qI o6:Operand}{K:aa->Prop}{G:Prop}
 (j:y=.nilIface->∃c,o6=.const c)
 (h:sE P op T x y K G):
 G\/∃v,(∀w,(do eqGuard op T qI o6 x y;binOp op T x y:Sem aa).run P w=.ok v w)/\K v:=by
 unfold sE at h;split at h
 case h_1=>
  obtain⟨c,hc⟩:=j rfl;by_cases d:nF (P.underlying T)=true
  .rw[d]at h
   simp only[cond_true]at h;split at h
   .obtain⟨b,e,f⟩:=h
    refine .inr ⟨_,λw=>?_,f⟩;have:=zc (P:=P) d e w
    cases x<;>simp only[nE,reduceCtorEq,Option.some.injEq]at e<;>subst hc e<;>simp[eqGuard,binOp,this]
   .obtain⟨b,e,f⟩:=h
    refine .inr ⟨_,λw=>?_,f⟩;have:=zc (P:=P) d e w
    cases x<;>simp only[nE,reduceCtorEq,Option.some.injEq]at e<;>subst hc e<;>simp[eqGuard,binOp,this]
   .exact h.elim
  .simp only[fO]at d;rw[d]at h;exact h.elim
 case h_2=>
  by_cases d:lX (P.underlying T)=true
  .rw[d]at h
   simp only[cond_true]at h;split at h
   .exact .inr ⟨_,λw=>by simp[eqGuard,binOp,sF (P:=P) d],h⟩
   .exact .inr ⟨_,λw=>by simp[eqGuard,binOp,sF (P:=P) d],h⟩
   .exact h.elim
  .simp only[fO]at d;rw[d]at h;exact h.elim
 case h_3=>
  by_cases d:mN (P.underlying T)=true
  .rw[d]at h
   simp only[cond_true]at h;split at h
   .exact .inr ⟨_,λw=>by simp[eqGuard,binOp,sG (P:=P) d],h⟩
   .exact .inr ⟨_,λw=>by simp[eqGuard,binOp,sG (P:=P) d],h⟩
   .exact h.elim
  .simp only[fO]at d;rw[d]at h;exact h.elim
 case h_4=>
  by_cases d:o4 (P.underlying T)=true
  .rw[d]at h
   simp only[cond_true]at h;split at h
   .exact .inr ⟨_,λw=>by simp[eqGuard,binOp,zd (P:=P) d],h⟩
   .exact .inr ⟨_,λw=>by simp[eqGuard,binOp,zd (P:=P) d],h⟩
   .exact h.elim
  .simp only[fO]at d;rw[d]at h;exact h.elim
 case h_5=>
  split at h
  .obtain⟨b,⟨h1,h2⟩,f⟩:=h
   exact .inr ⟨_,λw=>by simp[ze h1,binOp,h2],f⟩
  .obtain⟨b,⟨h1,h2⟩,f⟩:=h
   exact .inr ⟨_,λw=>by simp[ze h1,binOp,h2],f⟩
  .exact h.elim
 case h_6 i b=>
  split at h
  .rename_i k a
   by_cases g:k=i
   .subst g
    simp only[jV,decide_true,cond_true]at h;exact .inr ⟨_,λw=>by simp[eqGuard,binOp,Op.intDiv,h.1],h.2⟩
   .simp[jV,g]at h
  .rename_i k a
   by_cases g:k=i
   .subst g
    simp only[jV,decide_true,cond_true]at h;exact .inr ⟨_,λw=>by simp[eqGuard,binOp,Op.intDiv,h.1],h.2⟩
   .simp[jV,g]at h
  .exact .inr ⟨_,λw=>by simp[eqGuard,binOp,Op.shift,show¬b<0 from I],h.2⟩
  .exact .inr ⟨_,λw=>by simp[eqGuard,binOp,Op.shift,show¬b<0 from I],h.2⟩
  .exact .inl h
 case h_7 b=>
  split at h
  .rename_i d
   split at h
   .exact .inr ⟨_,λw=>by simp[eqGuard,binOp,zf d],h⟩
   .exact .inr ⟨_,λw=>by simp[eqGuard,binOp,zf d],h⟩
   .exact h.elim
  .exact h.elim
 case h_8 b=>
  split at h
  .rename_i a
   refine .inr ⟨_,λw=>?_,h.2⟩;have h1:=h.1;simp[eqGuard,binOp,Op.stringOp,IntKind.max,IntKind.signed,IntKind.bits];omega
  .exact .inl h
 case h_9=>exact .inl h
end
def sH(P:Program)(T:TypeId)(x:aa)(K:aa->Prop):Prop:=
 match P.underlying T with
 |some (.array n _)=>match x with
  | .slice a len _=>n<=len/\∃A,a=some A/\K (.pointer (some A))
  |_=>False
 |_=>False
def sI(P:Program)(T:TypeId)(x i:aa)(K:aa->Prop):Prop:=
 match i with
 | .int _ n=>
  match P.underlying T with
  |some (.slice elem)=>bif (P.underlying elem).isSome then
   match x with
   | .slice a len _=>∃A,a=some A/\(0<=n/\n<(len:Int))/\K (.pointer (some (A.add (n.toNat*P.cellsOf elem))))
   |_=>False
   else False
  |some (.array len elem)=>bif (P.underlying elem).isSome then
   match x with
   | .pointer (some A)=>(0<=n/\n<(len:Int))/\K (.pointer (some (A.add (n.toNat*P.cellsOf elem))))
   |_=>False
   else False
  |_=>False
 |_=>False
def qJ(P:Program)(tk:TypeId->d_)(T:TypeId)(cs:Array aa)(off:Nat)(K:aa->Prop):Prop:=
 match P.underlying T with
 |none=>False
 |some d=>
  bif lq d then K (.agg (cs.extract off (off+P.cellsOf T)))
  else match tk T with
   | .one (.one l)=>nC l λv=>cs[off]? =some v/\K v
   |_=>False
def sJ(P:Program)(tk:TypeId->d_)(T:TypeId)(x i:aa)(K:aa->Prop):Prop:=
 match i with
 | .int _ n=>
  match P.underlying T with
  |some (.array len elem)=>match x with
   | .agg cs=>(0<=n/\n<(len:Int))/\qJ P tk elem cs (n.toNat*P.cellsOf elem) K
   |_=>False
  |some .string=>match x with
   | .string s=>0<=n/\∃b:UInt8,s.data.toList[n.toNat]? =some b/\K (.int .u8 b.toNat)
   |_=>False
  |_=>False
 |_=>False
def sK(P:Program)(tk:TypeId->d_)(T:TypeId)(x:aa)(i:Nat)(K:aa->Prop):Prop:=
 match P.underlying T with
 |some (.struct fs)=>match fs[i]? with
  |some f=>match x with
   | .agg cs=>qJ P tk f.type cs f.offset K
   |_=>False
  |none=>False
 |_=>False
def kR(v:aq aa)(y d:Nat)(K:Nat->Prop):Prop:=
 match v with
 |none=>K d
 |some (.int _ i)=>(0<=i/\i<=(y:Int))/\K i.toNat
 |_=>False
def aO(a:aq ae)(sz l m:Nat):aq ae:=if m=l then a else a.map (·.add (l*sz))
def sL(P:Program)(T:TypeId)(x:aa)(lo hi b:aq aa)(K:aa->Prop):Prop:=
 match P.underlying T with
 |some .string=>match b,x with
  |none,.string s=>kR hi s.size s.size λh=>kR lo h 0 λl=>K (.string (s.extract l h))
  |_,_=>False
 |some (.slice elem)=>bif (P.underlying elem).isSome then
  match x with
  | .slice a len cap=>match b with
   |none=>kR hi cap len λh=>kR lo h 0 λl=>K (.slice (aO a (P.cellsOf elem) l cap) (h-l) (cap-l))
   |some m'=>match hi with
    |none=>False
    |some c=>kR (some m') cap 0 λm=>kR (some c) m 0 λh=>kR lo h 0 λl=>K (.slice (aO a (P.cellsOf elem) l m) (h-l) (m-l))
  |_=>False
  else False
 |some (.array n elem)=>bif (P.underlying elem).isSome then
  match b,x with
  |none,.pointer (some A)=>kR hi n n λh=>kR lo h 0 λl=>K (.slice (aO (some A) (P.cellsOf elem) l n) (h-l) (n-l))
  |_,_=>False
  else False
 |_=>False
def wo(P:Program)(T:TypeId)(l c:aa)(w:J)(K:aa->J->Prop):Prop:=
 match P.underlying T with
 |some (.slice elem)=>bif (P.underlying elem).isSome then
  bif ((P.info? elem).bind (·.zero)).isSome then
  match l,c with
  | .int _ n,.int _ m=>(0<=n/\n<=m/\m<=9223372036854775807/\(P.bytesOf elem:Int)*m<=140737488355328)/\
   K (.slice (some ⟨w.heap.size,0,none⟩) n.toNat m.toNat) {w with heap:=w.heap.push (.cells (g7 P elem m.toNat) elem)}
  |_,_=>False
  else False
  else False
 |_=>False
section
variable {P:Program}{w:J}
theorem jW(o:aq TypeDesc)(h:o.isSome=true):∃d,o=some d:=mB.1 h
theorem zh{T:TypeId}{x:aa}{K:aa->Prop}(h:sH P T x K):∃v,(∀w,(Instr.arrayAt T x).run P w=.ok v w)/\K v:=by
 unfold sH at h;split at h
 .rename_i n e b
  split at h
  .rename_i a len cap
   obtain⟨h1,A,rfl,c⟩:=h;exact⟨_,λw=>by simp[Instr.arrayAt,dm b,Nat.not_lt.2 h1],c⟩
  .exact h.elim
 .exact h.elim
theorem zi{T:TypeId}{x i:aa}{K:aa->Prop}(h:sI P T x i K):∃v,(∀w,(Instr.indexAt T x i).run P w=.ok v w)/\K v:=by
 unfold sI at h;split at h
 .rename_i k n
  split at h
  .rename_i elem a
   by_cases he:(P.underlying elem).isSome=true
   .rw[he]at h
    simp only[cond_true]at h;split at h
    .obtain⟨A,rfl,b,c⟩:=h
     obtain⟨d,hd⟩:=jW _ he;exact⟨_,λw=>by simp[Instr.indexAt,asIntOf,dm a,b,iC hd],c⟩
    .exact h.elim
   .simp only[fO]at he;rw[he]at h;exact h.elim
  .rename_i len elem a
   by_cases he:(P.underlying elem).isSome=true
   .rw[he]at h
    simp only[cond_true]at h;split at h
    .obtain⟨b,c⟩:=h
     obtain⟨d,hd⟩:=jW _ he;exact⟨_,λw=>by simp[Instr.indexAt,asIntOf,Instr.sureAddr,dm a,b,iC hd],c⟩
    .exact h.elim
   .simp only[fO]at he;rw[he]at h;exact h.elim
  .exact h.elim
 .exact h.elim
theorem zj{tk:TypeId->d_}{T:TypeId}{cs:Array aa}{off:Nat}{K:aa->Prop}(h:qJ P tk T cs off K):∃v,(∀w,(part T cs off).run P w=.ok v w)/\K v:=by
 unfold qJ at h;split at h
 .exact h.elim
 .rename_i d a
  cases hd:lq d with
  |true=>
   rw[hd]at h;exact⟨_,λw=>by simp[part,sC a,hd,iC a],h⟩
  |false=>
   rw[hd]at h;simp only[cond_false]at h;split at h
   .obtain⟨v,b,c⟩:=o1 h
    exact⟨v,λw=>by simp[part,sC a,hd,b],c⟩
   .exact h.elim
theorem zk{tk:TypeId->d_}{T:TypeId}{x i:aa}{K:aa->Prop}(h:sJ P tk T x i K):∃v,(∀w,(Instr.index T x i).run P w=.ok v w)/\K v:=by
 unfold sJ at h;split at h
 .rename_i k n
  split at h
  .rename_i len elem a
   split at h
   .obtain⟨c,h⟩:=h
    obtain⟨v,f,e⟩:=zj h;refine⟨v,λw=>?_,e⟩;have hs:(Go.sizeOf elem).run P w=.ok (P.cellsOf elem) w:=by
     unfold qJ at h
     cases he:P.underlying elem with
     |none=>simp[he]at h
     |some d=>exact iC he
    simp[Instr.index,asIntOf,dm a,c,hs,f]
   .exact h.elim
  .rename_i a
   split at h
   .rename_i s
    obtain⟨c,b,hs,e⟩:=h;have g:s[n.toNat]? =some b:=by
     obtain⟨h1,h2⟩:=ix.1 hs;have j:n.toNat<s.size:=by simpa using h1
     rw[getElem?_pos s n.toNat j];simp only[Option.some.injEq];rw[←h2];rfl
    exact⟨_,λw=>by simp[Instr.index,asIntOf,dm a,c,g],e⟩
   .exact h.elim
  .exact h.elim
 .exact h.elim
theorem zl{tk:TypeId->d_}{T:TypeId}{x:aa}{i:Nat}{K:aa->Prop}(h:sK P tk T x i K):∃v,(∀w,(Instr.field T x i).run P w=.ok v w)/\K v:=by
 unfold sK at h;split at h
 .rename_i fs a
  split at h
  .rename_i f hf
   split at h
   .obtain⟨v,b,c⟩:=zj h
    exact⟨v,λw=>by simp[Instr.field,dm a,hf,asAgg,b],c⟩
   .exact h.elim
  .exact h.elim
 .exact h.elim
theorem km{v:aq aa}{y d:Nat}{c:BoundsCode}{K:Nat->Prop}(h:kR v y d K):
 (v=none/\K d)\/∃u n,v=some u/\(∀w,(Instr.sliceBound u y c).run P w=.ok n w)/\K n:=by
 unfold kR at h;split at h
 .exact .inl ⟨rfl,h⟩
 .exact .inr ⟨_,_,rfl,λw=>by simp[Instr.sliceBound,asIntOf,h.1],h.2⟩
 .exact h.elim
theorem zm{T:TypeId}{x:aa}{lo hi o:aq aa}{K:aa->Prop}(h:sL P T x lo hi o K):
 ∃v,(∀w,(Instr.sliceAt T x lo hi o).run P w=.ok v w)/\K v:=by
 unfold sL at h;split at h
 .rename_i f
  split at h
  .rename_i s
   rcases km (P:=P) (c:=.sliceAlen) h with ⟨e,h1⟩|⟨u,n,e,i,h1⟩
   .rcases km (P:=P) (c:=.sliceB) h1 with ⟨b,h2⟩|⟨l,bw,b,g,h2⟩
    .exact⟨_,λw=>by simp[Instr.sliceAt,Instr.slice,dm f,Instr.sliceBounds,e,b],h2⟩
    .exact⟨_,λw=>by simp[Instr.sliceAt,Instr.slice,dm f,Instr.sliceBounds,e,b,g],h2⟩
   .rcases km (P:=P) (c:=.sliceB) h1 with ⟨b,h2⟩|⟨l,bw,b,g,h2⟩
    .exact⟨_,λw=>by simp[Instr.sliceAt,Instr.slice,dm f,Instr.sliceBounds,e,b,i],h2⟩
    .exact⟨_,λw=>by simp[Instr.sliceAt,Instr.slice,dm f,Instr.sliceBounds,e,b,i,g],h2⟩
  .exact h.elim
 .rename_i elem f
  by_cases he:(P.underlying elem).isSome=true
  .rw[he]at h
   simp only[cond_true]at h;obtain⟨d,hd⟩:=jW _ he;have j:=λw:J=>iC (w:=w) hd;split at h
   .rename_i a len cap
    split at h
    .rcases km (P:=P) (c:=.sliceAcap) h with ⟨e,h1⟩|⟨u,n,e,i,h1⟩
     .rcases km (P:=P) (c:=.sliceB) h1 with ⟨b,h2⟩|⟨l,bw,b,g,h2⟩
      .exact⟨_,λw=>by simp[Instr.sliceAt,Instr.slice,dm f,Instr.sliceBounds,j,aO,e,b],h2⟩
      .exact⟨_,λw=>by simp[Instr.sliceAt,Instr.slice,dm f,Instr.sliceBounds,g,j,aO,e,b],h2⟩
     .rcases km (P:=P) (c:=.sliceB) h1 with ⟨b,h2⟩|⟨l,bw,b,g,h2⟩
      .exact⟨_,λw=>by simp[Instr.sliceAt,Instr.slice,dm f,Instr.sliceBounds,i,j,aO,e,b],h2⟩
      .exact⟨_,λw=>by simp[Instr.sliceAt,Instr.slice,dm f,Instr.sliceBounds,i,g,j,aO,e,b],h2⟩
    .split at h
     .exact h.elim
     .rcases km (P:=P) (c:=.slice3Acap) h with ⟨k,h1⟩|⟨u,n,k,i,h1⟩
      .cases k
      .cases k
       rcases km (P:=P) (c:=.slice3B) h1 with ⟨k,h2⟩|⟨q,bW,k,p,h2⟩
       .cases k
       .cases k
        rcases km (P:=P) (c:=.slice3C) h2 with ⟨b,m⟩|⟨l,bw,b,g,m⟩
        .exact⟨_,λw=>by simp[Instr.sliceAt,Instr.slice,dm f,Instr.sliceBounds,i,p,j,aO,b],m⟩
        .exact⟨_,λw=>by simp[Instr.sliceAt,Instr.slice,dm f,Instr.sliceBounds,i,p,g,j,aO,b],m⟩
   .exact h.elim
  .simp only[fO]at he;rw[he]at h;exact h.elim
 .rename_i n elem f
  by_cases he:(P.underlying elem).isSome=true
  .rw[he]at h
   simp only[cond_true]at h;obtain⟨d,hd⟩:=jW _ he;have j:=λw:J=>iC (w:=w) hd;split at h
   .rename_i A
    rcases km (P:=P) (c:=.sliceAlen) h with ⟨e,h1⟩|⟨u,bW,e,i,h1⟩
    .rcases km (P:=P) (c:=.sliceB) h1 with ⟨b,h2⟩|⟨l,bw,b,g,h2⟩
     .refine⟨_,λw=>?_,h2⟩
      simp[Instr.sliceAt,dm f,Instr.sureAddr,Instr.sliceBounds,j,aO,e,b];try (split<;>rfl)
     .refine⟨_,λw=>?_,h2⟩
      simp[Instr.sliceAt,dm f,Instr.sureAddr,Instr.sliceBounds,g,j,aO,e,b];try (split<;>rfl)
    .rcases km (P:=P) (c:=.sliceB) h1 with ⟨b,h2⟩|⟨l,bw,b,g,h2⟩
     .refine⟨_,λw=>?_,h2⟩
      simp[Instr.sliceAt,dm f,Instr.sureAddr,Instr.sliceBounds,i,j,aO,e,b];try (split<;>rfl)
     .refine⟨_,λw=>?_,h2⟩
      simp[Instr.sliceAt,dm f,Instr.sureAddr,Instr.sliceBounds,i,g,j,aO,e,b];try (split<;>rfl)
   .exact h.elim
  .simp only[fO]at he;rw[he]at h;exact h.elim
 .exact h.elim
theorem wq{n:Int}(h0:0<=n)(h1:n<=9223372036854775807):IntKind.i64.wrap n=n:=by
 have e:n%18446744073709551616=n:=Int.emod_eq_of_lt h0 I;simp[IntKind.wrap,IntKind.signed,IntKind.bits,e];omega
theorem Dz{T:TypeId}{l c:aa}{K:aa->J->Prop}(h:wo P T l c w K):
 ∃v w',(Instr.makeSlice T l c).run P w=.ok v w'/\K v w':=by
 unfold wo at h;split at h
 .rename_i elem e
  by_cases he:(P.underlying elem).isSome=true
  .rw[he]at h
   simp only[cond_true]at h;by_cases a:((P.info? elem).bind (·.zero)).isSome=true
   .rw[a]at h
    simp only[cond_true]at h;split at h
    .rename_i k n s m
     obtain⟨⟨h0,h1,h2,f⟩,g⟩:=h;obtain⟨d,hd⟩:=jW _ he;obtain⟨i,hi⟩:=info_of_underlying hd;obtain⟨z,b⟩:=mB.1 a;simp only[hi,Option.bind_some]at b;have j:P.bytesOf elem=i.bytes:=by simp[Program.bytesOf,hi]
     have hc:P.cellsOf elem=i.size:=by simp[Program.cellsOf,hi]
     rw[j]at f;have o:=wq h0 I;have p:=wq (n:=m) I h2;refine⟨_,_,?_,g⟩;have q:¬(m<0):=by omega
     have r:¬(281474976710656<(i.bytes:Int)*m):=by omega
     simp[Instr.makeSlice,dm e,asInt,asIntOf,mM hi,o,p,q,r,iC hd,show¬n<0 from I,show¬m<n from I];by_cases hs:m.toNat*P.cellsOf elem=0
     .simp[hs,newRow,newObj,Sem.run,g7]
     .simp[zeroValue,mM hi,b,newRow,newObj,Sem.run,g7,hs,hi]
    .exact h.elim
   .simp only[fO]at a;rw[a]at h;exact h.elim
  .simp only[fO]at he;rw[he]at h;exact h.elim
 .exact h.elim
end
def al(w:J)(K:J->Prop):Prop:=K w
def wu(s:ByteArray)(n:Nat):aq UInt8:=s.data.toList[n]?
def cellAt(cs:Array aa)(n:Nat):aq aa:=cs[n]?
def jX(k:IntKind)(a b:Int):Int:=k.wrap ((BitVec.ofInt k.bits a&&&BitVec.ofInt k.bits b).toNat:Int)
def mO(k:IntKind)(a b:Int):Int:=k.wrap ((BitVec.ofInt k.bits a|||BitVec.ofInt k.bits b).toNat:Int)
def nG(k:IntKind)(a b:Int):Int:=k.wrap ((BitVec.ofInt k.bits a^^^BitVec.ofInt k.bits b).toNat:Int)
def zn(k:IntKind)(a b:Int):Int:=k.wrap ((BitVec.ofInt k.bits a&&&~~~BitVec.ofInt k.bits b).toNat:Int)
def qK(P:Program)(o:Oper)(K:aa->J->Prop)(e:Env)(w:J):Prop:=
 bif known e o.op.operands then
  match (execOp (ro e) o).run P w with
  | .ok (.value v) w'=>al w' λw1=>K v w1
  |_=>False
 else False
def zo(P:Program)(tk:TypeId->d_)(T:TypeId):d_:=
 match P.underlying T with
 |some (.slice e)=>tk e
 |_=>.one (.one .agg)
def e3.DA:e3->ai
 | .slice=>true
 |_=>false
def zp:d_->ai
 | .one (.one .agg)=>true
 | .one (.flat ls)=>ls.any e3.DA
 |_=>false
def gen(P:Program)(tk:TypeId->d_)(o:Oper)(K:aa->J->Prop)(e:Env)(w:J):Prop:=
 bif known e o.op.operands then
  match (execOp (ro e) o).run P w with
  | .ok (.value v) w'=>K v w'
  | .ok .skip w'=>K undef w'
  | .ok (.enter f args) w'=>Calls P f args w' λa b=>ig (tk o.type) λv=>a=.returned v/\K v b
  |_=>False
 else False
def iD(P:Program)(f:FuncId):Prop:=∃fn,P.funcs[f]? =some fn/\(fn.name== "runtime.NumGoroutine")=false/\fn.body.isNone=false
theorem zq{P:Program}{f:FuncId}(h:iD P f)(args:Array aa)(w:J):(callFunc f args).run P w=.ok (.enter f args) w:=by
 obtain⟨fn,h1,h2,a⟩:=h;have b:¬fn.name= "runtime.NumGoroutine" :=by simpa using h2
 have c:¬fn.body=none:=by
  intro h;rw[h]at a;cases a
 simp[callFunc,program,Sem.run,bind,Sem.bind,h1,b,c,pure]
def wv:Op->ai
 | .select _ _=>true
 |_=>false
def zr(P:Program)(T:TypeId):Operand->ai
 | .const _=>false
 |_=>nF (P.underlying T)||lX (P.underlying T)
def DB(P:Program)(op:BinOp)(T:TypeId)(qI o6:Operand)(x y:aa)(b:ai):Prop:=
 ∀w,Sem.run P (do eqGuard op T qI o6 x y;binOp op T x y:Sem aa) w=.ok (.bool b) w
def o7:Operand->aa->ai
 | .const _,_=>true
 |_,.nilIface=>false
 |_,_=>true
def jE(P:Program)(tk:TypeId->d_)(o:Oper)(K:aa->J->Prop)(e:Env)(w:J):Prop:=
 match o.op with
 | .nilCheck x=>match ev e x with
  |some (.pointer p)=>∃A,p=some A/\K (.pointer (some A)) w
  |_=>False
 | .load T x=>match ev e x with
  |some (.pointer (some A))=>o3 P tk T A w λv=>K v w
  |_=>False
 | .store T x y=>match ev e x,ev e y with
  |some (.pointer (some A)),some v=>wm P tk T A v w λw'=>al w' λw1=>K undef w1
  |_,_=>False
 | .binOp op T x y _=>match ev e x,ev e y with
  |some a,some q=>bif zr P T y then (∃b:ai,DB P op T x y a q b/\K (.bool b) w) else
   bif o7 y q then sE P op T a q (λv=>K v w) (gen P tk o K e w) else False
  |_,_=>False
 | .indexAddr T x i=>match ev e x,ev e i with
  |some a,some g=>sI P T a g λv=>K v w
  |_,_=>False
 | .index T x i=>match ev e x,ev e i with
  |some a,some g=>sJ P tk T a g λv=>K v w
  |_,_=>False
 | .field T x i=>match ev e x with
  |some a=>sK P tk T a i λv=>K v w
  |_=>False
 | .alloc _=>qK P o K e w
 | .box _ _=>qK P o K e w
 | .buildSlice T n ps=>bif zp (zo P tk T) then
  (bif known e o.op.operands then
    ig (tk o.type) λr=>∃w1,(Instr.buildSlice T n (ps.map λp=>(p.1,ro e p.2))).run P w=.ok r w1/\K r w1
  else False)
  else qK P o K e w
 | .slice T x lo hi u=>bif known e o.op.operands then
  sL P T (ro e x) (lo.map (ro e)) (hi.map (ro e)) (u.map (ro e)) λv=>K v w
  else False
 | .makeSlice T l c=>match ev e l,ev e c with
  |some z,some mP=>wo P T z mP w λv w'=>al w' λw1=>K v w1
  |_,_=>False
 | .convert s d x=>match ev e x with
  |some (.int j n)=>bif (P.underlying s).isSome then
   match P.underlying d with
   |some (.int k)=>K (.int k (k.wrap n)) w
   |_=>ig (tk o.type) λr=>∃w1,(convert s d (.int j n)).run P w=.ok r w1/\K r w1
   else False
  |some v=>ig (tk o.type) λr=>∃w1,(convert s d v).run P w=.ok r w1/\K r w1
  |none=>False
 | .build t ps=>match tk t with
  | .one (.flat _)=>gen P tk o K e w
  |_=>bif known e o.op.operands then
   ∃cs:Array aa,(Instr.build t (ps.map λp=>(p.1,ro e p.2))).run P w=.ok (.agg cs) w/\K (.agg cs) w
   else False
 | .lookup T m i ok=>match ev e m,ev e i with
  |some jl,some g=>ig (tk o.type) λr=>∃w1,(Instr.lookup T jl g ok).run P w=.ok r w1/\K r w1
  |_,_=>False
 | .mapUpdate T m i x=>match ev e m,ev e i,ev e x with
  |some jl,some g,some a=>∃w1,(Instr.mapUpdate T jl g a).run P w=.ok () w1/\K undef w1
  |_,_,_=>False
 | .makeMap T r=>bif known e o.op.operands then ig (tk o.type) λv=>∃w1,(Instr.makeMap T (r.map (ro e))).run P w=.ok v w1/\K v w1 else False
 | .range T x=>match ev e x with
  |some a=>∃v w1,(Instr.range T a).run P w=.ok v w1/\K v w1
  |_=>False
 | .next it h=>match ev e it with
  |some a=>(bif h then ∃ (n:Int) (c:Int) (w1:J),(Instr.next a h o.type).run P w=.ok (.tuple #[.bool true,.int .i64 n,.int .i32 c]) w1/\K (.tuple #[.bool true,.int .i64 n,.int .i32 c]) w1
   else ∃ (k:aa) (v:aa) (w1:J),(Instr.next a h o.type).run P w=.ok (.tuple #[.bool true,k,v]) w1/\K (.tuple #[.bool true,k,v]) w1)\/
   (∃w1:J,(Instr.next a h o.type).run P w=.ok (.tuple #[.bool false]) w1/\K (.tuple #[.bool false]) w1)
  |_=>False
 | .call c=>match c.callee with
  | .value (.tmp k)=>match e.get k with
   |some (.func (.func f) pre cap)=>bif known e o.op.operands then
    iD P f/\Calls P f (pre++c.args.map (ro e)++cap) w λB w1=>ig (tk o.type) λv=>B=.returned v/\K v w1
    else False
   |_=>gen P tk o K e w
  | .builtin .append=>bif known e o.op.operands then ig (tk o.type) λr=>∃w1,(Builtin.append_ c.argTypes o.type (c.args.map (ro e))).run P w=.ok r w1/\K r w1 else False
  | .builtin .copy=>bif known e o.op.operands then ig (tk o.type) λr=>∃w1,(Builtin.copy_ c.argTypes o.type (c.args.map (ro e))).run P w=.ok r w1/\K r w1 else False
  | .builtin .min=>bif known e o.op.operands then ig (tk o.type) λr=>∃w1,(Builtin.min_ c.argTypes o.type (c.args.map (ro e))).run P w=.ok r w1/\K r w1 else False
  | .builtin .max=>bif known e o.op.operands then ig (tk o.type) λr=>∃w1,(Builtin.max_ c.argTypes o.type (c.args.map (ro e))).run P w=.ok r w1/\K r w1 else False
  | .builtin .delete=>bif known e o.op.operands then ∃r w1,(Builtin.delete_ c.argTypes o.type (c.args.map (ro e))).run P w=.ok r w1/\K r w1 else False
  | .value (.func f)=>match P.funcs[f]? with
   |some fn=>match fn.body with
    |some _=>gen P tk o K e w
    |none=>bif known e o.op.operands then ig (tk o.type) λr=>∃w1,(callFunc f (c.args.map (ro e))).run P w=.ok (.value r) w1/\K r w1 else False
   |none=>False
  | .builtin .unsafeString=>bif known e o.op.operands then ig (tk o.type) λr=>∃w1,(Builtin.unsafeString_ c.argTypes o.type (c.args.map (ro e))).run P w=.ok r w1/\K r w1 else False
  | .builtin .unsafeSliceData=>bif known e o.op.operands then ig (tk o.type) λr=>∃w1,(Builtin.unsafeSliceData_ c.argTypes o.type (c.args.map (ro e))).run P w=.ok r w1/\K r w1 else False
  | .builtin .clear=>bif known e o.op.operands then ∃r w1,(Builtin.clear_ c.argTypes o.type (c.args.map (ro e))).run P w=.ok r w1/\K r w1 else False
  | .builtin .len=>match ((c.args.map (ro e))[0]? :aq aa) with
   |some (Value.map _)=>bif known e o.op.operands then ig (tk o.type) λr=>∃w1,(Builtin.len_ c.argTypes o.type (c.args.map (ro e))).run P w=.ok r w1/\K r w1 else False
   |_=>gen P tk o K e w
  |_=>gen P tk o K e w
 | .sliceToArrayPointer T x=>match ev e x with
  |some a=>sH P T a λv=>K v w
  |_=>False
 | .mapEntry T m i=>match ev e m,ev e i with
  |some jl,some g=>∃ (v0:aa) (st:Int) (w1:J),(Instr.mapEntry T jl g).run P w=.ok (.tuple #[v0,.int .i64 st]) w1/\K (.tuple #[v0,.int .i64 st]) w1
  |_,_=>False
 | .entryStore T m s x=>match ev e m,ev e s,ev e x with
  |some jl,some vs,some a=>∃w1,(Instr.entryStore T jl vs a).run P w=.ok () w1/\K undef w1
  |_,_,_=>False
 | .entry it=>match ev e it with
  |some a=>ig (tk o.type) λv=>∃w1,(Instr.entry a).run P w=.ok v w1/\K v w1
  |_=>False
 | .select _ _=>False
 |_=>gen P tk o K e w
def lY(P:Program)(o:Oper)(a:Act)(w:J)(K:aa->J->Prop):Prop:=
 (∃v w',(execOp a.eval o).run P w=.ok (.value v) w'/\K v w')\/
 (∃w',(execOp a.eval o).run P w=.ok .skip w'/\K undef w')\/
 (∃f args w',(execOp a.eval o).run P w=.ok (.enter f args) w'/\Calls P f args w' λb c=>∃v,b=.returned v/\K v c)
theorem lY.wp{P:Program}{o:Oper}{a:Act}{w:J}{K:aa->J->Prop}{next:Act->J->Prop}{Q:Exit->Act->J->Prop}
 (h:lY P o a w K) (c:∀v w',K v w'->next (a.put o.dst v) w'):o.wp P a w next Q:=by
 unfold Oper.wp;rcases h with ⟨v,w',h,b⟩|⟨w',h,b⟩|⟨f,args,w',h,hc⟩
 .rw[h];exact c _ _ b
 .rw[h];exact c _ _ b
 .rw[h]
  exact hc.mono λe g ⟨v,d,b⟩=>by subst d;exact c _ _ b
section
variable {P:Program}{tk:TypeId->d_}{o:Oper}{K:aa->J->Prop}{e:Env}{a:Act}{w:J}
theorem DC(ar:dw e a){xs:Array Operand}(h:known e xs=true):∀x∈xs,a.eval x=ro e x:=by
 intro x hx;exact ar.ro (mC.1 h x (by simpa using hx))
theorem kn(ar:dw e a)(hs:wv o.op=false)(h:known e o.op.operands=true):execOp a.eval o=execOp (ro e) o:=
 execOp_congr o (λcs b hc=>by rw[hc]at hs;cases hs) (DC ar h)
theorem nH(ar:dw e a)(hs:wv o.op=false)(h:gen P tk o K e w):lY P o a w K:=by
 unfold gen at h;by_cases c:known e o.op.operands=true
 .rw[c]at h
  simp only[cond_true]at h;have hc:=kn ar hs c;unfold lY;rw[hc];split at h
  .rename_i v w' b
   exact .inl ⟨v,w',b,h⟩
  .rename_i w' b
   exact .inr (.inl ⟨w',b,h⟩)
  .rename_i f args w' b
   refine .inr (.inr ⟨f,args,w',b,h.mono λg i d=>?_⟩);exact iB d
  .exact h.elim
 .simp only[fO]at c
  rw[c]at h;exact h.elim
theorem wx(ar:dw e a)(hs:wv o.op=false)(h:qK P o K e w):lY P o a w K:=by
 unfold qK at h;by_cases b:known e o.op.operands=true
 .rw[b]at h
  simp only[cond_true]at h;have hc:=kn ar hs b;unfold lY;rw[hc];split at h
  .rename_i v w' c
   exact .inl ⟨v,w',c,h⟩
  .exact h.elim
 .simp only[fO]at b
  rw[b]at h;exact h.elim
theorem wy:∀ {ls:O e3}{A:ae}{i:Nat}{K:O aa->Prop},wk ls A i w K->∃vs,cD w A i ls.length=some vs/\K vs
 | [],_,_,_,h=>⟨[],rfl,h⟩
 |l::ls,A,i,K,h=>by
  obtain⟨v,a,h⟩:=o1 h
  obtain⟨vs,b,h⟩:=wy h
  exact⟨v::vs,by simp[cD,a,b],h⟩
theorem zt{T:TypeId}{A:ae}{K:aa->Prop}(h:o3 P tk T A w K):∃v,(Instr.loadAt T (.pointer (some A))).run P w=.ok v w/\K v:=by
 have e:(Instr.loadAt T (.pointer (some A))).run P w=(loadVar T A).run P w:=by simp[Instr.loadAt,Instr.sureAddr]
 rw[e];unfold o3 at h;split at h
 .exact h.elim
 .rename_i d b
  cases hd:lq d with
  |true=>
   rw[hd]at h;simp only[cond_true]at h;split at h
   .rename_i ls _
    by_cases a:Nat.beq (P.cellsOf T) ls.length=true
    .rw[a]at h
     simp only[cond_true]at h;obtain⟨vs,c,h⟩:=wy h;rw[←iw a]at c;exact⟨_,sD b hd c,h⟩
    .simp only[fO]at a;rw[a]at h;exact h.elim
   .obtain⟨cs,hc,h⟩:=h
    exact⟨_,sD b hd hc,h⟩
  |false=>
   rw[hd]at h;simp only[cond_false]at h;split at h
   .obtain⟨v,f,h⟩:=o1 h
    exact⟨v,y_ b hd f,h⟩
   .exact h.elim
theorem wz{v:aa}(h:Plain v):v.cells= #[v]:=by cases v<;>first|rfl|exact h.elim
theorem add_zero'(A:ae):A.add 0=A:=rfl
theorem DD{T:TypeId}{A:ae}{x:aa}{K:J->Prop}(h:wm P tk T A x w K):
 ∃w',(Instr.storeAt T (.pointer (some A)) x).run P w=.ok () w'/\K w':=by
 have f:(Instr.storeAt T (.pointer (some A)) x).run P w=(storeVar T A x).run P w:=by simp[Instr.storeAt,Instr.sureAddr]
 rw[f];unfold wm at h;split at h
 .exact h.elim
 .rename_i d c
  cases hd:lq d with
  |true=>
   rw[hd]at h;simp only[cond_true]at h;split at h
   .rename_i cs
    exact⟨_,za (v:=.agg cs) c h.2.1 h.1,h.2.2⟩
   .exact h.elim
  |false=>
   rw[hd]at h;simp only[cond_false]at h;have one:∀ (b:Plain x) (a:Nat.beq (P.cellsOf T) 1=true),((∃u,w.cell? A=some u)/\w.frozen? A=false/\K (w.setCell A x))->∃w',(storeVar T A x).run P w=.ok () w'/\K w':=by
    intro b a ⟨⟨u,hu⟩,hf,g⟩;refine⟨_,za (v:=x) c ?_ ?_,?_⟩
    .rw[wz b,iw a];rfl
    .rw[wz b]
     refine⟨λi hi=>?_,λv j=>?_⟩
     .have:i=0:=by simpa using hi
      subst this;rw[add_zero',hu];exact⟨rfl,hf⟩
     .have:v=x:=by simpa using j
      subst this;exact b
    .rw[wz b]
     exact g
   by_cases a:Nat.beq (P.cellsOf T) 1=true
   .have e:=a
    rw[a]at h;simp only[cond_true]at h;split at h
    .exact one h.1 e h.2
    .split at h
     .exact h.elim
     .exact h.elim
     .rename_i h1 h2
      refine one ?_ e h
      cases x<;>first|exact trivial|(exact absurd rfl (h1 _))|(exact absurd rfl (h2 _))
   .simp only[fO]at a;rw[a]at h;exact h.elim
theorem sM(ar:dw e a)(h:jE P tk o K e w):lY P o a w K:=by
 unfold jE at h;split at h
 case h_1 x j=>
  split at h
  .rename_i p hx
   obtain⟨A,rfl,g⟩:=h;exact .inl ⟨_,_,by simp[execOp,j,ar.ev hx],g⟩
  .exact h.elim
 case h_2 T x j=>
  split at h
  .rename_i A hx
   obtain⟨v,B,g⟩:=zt h;exact .inl ⟨v,w,by simp[execOp,j,ar.ev hx,B],g⟩
  .exact h.elim
 case h_3 T x y j=>
  split at h
  .rename_i A v hx H
   obtain⟨w',S,g⟩:=DD h;exact .inr (.inl ⟨w',by simp[execOp,j,ar.ev hx,ar.ev H,S],g⟩)
  .exact h.elim
 case h_4 op T x y ab j=>
  split at h
  .rename_i D Q hx H
   by_cases N:zr P T y=true
   .rw[N]at h
    simp only[cond_true]at h;obtain⟨b,z,g⟩:=h;exact .inl ⟨_,w,by
     simp only[execOp,j,ar.ev hx,ar.ev H];have G:=z w;simp only[Sem.run_bind]at G⊢;rw[G];rfl,g⟩
   simp only[fO]at N;rw[N]at h;simp only[cond_false]at h;by_cases I:o7 y Q=true
   .rw[I]at h
    simp only[cond_true]at h;have U:Q=.nilIface->∃c,y=.const c:=by
     intro B;subst B
     cases y<;>simp[o7]at I⊢
    rcases zg (qI:=x) (o6:=y) U h with hg|⟨v,B,g⟩
    .exact nH ar (by rw[j];rfl) hg
    .exact .inl ⟨v,w,by
      simp only[execOp,j,ar.ev hx,ar.ev H];have G:=B w;simp only[Sem.run_bind]at G⊢;rw[G];rfl,g⟩
   .simp only[fO]at I;rw[I]at h;exact h.elim
  .exact h.elim
 case h_5 T x i j=>
  split at h
  .rename_i D L hx hi
   obtain⟨v,B,g⟩:=zi h;exact .inl ⟨v,w,by simp[execOp,j,ar.ev hx,ar.ev hi,B],g⟩
  .exact h.elim
 case h_6 T x i j=>
  split at h
  .rename_i D L hx hi
   obtain⟨v,B,g⟩:=zk h;exact .inl ⟨v,w,by simp[execOp,j,ar.ev hx,ar.ev hi,B],g⟩
  .exact h.elim
 case h_7 T x i j=>
  split at h
  .rename_i D hx
   obtain⟨v,B,g⟩:=zl h;exact .inl ⟨v,w,by simp[execOp,j,ar.ev hx,B],g⟩
  .exact h.elim
 case h_8 T j=>exact wx ar (by rw[j];rfl) h
 case h_9 T x j=>exact wx ar (by rw[j];rfl) h
 case h_10 T n ps j=>
  cases R:zp (zo P tk T) with
  |true=>
   rw[R]at h;simp only[cond_true]at h;by_cases u:known e o.op.operands=true
   .rw[u]at h
    simp only[cond_true]at h;have hc:=kn ar (by rw[j];rfl) u;obtain⟨r,w1,q,g⟩:=iB h;exact .inl ⟨r,w1,by rw[hc];simp[execOp,j];rw[q];rfl,g⟩
   .simp only[fO]at u;rw[u]at h;exact h.elim
  |false=>
   rw[R]at h;exact wx ar (by rw[j];rfl) h
 case h_11 T x lo hi ac j=>
  by_cases u:known e o.op.operands=true
  .rw[u]at h
   simp only[cond_true]at h;have hc:=kn ar (by rw[j];rfl) u;obtain⟨v,B,g⟩:=zm h;exact .inl ⟨v,w,by rw[hc];simp[execOp,j,B],g⟩
  .simp only[fO]at u;rw[u]at h;exact h.elim
 case h_12 T l c j=>
  split at h
  .rename_i ad mP V hc
   obtain⟨v,w',B,g⟩:=Dz h;exact .inl ⟨v,w',by simp[execOp,j,ar.ev V,ar.ev hc,B],g⟩
  .exact h.elim
 case h_13 s d x j=>
  split at h
  .rename_i k n hx
   by_cases hs:(P.underlying s).isSome=true
   .rw[hs]at h
    simp only[cond_true]at h;obtain⟨ds,W⟩:=jW _ hs;split at h
    .rename_i ae hd
     exact .inl ⟨_,_,by simp[execOp,j,ar.ev hx,convert,dm W,dm hd,Conv.intToInt],h⟩
    .obtain⟨r,w1,q,g⟩:=iB h
     exact .inl ⟨r,w1,by simp[execOp,j,ar.ev hx,q],g⟩
   .simp only[fO]at hs;rw[hs]at h;exact h.elim
  .rename_i v _ hx
   obtain⟨r,w1,q,g⟩:=iB h;exact .inl ⟨r,w1,by simp[execOp,j,ar.ev hx,q],g⟩
  .exact h.elim
 case h_14 t ps j=>
  split at h
  .exact nH ar (by rw[j];rfl) h
  .by_cases u:known e o.op.operands=true
   .rw[u]at h
    simp only[cond_true]at h;have hc:=kn ar (by rw[j];rfl) u;obtain⟨cs,q,g⟩:=h;exact .inl ⟨_,_,by rw[hc];simp[execOp,j];rw[q];rfl,g⟩
   .simp only[fO]at u;rw[u]at h;exact h.elim
 case h_15 T m i ok j=>
  split at h
  .rename_i jl L F hi
   obtain⟨r,w1,q,g⟩:=iB h;exact .inl ⟨r,w1,by simp[execOp,j,ar.ev F,ar.ev hi,q],g⟩
  .exact h.elim
 case h_16 T m i x j=>
  split at h
  .rename_i jl L D F hi hx
   obtain⟨w1,q,g⟩:=h;exact .inr (.inl ⟨w1,by simp[execOp,j,ar.ev F,ar.ev hi,ar.ev hx,q],g⟩)
  .exact h.elim
 case h_17 T r j=>
  by_cases u:known e o.op.operands=true
  .rw[u]at h
   simp only[cond_true]at h;have hc:=kn ar (by rw[j];rfl) u;obtain⟨v,w1,q,g⟩:=iB h;exact .inl ⟨v,w1,by rw[hc];simp[execOp,j,q],g⟩
  .simp only[fO]at u;rw[u]at h;exact h.elim
 case h_18 T x j=>
  split at h
  .rename_i D hx
   obtain⟨v,w1,q,g⟩:=h;exact .inl ⟨v,w1,by simp[execOp,j,ar.ev hx,q],g⟩
  .exact h.elim
 case h_19 it Y j=>
  split at h
  .rename_i D hx
   rcases h with h|⟨w1,q,g⟩
   .cases Y with
    |true=>
     obtain⟨n,c,w1,q,g⟩:=h;exact .inl ⟨_,w1,by simp[execOp,j,ar.ev hx,q],g⟩
    |false=>
     obtain⟨k,v,w1,q,g⟩:=h;exact .inl ⟨_,w1,by simp[execOp,j,ar.ev hx,q],g⟩
   .exact .inl ⟨_,w1,by simp[execOp,j,ar.ev hx,q],g⟩
  .exact h.elim
 case h_20 c j=>
  have E:∀ (b:Builtin) (r:aa) (w1:J),c.callee=.builtin b->known e o.op.operands=true->
   (∀cs,(Go.builtin b c.argTypes o.type cs (c.args.map (ro e))).run P w=.ok (.value r) w1)->K r w1->lY P o a w K:=by
   intro b r w1 z u q g;have hc:=kn ar (by rw[j];rfl) u;exact .inl ⟨r,w1,by rw[hc];simp[execOp,j,resolve,z,invoke,q],g⟩
  have C:∀ {X:Prop},(bif known e o.op.operands then X else False)->known e o.op.operands=true/\X:=by
   intro X M;by_cases u:known e o.op.operands=true
   .rw[u]at M;exact⟨u,M⟩
   .simp only[fO]at u;rw[u]at M;exact M.elim
  split at h
  .rename_i k z
   split at h
   .rename_i f pre cap hg
    obtain⟨u,Z,h⟩:=C h;have hc:=kn ar (by rw[j];rfl) u;refine .inr (.inr ⟨f,pre++c.args.map (ro e)++cap,w,?_,h.mono λaf w1 h1=>?_⟩)
    .have O:ro e (.tmp k)=.func (.func f) pre cap:=by simp[ro,ev,hg]
     rw[hc];simp[execOp,j,resolve,z,O,Deferred.ofValue,invoke,zq Z]
    .obtain⟨v,B,g⟩:=iB h1
     exact⟨v,B,g⟩
   .exact nH ar (by rw[j];rfl) h
  .rename_i z
   obtain⟨u,h⟩:=C h;obtain⟨r,w1,q,g⟩:=iB h;exact E _ r w1 z u (λ_=>by simp[Go.builtin,q]) g
  .rename_i z
   obtain⟨u,h⟩:=C h;obtain⟨r,w1,q,g⟩:=iB h;exact E _ r w1 z u (λ_=>by simp[Go.builtin,q]) g
  .rename_i z
   obtain⟨u,h⟩:=C h;obtain⟨r,w1,q,g⟩:=iB h;exact E _ r w1 z u (λ_=>by simp[Go.builtin,q]) g
  .rename_i z
   obtain⟨u,h⟩:=C h;obtain⟨r,w1,q,g⟩:=iB h;exact E _ r w1 z u (λ_=>by simp[Go.builtin,q]) g
  .rename_i z
   obtain⟨u,r,w1,q,g⟩:=C h;exact E _ r w1 z u (λ_=>by simp[Go.builtin,q]) g
  .rename_i f z
   split at h
   .rename_i fn ag
    split at h
    .exact nH ar (by rw[j];rfl) h
    .obtain⟨u,h⟩:=C h
     obtain⟨r,w1,q,g⟩:=iB h;have hc:=kn ar (by rw[j];rfl) u;refine .inl ⟨r,w1,?_,g⟩;rw[hc];have O:ro e (.func f)=.func (.func f) #[] #[]:=by simp[ro,ev]
     simp[execOp,j,resolve,z,O,Deferred.ofValue,invoke,q]
   .exact h.elim
  .rename_i z
   obtain⟨u,h⟩:=C h;obtain⟨r,w1,q,g⟩:=iB h;exact E _ r w1 z u (λ_=>by simp[Go.builtin,q]) g
  .rename_i z
   obtain⟨u,h⟩:=C h;obtain⟨r,w1,q,g⟩:=iB h;exact E _ r w1 z u (λ_=>by simp[Go.builtin,q]) g
  .rename_i z
   obtain⟨u,r,w1,q,g⟩:=C h;exact E _ r w1 z u (λ_=>by simp[Go.builtin,q]) g
  .rename_i z
   split at h
   .obtain⟨u,h⟩:=C h
    obtain⟨r,w1,q,g⟩:=iB h;exact E _ r w1 z u (λ_=>by simp[Go.builtin,q]) g
   .exact nH ar (by rw[j];rfl) h
  .exact nH ar (by rw[j];rfl) h
 case h_21 T x j=>
  split at h
  .rename_i D hx
   obtain⟨v,B,g⟩:=zh h;exact .inl ⟨v,w,by simp[execOp,j,ar.ev hx,B],g⟩
  .exact h.elim
 case h_22 T m i j=>
  split at h
  .rename_i jl L F hi
   obtain⟨v0,st,w1,q,g⟩:=h;exact .inl ⟨_,w1,by simp[execOp,j,ar.ev F,ar.ev hi,q],g⟩
  .exact h.elim
 case h_23 T m s x j=>
  split at h
  .rename_i jl vs D F hs hx
   obtain⟨w1,q,g⟩:=h;exact .inr (.inl ⟨w1,by simp[execOp,j,ar.ev F,ar.ev hs,ar.ev hx,q],g⟩)
  .exact h.elim
 case h_24 it j=>
  split at h
  .rename_i D hx
   obtain⟨v,w1,q,g⟩:=iB h;exact .inl ⟨v,w1,by simp[execOp,j,ar.ev hx,q],g⟩
  .exact h.elim
 case h_25=>exact h.elim
 case h_26=>
  refine nH ar ?_ h
  cases j:o.op<;>first|rfl|simp_all
end
end a7
namespace a7
open Go
inductive kS where
 |run
 |split (n:Nat)
 |pure (n:Nat)
 |sN (ks:O Kd)
def fi(P:Program)(o:Oper)(e:Env):aq aa:=
 match o.op with
 | .move x=>ev e x
 | .assign x=>ev e x
 | .unOp .not _ x=>match ev e x with
  |some (.bool b)=>some (.bool (!b))
  |_=>none
 | .binOp op T x y _=>match ev e y with
  |some (.int f b)=>match ev e x with
   |some (.int k a)=>bif jV k f then
    match op with
    | .add=>some (.int k (k.wrap (a+b)))
    | .sub=>some (.int k (k.wrap (a-b)))
    | .mul=>some (.int k (k.wrap (a*b)))
    | .quo=>match b with
     | .ofNat (.succ m)=>some (.int k (k.wrap (a.tdiv (.ofNat (.succ m)))))
     |_=>none
    | .rem=>match b with
     | .ofNat (.succ m)=>some (.int k (a.tmod (.ofNat (.succ m))))
     |_=>none
    | .and=>some (.int k (k.wrap (BitVec.ofInt k.bits a&&&BitVec.ofInt k.bits b).toNat))
    | .or=>some (.int k (k.wrap (BitVec.ofInt k.bits a|||BitVec.ofInt k.bits b).toNat))
    | .xor=>some (.int k (k.wrap (BitVec.ofInt k.bits a^^^BitVec.ofInt k.bits b).toNat))
    | .eql=>some (.bool (a==b))
    | .neq=>some (.bool (a !=b))
    | .lss=>some (.bool (a<b))
    | .leq=>some (.bool (a<=b))
    | .gtr=>some (.bool (a>b))
    | .geq=>some (.bool (a>=b))
    |_=>none
    else none
   |_=>none
  |some (.bool b)=>match ev e x with
   |some (.bool a)=>match P.underlying T with
    |some .bool=>match op with
     | .eql=>some (.bool (a==b))
     | .neq=>some (.bool (!(a==b)))
     |_=>none
    |_=>none
   |_=>none
  |some (.string b)=>match ev e x with
   |some (.string a)=>match op with
    | .eql=>some (.bool (a.toList==b.toList))
    | .neq=>some (.bool (!(a.toList==b.toList)))
    |_=>none
   |_=>none
  |some (.pointer none)=>match ev e x with
   |some (.pointer p)=>bif lX (P.underlying T) then match op with
    | .eql=>some (.bool p.isNone)
    | .neq=>some (.bool (!p.isNone))
    |_=>none
    else none
   |_=>none
  |some (.slice none _ _)=>match ev e x with
   |some (.slice p _ _)=>bif mN (P.underlying T) then match op with
    | .eql=>some (.bool p.isNone)
    | .neq=>some (.bool (!p.isNone))
    |_=>none
    else none
   |_=>none
  |_=>none
 | .convert s d x=>match ev e x with
  |some (.int _ n)=>match P.underlying d with
   |some (.int k)=>bif (P.underlying s).isSome then some (.int k (k.wrap n)) else none
   |_=>none
  |_=>none
 | .call {callee:=.builtin .len,args:=args,argTypes:=gr}=>match args[0]?,gr[0]? with
  |some x,some T=>match ev e x,P.underlying T with
   |some (.slice _ n _),some (.slice _)=>some (.int .i64 n)
   |some (.string s),some .string=>some (.int .i64 s.size)
   |_,_=>none
  |_,_=>none
 | .call {callee:=.builtin .cap,args:=args,argTypes:=gr}=>match args[0]?,gr[0]? with
  |some x,some T=>match ev e x,P.underlying T with
   |some (.slice _ _ c),some (.slice _)=>some (.int .i64 c)
   |_,_=>none
  |_,_=>none
 |_=>none
def qL(ops:Array Oper)(e:Env)(j:Nat):aq aa:=((ops[j]?).bind (·.dst)).bind e.get
def DE(ops:Array Oper)(j:Nat):aq Nat:=(ops[j]?).bind (·.dst)
def IW(o:Oper)(e:Env)(K:ai->Prop):Prop:=
 match o.guard with
 |none=>match o.op with
  | .pick x y z=>match ev e x with
   |some (.bool b)=>match ev e (bif b then y else z) with
    |some (.bool r)=>K r
    |_=>False
   |_=>False
  |_=>False
 |some _=>False
def gY(ops:Array Oper)(o:Oper)(e:Env)(run skip:Prop):Prop:=
 match o.guard with
 |none=>run
 |some (j,want)=>match qL ops e j with
  |none=>False
  |some (.bool b)=>bif Bool.xor b want then skip else run
  |some _=>skip
def lr{α:Type}(ops:Array Oper)(o:Oper)(e:Env)(run skip:aq α):aq α:=
 match o.guard with
 |none=>run
 |some (j,want)=>match qL ops e j with
  |none=>none
  |some (.bool b)=>bif Bool.xor b want then skip else run
  |some _=>skip
def kT(o:Oper)(e:Env):aq ai:=
 match o.op with
 | .pick x y z=>match ev e x with
  |some (.bool b)=>match ev e (bif b then y else z) with
   |some (.bool r)=>some r
   |_=>none
  |_=>none
 |_=>none
def qM(ops:Array Oper)(o:Oper)(e:Env):aq (Nat×ai):=
 match o.guard with
 |none=>none
 |some (j,_)=>match DE ops j with
  |none=>none
  |some s=>match e.get s with
   |some (.bool c)=>some (s,c)
   |_=>none
def lZ(ops:Array Oper)(o:Oper)(e:Env):ai:=
 match o.guard with
 |none=>true
 |some (j,want)=>match qL ops e j with
  |some (.bool b)=> !(Bool.xor b want)
  |_=>false
def mQ(e:Env)(ds:O Nat):ai:=e.all λp=> !(ds.any λd=>Nat.beq d p.1)
def bV(l:O Oper):O Nat:=l.filterMap (·.dst)
def iW(P:Program)(ops:Array Oper):Nat->O Oper->O kS->Env->aq Env
 |0,_,_,_=>none
 |_+1,[],_,e=>some e
 |n+1,o::rest,.pure m::as,e=>
  match qM ops o e,rest.drop (m-1) with
  |none,_=>
   match lr ops o e none (some undef) with
   |some v=>iW P ops n rest as (dk o.dst v e)
   |none=>none
  |some (s,c),a::b=>
   match iW P ops n (o::rest.take (m-1)) (.run::as.take (m-1)) ((s,.bool true)::e),iW P ops n (o::rest.take (m-1)) (.run::as.take (m-1)) ((s,.bool false)::e) with
   |some d,some f=>
    match kT a d,kT a f with
    |some r1,some b5=>bif lZ ops a e&&mQ e (bV (o::rest.take (m-1))) then iW P ops n b (as.drop m) (dk a.dst (.bool (cond c r1 b5)) e) else none
    |_,_=>none
   |_,_=>none
  |_,_=>none
 |n+1,o::rest,_::as,e=>
  match lr ops o e (fi P o e) (some undef) with
  |some v=>iW P ops n rest as (dk o.dst v e)
  |none=>none
 |n+1,o::rest,[],e=>
  match lr ops o e (fi P o e) (some undef) with
  |some v=>iW P ops n rest [] (dk o.dst v e)
  |none=>none
inductive bt {α:Type} (B:α->Prop) (k:α):Prop where
 |mk (h:B k)
theorem bt.out{α:Type}{B:α->Prop}{k:α}(h:bt B k):B k:=by cases h with|mk h=>exact h
def sO(P:Program)(ks:O Kd)(o:Oper)(K:aa->J->Prop)(e:Env)(w:J):Prop:=
 match o.op with
 | .entry it=>match ev e it with
  |some a=>sB ks λvs=>∃w1,(Instr.entry a).run P w=.ok (.tuple vs.toArray) w1/\K (.tuple vs.toArray) w1
  |_=>False
 |_=>False
theorem DF{P:Program}{ks:O Kd}{o:Oper}{K:aa->J->Prop}{e:Env}{w:J}{a:Act}(ar:dw e a)(h:sO P ks o K e w):lY P o a w K:=by
 unfold sO at h;split at h
 .rename_i it b
  split at h
  .rename_i f hx
   obtain⟨v,w1,c,d⟩:=wi h;exact .inl ⟨_,w1,by simp[execOp,b,ar.ev hx,c],d⟩
  .exact h.elim
 .exact h.elim
def fX(P:Program)(tk:TypeId->d_)(ops:Array Oper):Nat->O Oper->O kS->(Env->J->Prop)->Env->J->Prop
 |0,_,_,_,_,_=>False
 |_+1,[],_,K,e,w=>K e w
 |n+1,o::rest,.sN ks::as,K,e,w=>
  gY ops o e (sO P ks o (λv w'=>fX P tk ops n rest as K (dk o.dst v e) w') e w) (fX P tk ops n rest as K (dk o.dst undef e) w)
 |n+1,o::rest,.pure m::as,K,e,w=>
  match qM ops o e,rest.drop (m-1) with
  |none,_=>gY ops o e False (fX P tk ops n rest as K (dk o.dst undef e) w)
  |some (s,c),a::b=>
   match iW P ops n (o::rest.take (m-1)) (.run::as.take (m-1)) ((s,.bool true)::e),iW P ops n (o::rest.take (m-1)) (.run::as.take (m-1)) ((s,.bool false)::e) with
   |some f,some g=>
    match kT a f,kT a g with
    |some r1,some b5=>bif lZ ops a e&&mQ e (bV (o::rest.take (m-1))) then fX P tk ops n b (as.drop m) K (dk a.dst (.bool (cond c r1 b5)) e) w else False
    |_,_=>False
   |_,_=>False
  |_,_=>False
 |n+1,o::rest,.split m::as,K,e,w=>
  match qM ops o e,rest.drop (m-1) with
  |none,_=>gY ops o e False (fX P tk ops n rest as K (dk o.dst undef e) w)
  |some (s,c),a::b=>
   bif lZ ops a e&&mQ e (bV (o::rest.take (m-1))) then
    bt (λk:ai->J->Prop=>
     (c=true->fX P tk ops n (o::rest.take (m-1)) (.run::as.take (m-1)) (λd w'=>match kT a d with|some r=>k r w'|none=>False) ((s,.bool true)::e) w)/\
     (c=false->fX P tk ops n (o::rest.take (m-1)) (.run::as.take (m-1)) (λd w'=>match kT a d with|some r=>k r w'|none=>False) ((s,.bool false)::e) w))
     (λr w'=>fX P tk ops n b (as.drop m) K (dk a.dst (.bool r) e) w')
   else False
  |_,_=>False
 |n+1,o::rest,_::as,K,e,w=>
  gY ops o e (jE P tk o (λv w'=>fX P tk ops n rest as K (dk o.dst v e) w') e w) (fX P tk ops n rest as K (dk o.dst undef e) w)
 |n+1,o::rest,[],K,e,w=>
  gY ops o e (jE P tk o (λv w'=>fX P tk ops n rest [] K (dk o.dst v e) w') e w) (fX P tk ops n rest [] K (dk o.dst undef e) w)
structure da(ds:O Nat)(a b:Act):Prop where
 defers:b.defers=a.defers
 size:b.tmps.size=a.tmps.size
 same:∀s,s∉ds->b.tmps[s]? =a.tmps[s]?
theorem da.refl(ds:O Nat)(a:Act):da ds a a:=⟨rfl,rfl,λ_ _=>rfl⟩
theorem da.trans{ds:O Nat}{a b c:Act}(h:da ds a b)(k:da ds b c):da ds a c:=
 ⟨k.defers.trans h.defers,k.size.trans h.size,λs hs=>(k.same s hs).trans (h.same s hs)⟩
theorem da.mono{ds es:O Nat}{a b:Act}(h:da ds a b)(hs:∀s,s∈ds->s∈es):da es a b:=
 ⟨h.defers,h.size,λs c=>h.same s λd=>c (hs s d)⟩
theorem da.put{a:Act}{d:aq Nat}{v:aa}{ds:O Nat}(hd:∀k,d=some k->k∈ds):da ds a (a.put d v):=by
 cases d with
 |none=>exact .refl _ _
 |some d=>exact⟨rfl,by simp[Act.put],λs hs=>by
  have:d≠s:=λh=>hs (h▸hd d rfl);simp[Act.put,Array.getElem?_setIfInBounds_ne this]⟩
def gD(a:Act)(ds:O Nat)(K:Env->J->Prop)(x:Exit)(b:Act)(w':J):Prop:=
 x=.normal/\da ds a b/\∃c,dw c b/\K c w'
theorem iX{P:Program}{ops:Array Oper}{Q Q':Exit->Act->J->Prop}(b:∀x a w,Q x a w->Q' x a w):
 ∀ (l:O Oper) (a:Act) (w:J),wpList P ops Q l a w->wpList P ops Q' l a w
 | [],_,_,h=>b _ _ _ h
 |o::l,a,w,h=>by
  simp only[wpList]at h⊢
  split
  .rename_i d
   rw[if_pos d]at h
   refine h.imp (λh=>?_) (λ⟨h1,f,w',h2⟩=>⟨h1,f,w',b _ _ _ h2⟩)
   have:=Oper.wp_mono (Q:=Q) (λa w=>iX b l a w) h
   unfold Oper.wp at this⊢
   revert this
   generalize (execOp a.eval o).run P w=r
   intro this
   cases r with
   |ok aW w'=>
    cases aW<;>simp only[Oper.upon]at this⊢<;>first
     |exact this
     |(exact Calls.mono this λe g he=>by
        cases e with
        |returned v=>exact he
        |panicked c=>exact b _ _ _ he
        |outgrown=>exact let ⟨f,w',h2⟩:=he;⟨f,w',b _ _ _ h2⟩)
   |halt x w'=>cases x<;>simp only[Oper.upon]at this⊢<;>first|exact b _ _ _ this|exact this
  .rename_i d
   rw[if_neg d]at h
   exact iX b l _ _ h
theorem qN{P:Program}{ops:Array Oper}{Q:Exit->Act->J->Prop}(b:O Oper):
 ∀ (f:O Oper) (a:Act) (w:J),wpList P ops (λx a w=>x=.normal/\wpList P ops Q b a w) f a w->wpList P ops Q (f++b) a w
 | [],_,_,h=>h.2
 |o::l,a,w,h=>by
  simp only[nv,wpList]at h⊢
  split
  .rename_i d
   rw[if_pos d]at h
   rcases h with h|⟨_,g,w',h2,_⟩
   .left
    have:=Oper.wp_mono (λa w=>qN b l a w) h
    unfold Oper.wp at this⊢
    revert this
    generalize (execOp a.eval o).run P w=r
    intro this
    cases r with
    |ok aW w'=>
     cases aW<;>simp only[Oper.upon]at this⊢<;>first
      |exact this
      |(exact Calls.mono this λe i he=>by
         cases e with
         |returned v=>exact he
         |panicked c=>cases he.1
         |outgrown=>exact let ⟨g,w',h2⟩:=he;by cases h2.1)
    |halt x w'=>cases x<;>simp only[Oper.upon]at this⊢<;>first|(cases this.1;done)|exact this
   .cases h2
  .rename_i d
   rw[if_neg d]at h
   exact qN b l _ _ h
section
variable {P:Program}{tk:TypeId->d_}{ops:Array Oper}
def l0:aa->aq ai
 | .bool b=>some b
 |_=>none
theorem qO{e:Env}{a:Act}(ar:dw e a){j:Nat}{v:aa}(h:qL ops e j=some v):
 yielded ops a.tmps j=l0 v:=by
 unfold qL at h;unfold yielded
 cases hd:(ops[j]?).bind (·.dst) with
 |none=>rw[hd]at h;simp at h
 |some s=>
  rw[hd]at h;simp only[Option.bind_some]at h⊢;rw[ar.get _ _ h]
  cases v<;>rfl
theorem qP{o:Oper}{e:Env}{a:Act}(ar:dw e a){R S:Prop}(h:gY ops o e R S):
 (Region.wanted o (yielded ops a.tmps)=true/\R)\/(Region.wanted o (yielded ops a.tmps)=false/\S):=by
 unfold gY at h;unfold Region.wanted;split at h
 .rename_i hg;rw[hg];exact .inl ⟨rfl,h⟩
 .rename_i j want hg
  rw[hg];simp only;split at h
  .exact h.elim
  .rename_i b c
   rw[qO ar c]
   cases b<;>cases want<;>first|exact .inl ⟨rfl,h⟩|exact .inr ⟨rfl,h⟩
  .rename_i v d c
   rw[qO ar c]
   cases v<;>first|exact absurd rfl (d _)|exact .inr ⟨by cases want<;>rfl,h⟩
theorem zu{o:Oper}{e:Env}{R R' S:Prop}(h:gY ops o e R S)(a:R->R'):gY ops o e R' S:=by
 unfold gY at h⊢;split at h
 .exact a h
 .rename_i j want hg
  split at h
  .exact h
  .rename_i b d
   cases c:Bool.xor b want<;>rw[c]at h<;>first|exact a h|exact h
  .exact h
theorem DG{α:Type}{o:Oper}{e:Env}{R S:aq α}{r:α}(h:lr ops o e none S=some r):lr ops o e R S=some r:=by
 unfold lr at h⊢;split at h
 .cases h
 .rename_i j want hg
  split at h
  .exact h
  .rename_i b c
   cases a:Bool.xor b want with
   |true=>rw[a]at h;exact h
   |false=>rw[a]at h;cases h
  .exact h
theorem DH{α:Type}{o:Oper}{e:Env}{a:Act}(ar:dw e a){R S:aq α}{r:α}(h:lr ops o e R S=some r):
 (Region.wanted o (yielded ops a.tmps)=true/\R=some r)\/(Region.wanted o (yielded ops a.tmps)=false/\S=some r):=by
 unfold lr at h;unfold Region.wanted;split at h
 .rename_i hg;rw[hg];exact .inl ⟨rfl,h⟩
 .rename_i j want hg
  rw[hg];simp only;split at h
  .cases h
  .rename_i b c
   rw[qO ar c]
   cases b<;>cases want<;>first|exact .inl ⟨rfl,h⟩|exact .inr ⟨rfl,h⟩
  .rename_i v d c
   rw[qO ar c]
   cases v<;>first|exact absurd rfl (d _)|exact .inr ⟨by cases want<;>rfl,h⟩
theorem zv{o:Oper}{e:Env}{a:Act}(ar:dw e a){v:aa}(h:fi P o e=some v)(w:J):(execOp a.eval o).run P w=.ok (.value v) w:=by
 unfold fi at h;split at h
 .rename_i x f
  simp[execOp,f,ar.ev h]
 .rename_i x f
  simp[execOp,f,ar.ev h]
 .rename_i t x f
  split at h
  .rename_i b hx
   cases h;simp[execOp,f,ar.ev hx,Op.unary]
  .cases h
 .rename_i op T x y D f
  split at h
  .rename_i u b i
   split at h
   .rename_i k c hx
    by_cases z:k=u
    .subst z
     simp only[jV,decide_true,cond_true]at h;split at h
     case h_4=>
      split at h
      .cases h
       simp[execOp,f,ar.ev hx,ar.ev i,eqGuard,binOp,Op.intDiv];intro r;exfalso;revert r;simp;omega
      .cases h
     case h_5=>
      split at h
      .cases h
       simp[execOp,f,ar.ev hx,ar.ev i,eqGuard,binOp,Op.intDiv];intro r;exfalso;revert r;simp;omega
      .cases h
     all_goals first
      |(cases h;simp[execOp,f,ar.ev hx,ar.ev i,eqGuard,binOp,Op.intArith,Op.intBits,Op.intCmp];done)
      |cases h
    .simp[jV,z]at h
   .cases h
  .rename_i b i
   split at h
   .rename_i c hx
    split at h
    .rename_i g
     have j:∀ (d:Nat) (w:J),(Op.equalIn (d+1) T (.bool c) (.bool b)).run P w=.ok (c==b) w:=by
      intro d w;simp[Op.equalIn,dm g]
     have A:∀w:J,(Op.equal T (.bool c) (.bool b)).run P w=.ok (c==b) w:=λw=>by rw[o5];exact j _ w
     split at h
     .cases h
      simp[execOp,f,ar.ev hx,ar.ev i,eqGuard,binOp,A]
     .cases h
      simp[execOp,f,ar.ev hx,ar.ev i,eqGuard,binOp,A]
     .cases h
    .cases h
   .cases h
  .rename_i b i
   split at h
   .rename_i c hx
    split at h
    .cases h
     have j:(binOp .eql T (.string c) (.string b)).run P w=.ok (.bool (c.toList==b.toList)) w:=rfl;simp only[execOp,f,ar.ev hx,ar.ev i];simp[eqGuard,j]
    .cases h
     have j:(binOp .neq T (.string c) (.string b)).run P w=.ok (.bool (!(c.toList==b.toList))) w:=rfl;simp only[execOp,f,ar.ev hx,ar.ev i];simp[eqGuard,j]
    .cases h
   .cases h
  .rename_i i
   split at h
   .rename_i p hx
    by_cases g:lX (P.underlying T)=true
    .rw[g]at h
     simp only[cond_true]at h;split at h
     .cases h;simp[execOp,f,ar.ev hx,ar.ev i,eqGuard,binOp,sF (P:=P) g]
     .cases h;simp[execOp,f,ar.ev hx,ar.ev i,eqGuard,binOp,sF (P:=P) g]
     .cases h
    .simp only[fO]at g;rw[g]at h;cases h
   .cases h
  .rename_i l c i
   split at h
   .rename_i p _ _ hx
    by_cases g:mN (P.underlying T)=true
    .rw[g]at h
     simp only[cond_true]at h;split at h
     .cases h;simp[execOp,f,ar.ev hx,ar.ev i,eqGuard,binOp,sG (P:=P) g]
     .cases h;simp[execOp,f,ar.ev hx,ar.ev i,eqGuard,binOp,sG (P:=P) g]
     .cases h
    .simp only[fO]at g;rw[g]at h;cases h
   .cases h
  .cases h
 .rename_i s d x f
  split at h
  .rename_i k n hx
   split at h
   .rename_i u hd
    by_cases hs:(P.underlying s).isSome=true
    .rw[hs]at h
     cases h;obtain⟨ds,B⟩:=jW _ hs;simp[execOp,f,ar.ev hx,convert,dm B,dm hd,Conv.intToInt]
    .simp only[fO]at hs;rw[hs]at h;cases h
   .cases h
  .cases h
 .rename_i args gr f
  split at h
  .rename_i x T m q
   split at h
   .rename_i p n c C hx g
    cases h;simp[execOp,f,resolve,invoke,Go.builtin,Builtin.len_,q,m,dm g,ar.ev hx,goInt]
   .rename_i s hx g
    cases h;simp[execOp,f,resolve,invoke,Go.builtin,Builtin.len_,q,m,dm g,ar.ev hx,goInt]
   .cases h
  .cases h
 .rename_i args gr f
  split at h
  .rename_i x T m q
   split at h
   .rename_i p n c C hx g
    cases h;simp[execOp,f,resolve,invoke,Go.builtin,Builtin.cap_,q,m,dm g,ar.ev hx,goInt]
   .cases h
  .cases h
 .cases h
theorem wA{e:Env}{ds:O Nat}{a b:Act}(ar:dw e a)(hd:mQ e ds=true)(d:da ds a b):dw e b:=by
 constructor;intro s v hs;have f:∃u,(s,u)∈e:=by
  clear hd ar
  induction e with
  |nil=>cases hs
  |cons p e g=>
   obtain⟨k,u⟩:=p;rw[nD]at hs;by_cases c:k=s
   .subst c;exact⟨u,by simp⟩
   .rw[if_neg c]at hs
    obtain⟨u,hu⟩:=g hs;exact⟨u,by simp[hu]⟩
 obtain⟨u,hu⟩:=f;have h1:=mC.1 hd _ hu;simp only[lf,oQ]at h1;rw[d.same s λh=>h1 s h (Nat.beq_refl s)];exact ar.get s v hs
theorem wB{d:Oper}{e:Env}{a:Act}(ar:dw e a){r:ai}(h:kT d e=some r)(w:J):
 (execOp a.eval d).run P w=.ok (.value (.bool r)) w:=by
 unfold kT at h;split at h
 .rename_i x y z f
  split at h
  .rename_i b g
   split at h
   .rename_i i c
    cases h;simp only[execOp,f,ar.ev g]
    cases b
    .simp only[cond_false]at c
     simp[asBool,ar.ev c]
    .simp only[cond_true]at c
     simp[asBool,ar.ev c]
   .cases h
  .cases h
 .cases h
theorem wC{c:Oper}{e:Env}{a:Act}(ar:dw e a)(h:lZ ops c e=true):Region.wanted c (yielded ops a.tmps)=true:=by
 unfold lZ at h;unfold Region.wanted;split at h
 .rename_i hg;rw[hg]
 .rename_i j want hg
  rw[hg];simp only;split at h
  .rename_i b d
   rw[qO ar d]
   cases b<;>cases want<;>first|rfl|cases h
  .cases h
theorem wD{o:Oper}{e:Env}{s:Nat}{c:ai}(h:qM ops o e=some (s,c)):e.get s=some (.bool c):=by
 unfold qM at h;split at h
 .cases h
 .split at h
  .cases h
  .split at h
   .rename_i hs;cases h;exact hs
   .cases h
theorem dw.lit{e:Env}{a:Act}(ar:dw e a){s:Nat}{v:aa}(h:e.get s=some v):dw ((s,v)::e) a:=by
 constructor;intro t u ht;rw[nD]at ht;by_cases b:s=t
 .subst b
  rw[if_pos rfl]at ht
  cases ht;exact ar.get _ _ h
 .rw[if_neg b]at ht
  exact ar.get _ _ ht
theorem wE{α:Type}(o:α)(rest:O α)(m:Nat){a:α}{b:O α}(h:rest.drop m=a::b):
 o::rest=(o::rest.take m)++(a::b):=by
 rw[←h];simp
theorem DI{b c:ai}{α:Type}{x y z:α}(h:(bif b&&c then x else y)=z)(a:y≠z):b=true/\c=true/\x=z:=by
 cases b<;>cases c<;>first|exact absurd h a|exact⟨rfl,rfl,h⟩
theorem zw:∀ (n:Nat) (l:O Oper) (as:O kS) (e j:Env) (a:Act) (w:J),dw e a->(∀d∈bV l,d<a.tmps.size)->
 iW P ops n l as e=some j->wpList P ops (λx f w'=>x=.normal/\da (bV l) a f/\dw j f/\w'=w) l a w:=by
 intro n
 induction n with
 |zero=>intro l as e j a w _ _ h;cases h
 |succ n A=>
  intro l as e j a w ar g h;have one:∀ (o:Oper) (rest:O Oper) (D:O kS),(∀d∈bV (o::rest),d<a.tmps.size)->
   (match lr ops o e (fi P o e) (some undef) with|some v=>iW P ops n rest D (dk o.dst v e)|none=>none)=some j->
   wpList P ops (λx f w'=>x=.normal/\da (bV (o::rest)) a f/\dw j f/\w'=w) (o::rest) a w:=by
   intro o rest D g h;have H:∀k,o.dst=some k->k∈bV (o::rest):=λk b=>by simp[bV,b]
   have q:∀k,k∈bV rest->k∈bV (o::rest):=λk b=>by
    simp only[bV,qt];split
    .exact b
    .exact jR _ b
   split at h
   .rename_i v t
    have next:∀ (f:Act),f=a.put o.dst v->wpList P ops (λx f w'=>x=.normal/\da (bV (o::rest)) a f/\dw j f/\w'=w) rest f w:=by
     intro f R;subst R;have b:da (bV (o::rest)) a (a.put o.dst v):=da.put H;have:=A rest D (dk o.dst v e) j (a.put o.dst v) w (ar.put λk b=>g k (H k b)) (λd hd=>by rw[b.size];exact g d (q d hd)) h;exact iX (λx f w' ⟨h1,h2,S,T⟩=>⟨h1,b.trans (h2.mono q),S,T⟩) _ _ _ this
    rcases DH ar t with ⟨E,u⟩|⟨E,u⟩
    .simp only[wpList,E,if_true]
     left;unfold Oper.wp;rw[zv ar u w];exact next _ rfl
    .simp only[wpList,E,fN,if_false]
     cases u;exact next _ rfl
   .cases h
  cases l with
  |nil=>
   simp only[iW,Option.some.injEq]at h;subst h;exact⟨rfl,.refl _ _,ar,rfl⟩
  |cons o rest=>
   cases as with
   |nil=>exact one o rest [] g (by simpa only[iW] using h)
   |cons U as=>
    cases U with
    |run=>exact one o rest as g (by simpa only[iW] using h)
    |split m=>exact one o rest as g (by simpa only[iW] using h)
    |sN ks=>exact one o rest as g (by simpa only[iW] using h)
    |pure m=>
     simp only[iW]at h;split at h
     .refine one o rest as g ?_
      cases t:lr ops o e none (some undef) with
      |none=>rw[t]at h;cases h
      |some v=>rw[t]at h;rw[DG t];exact h
     .rename_i s c i p hg hd
      split at h
      .rename_i I K h1 h2
       split at h
       .rename_i r1 b5 V W
        obtain⟨X,Y,h⟩:=DI h (by simp);rw[wE o rest (m-1) hd]at g⊢;have L:=wD hg;refine qN _ _ _ _ ?_;have F:∀k,k∈bV (o::rest.take (m-1))->k∈bV ((o::rest.take (m-1))++(i::p)):=λk b=>by
         simp only[bV,qu,cT];exact .inl b
        have B:∀k,k∈bV (i::p)->k∈bV ((o::rest.take (m-1))++(i::p)):=λk b=>by
         simp only[bV,qu,cT];exact .inr b
        have M:∀k,i.dst=some k->k∈bV (i::p):=λk b=>by simp[bV,b]
        have q:∀k,k∈bV p->k∈bV (i::p):=λk b=>by
         simp only[bV,qt];split
         .exact b
         .exact jR _ b
        have fin:∀ (G:Env) (r:ai) (a1:Act),da (bV (o::rest.take (m-1))) a a1->dw G a1->kT i G=some r->r=cond c r1 b5->
         wpList P ops (λx f w'=>x=.normal/\da (bV ((o::rest.take (m-1))++(i::p))) a f/\dw j f/\w'=w) (i::p) a1 w:=by
         intro G r a1 C Z u aa;have N:=wA ar Y C;simp only[wpList,wC N X,if_true];left;unfold Oper.wp;rw[wB Z u w];simp only[Oper.upon];have Q:da (bV (i::p)) a1 (a1.put i.dst (.bool r)):=da.put M;have:=A p (as.drop m) (dk i.dst (.bool (cond c r1 b5)) e) j (a1.put i.dst (.bool r)) w
          (by rw[aa];exact N.put λk b=>by rw[C.size];exact g k (B k (M k b)))
          (λd hd=>by rw[Q.size,C.size];exact g d (B d (q d hd))) h
         refine iX (λx f w' ⟨av,ax,y,z⟩=>⟨av,(C.mono F).trans ((Q.mono B).trans (ax.mono λk b=>B k (q k b))),y,z⟩) _ _ _ this
        cases c with
        |true=>
         have:=A _ _ _ I a w (ar.lit L) (λd hd=>g d (F d hd)) h1;exact iX (λx f w' ⟨av,ax,y,z⟩=>⟨av,by subst z;exact fin I r1 f ax y V rfl⟩) _ _ _ this
        |false=>
         have:=A _ _ _ K a w (ar.lit L) (λd hd=>g d (F d hd)) h2;exact iX (λx f w' ⟨av,ax,y,z⟩=>⟨av,by subst z;exact fin K b5 f ax y W rfl⟩) _ _ _ this
       .cases h
      .cases h
     .cases h
theorem zx:∀ (n:Nat) (l:O Oper) (as:O kS) (K:Env->J->Prop) (e:Env) (a:Act) (w:J),dw e a->(∀d∈bV l,d<a.tmps.size)->
 fX P tk ops n l as K e w->wpList P ops (gD a (bV l) K) l a w:=by
 intro n
 induction n with
 |zero=>intro l as K e a w _ _ h;cases h
 |succ n C=>
  intro l as K e a w ar i h;have one:∀ (o:Oper) (rest:O Oper) (j:O kS),(∀d∈bV (o::rest),d<a.tmps.size)->
   gY ops o e (jE P tk o (λv w'=>fX P tk ops n rest j K (dk o.dst v e) w') e w) (fX P tk ops n rest j K (dk o.dst undef e) w)->
   wpList P ops (gD a (bV (o::rest)) K) (o::rest) a w:=by
   intro o rest j i h;have D:∀k,o.dst=some k->k∈bV (o::rest):=λk b=>by simp[bV,b]
   have p:∀k,k∈bV rest->k∈bV (o::rest):=λk b=>by
    simp only[bV,qt];split
    .exact b
    .exact jR _ b
   have next:∀ (v:aa) (w':J),fX P tk ops n rest j K (dk o.dst v e) w'->wpList P ops (gD a (bV (o::rest)) K) rest (a.put o.dst v) w':=by
    intro v w' h;have b:da (bV (o::rest)) a (a.put o.dst v):=da.put D;have:=C rest j K (dk o.dst v e) (a.put o.dst v) w' (ar.put λk b=>i k (D k b)) (λd hd=>by rw[b.size];exact i d (p d hd)) h;exact iX (λx y w' ⟨h1,h2,L⟩=>⟨h1,b.trans (h2.mono p),L⟩) _ _ _ this
   rcases qP ar h with ⟨z,q⟩|⟨z,q⟩
   .simp only[wpList,z,if_true]
    exact .inl ((sM ar q).wp next)
   .simp only[wpList,z,fN,if_false]
    exact next _ _ q
  have U:∀ (o:Oper) (rest:O Oper) (ks:O Kd) (j:O kS),(∀d∈bV (o::rest),d<a.tmps.size)->
   gY ops o e (sO P ks o (λv w'=>fX P tk ops n rest j K (dk o.dst v e) w') e w) (fX P tk ops n rest j K (dk o.dst undef e) w)->
   wpList P ops (gD a (bV (o::rest)) K) (o::rest) a w:=by
   intro o rest ks j i h;have D:∀k,o.dst=some k->k∈bV (o::rest):=λk b=>by simp[bV,b]
   have p:∀k,k∈bV rest->k∈bV (o::rest):=λk b=>by
    simp only[bV,qt];split
    .exact b
    .exact jR _ b
   have next:∀ (v:aa) (w':J),fX P tk ops n rest j K (dk o.dst v e) w'->wpList P ops (gD a (bV (o::rest)) K) rest (a.put o.dst v) w':=by
    intro v w' h;have b:da (bV (o::rest)) a (a.put o.dst v):=da.put D;have:=C rest j K (dk o.dst v e) (a.put o.dst v) w' (ar.put λk b=>i k (D k b)) (λd hd=>by rw[b.size];exact i d (p d hd)) h;exact iX (λx y w' ⟨h1,h2,L⟩=>⟨h1,b.trans (h2.mono p),L⟩) _ _ _ this
   rcases qP ar h with ⟨z,q⟩|⟨z,q⟩
   .simp only[wpList,z,if_true]
    exact .inl ((DF ar q).wp next)
   .simp only[wpList,z,fN,if_false]
    exact next _ _ q
  cases l with
  |nil=>exact⟨rfl,.refl _ _,e,ar,h⟩
  |cons o rest=>
   cases as with
   |nil=>exact one o rest [] i (by simpa only[fX] using h)
   |cons V as=>
    cases V with
    |run=>exact one o rest as i (by simpa only[fX] using h)
    |sN ks=>exact U o rest ks as i (by simpa only[fX] using h)
    |split m=>
     simp only[fX]at h;split at h
     .exact one o rest as i (zu h False.elim)
     .rename_i s c f g hg hd
      obtain⟨M,N,h⟩:lZ ops f e=true/\mQ e (bV (o::rest.take (m-1)))=true/\_:=by
       cases h1:lZ ops f e<;>cases h2:mQ e (bV (o::rest.take (m-1)))<;>rw[h1,h2]at h<;>first|exact h.elim|exact⟨rfl,rfl,h⟩
      rw[wE o rest (m-1) hd]at i⊢;have E:=wD hg;refine qN _ _ _ _ ?_;have A:∀k,k∈bV (o::rest.take (m-1))->k∈bV ((o::rest.take (m-1))++(f::g)):=λk b=>by
       simp only[bV,qu,cT];exact .inl b
      have t:∀k,k∈bV (f::g)->k∈bV ((o::rest.take (m-1))++(f::g)):=λk b=>by
       simp only[bV,qu,cT];exact .inr b
      have F:∀k,f.dst=some k->k∈bV (f::g):=λk b=>by simp[bV,b]
      have p:∀k,k∈bV g->k∈bV (f::g):=λk b=>by
       simp only[bV,qt];split
       .exact b
       .exact jR _ b
      have fin:∀ (x:Exit) (a1:Act) (w1:J),gD a (bV (o::rest.take (m-1)))
       (λW w'=>match kT f W with|some r=>fX P tk ops n g (as.drop m) K (dk f.dst (.bool r) e) w'|none=>False) x a1 w1->
       x=.normal/\wpList P ops (gD a (bV ((o::rest.take (m-1))++(f::g))) K) (f::g) a1 w1:=by
       rintro x a1 w1 ⟨hx,u,I,Q,h⟩;refine⟨hx,?_⟩;have G:=wA ar N u;split at h
       .rename_i r q
        simp only[wpList,wC G M,if_true];left;unfold Oper.wp;rw[wB Q q w1];simp only[Oper.upon];have H:da (bV (f::g)) a1 (a1.put f.dst (.bool r)):=da.put F;have:=C g (as.drop m) K (dk f.dst (.bool r) e) (a1.put f.dst (.bool r)) w1
         (G.put λk b=>by rw[u.size];exact i k (t k (F k b)))
         (λd hd=>by rw[H.size,u.size];exact i d (t d (p d hd))) h
        refine iX (λx y w' ⟨av,ax,B⟩=>⟨av,(u.mono A).trans ((H.mono t).trans (ax.mono λk b=>t k (p k b))),B⟩) _ _ _ this
       .exact h.elim
      have h:=h.out
      cases c with
      |true=>
       have:=C _ _ _ _ a w (ar.lit E) (λd hd=>i d (A d hd)) (h.1 rfl);exact iX fin _ _ _ this
      |false=>
       have:=C _ _ _ _ a w (ar.lit E) (λd hd=>i d (A d hd)) (h.2 rfl);exact iX fin _ _ _ this
     .exact h.elim
    |pure m=>
     simp only[fX]at h;split at h
     .exact one o rest as i (zu h False.elim)
     .rename_i s c f g hg hd
      split at h
      .rename_i S T h1 h2
       split at h
       .rename_i r1 b5 X Y
        obtain⟨M,N,h⟩:lZ ops f e=true/\mQ e (bV (o::rest.take (m-1)))=true/\_:=by
         cases av:lZ ops f e<;>cases ax:mQ e (bV (o::rest.take (m-1)))<;>rw[av,ax]at h<;>first|exact h.elim|exact⟨rfl,rfl,h⟩
        rw[wE o rest (m-1) hd]at i⊢;have E:=wD hg;refine qN _ _ _ _ ?_;have A:∀k,k∈bV (o::rest.take (m-1))->k∈bV ((o::rest.take (m-1))++(f::g)):=λk b=>by
         simp only[bV,qu,cT];exact .inl b
        have t:∀k,k∈bV (f::g)->k∈bV ((o::rest.take (m-1))++(f::g)):=λk b=>by
         simp only[bV,qu,cT];exact .inr b
        have F:∀k,f.dst=some k->k∈bV (f::g):=λk b=>by simp[bV,b]
        have p:∀k,k∈bV g->k∈bV (f::g):=λk b=>by
         simp only[bV,qt];split
         .exact b
         .exact jR _ b
        have fin:∀ (I:Env) (r:ai) (a1:Act),da (bV (o::rest.take (m-1))) a a1->dw I a1->kT f I=some r->r=cond c r1 b5->
         wpList P ops (gD a (bV ((o::rest.take (m-1))++(f::g))) K) (f::g) a1 w:=by
         intro I r a1 u Q q Z;have G:=wA ar N u;simp only[wpList,wC G M,if_true];left;unfold Oper.wp;rw[wB Q q w];simp only[Oper.upon];have H:da (bV (f::g)) a1 (a1.put f.dst (.bool r)):=da.put F;have:=C g (as.drop m) K (dk f.dst (.bool (cond c r1 b5)) e) (a1.put f.dst (.bool r)) w
          (by rw[Z];exact G.put λk b=>by rw[u.size];exact i k (t k (F k b)))
          (λd hd=>by rw[H.size,u.size];exact i d (t d (p d hd))) h
         refine iX (λx y w' ⟨av,ax,B⟩=>⟨av,(u.mono A).trans ((H.mono t).trans (ax.mono λk b=>t k (p k b))),B⟩) _ _ _ this
        cases c with
        |true=>
         have:=zw n _ _ _ S a w (ar.lit E) (λd hd=>i d (A d hd)) h1;exact iX (λx y w' ⟨av,ax,B,R⟩=>⟨av,by subst R;exact fin S r1 y ax B X rfl⟩) _ _ _ this
        |false=>
         have:=zw n _ _ _ T a w (ar.lit E) (λd hd=>i d (A d hd)) h2;exact iX (λx y w' ⟨av,ax,B,R⟩=>⟨av,by subst R;exact fin T b5 y ax B Y rfl⟩) _ _ _ this
       .exact h.elim
      .exact h.elim
     .exact h.elim
end
end a7
namespace a7
open Go
structure ad(W:Nat->Prop)(w w':J):Prop where
 os:w'.os=w.os
 tape:w'.tape=w.tape
 output:w'.output=w.output
 size:w.heap.size<=w'.heap.size
 block:∀k,k<w.heap.size->¬W k->w'.heap[k]? =w.heap[k]?
theorem ad.refl(W:Nat->Prop)(w:J):ad W w w:=⟨rfl,rfl,rfl,bp _,λ_ _ _=>rfl⟩
theorem ad.trans{W:Nat->Prop}{a b c:J}(h:ad W a b)(k:ad W b c):ad W a c:=
 ⟨k.os.trans h.os,k.tape.trans h.tape,k.output.trans h.output,eD h.size k.size,λi hi d=>(k.block i (fP hi h.size) d).trans (h.block i hi d)⟩
theorem ad.mono{W V:Nat->Prop}{a b:J}(h:ad W a b)(c:∀k,k<a.heap.size->W k->V k):ad V a b:=
 ⟨h.os,h.tape,h.output,h.size,λi hi d=>h.block i hi λcg=>d (c i hi cg)⟩
theorem ad.cell{W:Nat->Prop}{w w':J}(h:ad W w w'){A:ae}(cg:¬W A.block){v:aa}(a:w.cell? A=some v):w'.cell? A=some v:=by
 have b:A.block<w.heap.size:=by
  rcases dJ A.block w.heap.size with h1|h1
  .exact h1
  .simp[World.cell?,Array.getElem?_eq_none h1]at a
 unfold World.cell? at a⊢;rw[h.block _ b cg];exact a
theorem ad.cD{W:Nat->Prop}{w w':J}(h:ad W w w'){A:ae}(cg:¬W A.block):∀ (n i:Nat) (vs:O aa),cD w A i n=some vs->cD w' A i n=some vs
 |0,_,_,a=>a
 |n+1,i,vs,a=>by
  simp only[a7.cD]at a⊢
  have b:(A.add i).block=A.block:=by unfold Addr.add;split<;>rfl
  cases h1:w.cell? (A.add i) with
  |none=>simp[h1]at a
  |some v=>
   cases h2:a7.cD w A (i+1) n with
   |none=>simp[h1,h2]at a
   |some us=>
    simp only[h1,h2]at a
    rw[h.cell (by rw[b];exact cg) h1,ad.cD h cg n (i+1) us h2]
    exact a
def fY{α:Type}:Sem α->Prop
 | .pure _=>True
 | .program k=>∀p,fY (k p)
 | .halt _=>True
 |_=>False
theorem fY.bind{α β:Type}:∀ {s:Sem α}{f:α->Sem β},fY s->(∀a,fY (f a))->fY (s>>=f)
 | .pure a,_,_,hf=>hf a
 | .program _,_,h,hf=> λp=>fY.bind (h p) hf
 | .halt _,_,_,_=>trivial
 | .load ..,_,h,_=>h.elim
 | .store ..,_,h,_=>h.elim
 | .new ..,_,h,_=>h.elim
 | .shape ..,_,h,_=>h.elim
 | .freeze ..,_,h,_=>h.elim
 | .frozen ..,_,h,_=>h.elim
 | .getObj ..,_,h,_=>h.elim
 | .setObj ..,_,h,_=>h.elim
 | .choose ..,_,h,_=>h.elim
 | .sys ..,_,h,_=>h.elim
 | .mark ..,_,h,_=>h.elim
theorem fY.run{α:Type}{P:Program}:∀ {s:Sem α}{w w':J}{v:α},fY s->s.run P w=.ok v w'->∀u,s.run P u=.ok v u
 | .pure a,w,w',v,_,h,u=>by
  simp only[Sem.run,Result.ok.injEq]at h⊢
  exact⟨h.1,trivial⟩
 | .program k,w,w',v,hf,h,u=>fY.run (hf P) h u
 | .halt _,w,w',v,_,h,_=>by simp[Sem.run]at h
 | .load ..,_,_,_,h,_,_=>h.elim
 | .store ..,_,_,_,h,_,_=>h.elim
 | .new ..,_,_,_,h,_,_=>h.elim
 | .shape ..,_,_,_,h,_,_=>h.elim
 | .freeze ..,_,_,_,h,_,_=>h.elim
 | .frozen ..,_,_,_,h,_,_=>h.elim
 | .getObj ..,_,_,_,h,_,_=>h.elim
 | .setObj ..,_,_,_,h,_,_=>h.elim
 | .choose ..,_,_,_,h,_,_=>h.elim
 | .sys ..,_,_,_,h,_,_=>h.elim
 | .mark ..,_,_,_,h,_,_=>h.elim
theorem zy:fY program:=λ_=>trivial
theorem zz(t:TypeId):fY (underlying t):=by
 unfold underlying;refine fY.bind zy λp=>?_;split<;>trivial
theorem DJ(t:TypeId):fY (typeInfo t):=by
 unfold typeInfo;refine fY.bind zy λp=>?_;split<;>trivial
theorem DK(t:TypeId):fY (Go.sizeOf t):=fY.bind (DJ t) λ_=>trivial
theorem DL(t:TypeId):fY (isAgg t):=by
 unfold isAgg;refine fY.bind (zz t) λd=>?_;split<;>trivial
theorem DM(t:TypeId)(cs:Array aa)(off:Nat):fY (part t cs off):=by
 unfold part;refine fY.bind (DL t) λd=>?_;split
 .exact fY.bind (DK t) λ_=>trivial
 .split<;>trivial
theorem DN(t:TypeId)(x:aa)(i:Nat):fY (Instr.field t x i):=by
 unfold Instr.field;refine fY.bind (zz t) λd=>?_;split
 .split
  .refine fY.bind ?_ λ_=>DM _ _ _
   unfold asAgg;split<;>trivial
  .trivial
 .trivial
def zA:Op->ai
 | .move _=>true
 | .assign _=>true
 | .pick _ _ _=>true
 | .field _ _ _=>true
 |_=>false
def qQ(P:Program)(o:Oper)(K:aa->Prop)(e:Env)(w:J):Prop:=
 bif zA o.op&&known e o.op.operands then
  match (execOp (ro e) o).run P w with
  | .ok (.value v) _=>K v
  |_=>False
 else False
def o8(P:Program)(o:Oper)(K:aa->Prop)(e:Env):Prop:=
 match fi P o e with
 |some v=>K v
 |none=>False
def zB(P:Program)(T:TypeId)(x:aa)(i:Nat)(K:aa->Prop):Prop:=
 match P.underlying T with
 |some (.struct fs)=>match fs[i]? with
  |some f=>match x with
   | .pointer (some A)=>match P.underlying f.type with
    |some _=>bif Nat.beq (P.cellsOf f.type) 0 then False else K (.pointer (some (A.add f.offset)))
    |none=>False
   |_=>False
  |none=>False
 |_=>False
def zC(x:aa)(i:Nat)(K:aa->Prop):Prop:=
 match x with
 | .tuple vs=>match vs[i]? with
  |some v=>K v
  |none=>False
 |_=>False
def jF(o:Oper):ai:=
 match o.op with
 | .load _ _=>true
 | .convert _ _ _=>true
 |_=>false
def kU:Nat->O Oper->Nat
 |_,[]=>0
 |i,o::l=>bif jF o then 2^i|||kU (i+1) l else kU (i+1) l
def wF(P:Program)(tk:TypeId->d_)(W:Nat->Prop)(w:J)(o:Oper)(K:aa->Prop)(e:Env):Prop:=
 match o.op with
 | .nilCheck x=>match ev e x with
  |some (.pointer p)=>∃A,p=some A/\K (.pointer (some A))
  |_=>False
 | .load T x=>match ev e x with
  |some (.pointer (some A))=>¬W A.block/\o3 P tk T A w K
  |_=>False
 | .binOp op T x y _=>match ev e x,ev e y with
  |some a,some c=>bif o7 y c then sE P op T a c K (o8 P o K e) else False
  |_,_=>False
 | .indexAddr T x i=>match ev e x,ev e i with
  |some a,some b=>sI P T a b K
  |_,_=>False
 | .index T x i=>match ev e x,ev e i with
  |some a,some b=>sJ P tk T a b K
  |_,_=>False
 | .field T x i=>match ev e x with
  |some a=>sK P tk T a i K
  |_=>False
 | .fieldAddr T x i=>match ev e x with
  |some a=>zB P T a i K
  |_=>False
 | .extract x i=>match ev e x with
  |some a=>zC a i K
  |_=>False
 | .slice T x lo hi f=>bif known e o.op.operands then
  sL P T (ro e x) (lo.map (ro e)) (hi.map (ro e)) (f.map (ro e)) K
  else False
 | .convert s d x=>match ev e x with
  |some (.int _ _)=>o8 P o K e
  |some v=>ig (tk o.type) λr=>(∀w',ad W w w'->(convert s d v).run P w'=.ok r w')/\K r
  |none=>False
 | .build t ps=>bif known e o.op.operands then
  ∃cs:Array aa,(∀w',(Instr.build t (ps.map λp=>(p.1,ro e p.2))).run P w'=.ok (.agg cs) w')/\K (.agg cs)
  else False
 | .unOp _ _ _=>o8 P o K e
 | .call _=>o8 P o K e
 | .move _=>qQ P o K e w
 | .assign _=>qQ P o K e w
 | .pick _ _ _=>qQ P o K e w
 | .sliceToArrayPointer T x=>match ev e x with
  |some a=>sH P T a K
  |_=>False
 |_=>False
section
variable {P:Program}{tk:TypeId->d_}{W:Nat->Prop}{o:Oper}{K:aa->Prop}{e:Env}{a:Act}{w:J}
theorem wG(ar:dw e a)(h:qQ P o K e w):∃v,(∀w',(execOp a.eval o).run P w'=.ok (.value v) w')/\K v:=by
 unfold qQ at h
 cases hf:zA o.op with
 |false=>rw[hf]at h;exact h.elim
 |true=>
  cases c:known e o.op.operands with
  |false=>rw[hf,c]at h;exact h.elim
  |true=>
   rw[hf,c]at h;simp only[Bool.and_self,cond_true]at h;have hc:=kn ar (by cases b:o.op<;>rw[b]at hf<;>first|rfl|cases hf) c;rw[hc];split at h
   .rename_i v w' d
    refine⟨v,λu=>fY.run ?_ d u,h⟩
    cases b:o.op<;>rw[b]at hf<;>first|(cases hf;done)|skip
    .simp only[execOp,b];trivial
    .simp only[execOp,b];trivial
    .simp only[execOp,b]
     refine fY.bind ?_ λ_=>trivial;unfold asBool;split<;>trivial
    .simp only[execOp,b]
     exact fY.bind (DN _ _ _) λ_=>trivial
   .exact h.elim
theorem sP(ar:dw e a)(h:o8 P o K e):∃v,(∀w',(execOp a.eval o).run P w'=.ok (.value v) w')/\K v:=by
 unfold o8 at h;split at h
 .rename_i v b
  exact⟨v,zv ar b,h⟩
 .exact h.elim
theorem DO(ar:dw e a)(h:wF P tk W w o K e):∃v,(∀w',(jF o=true->ad W w w')->(execOp a.eval o).run P w'=.ok (.value v) w')/\K v:=by
 have aX:(∃v,(∀w',(execOp a.eval o).run P w'=.ok (.value v) w')/\K v)->∃v,(∀w',(jF o=true->ad W w w')->(execOp a.eval o).run P w'=.ok (.value v) w')/\K v:=
  λ⟨v,h1,h2⟩=>⟨v,λw' _=>h1 w',h2⟩
 unfold wF at h;split at h
 case h_1 x b=>
  split at h
  .rename_i p hx
   obtain⟨A,rfl,g⟩:=h;exact⟨_,λw' _=>by simp[execOp,b,ar.ev hx],g⟩
  .exact h.elim
 case h_2 T x b=>
  split at h
  .rename_i A hx
   obtain⟨cg,h⟩:=h;have key:∃v,(∀w',ad W w w'->(Instr.loadAt T (.pointer (some A))).run P w'=.ok v w')/\K v:=by
    have z:∀w',(Instr.loadAt T (.pointer (some A))).run P w'=(loadVar T A).run P w':=λw'=>by simp[Instr.loadAt,Instr.sureAddr]
    unfold o3 at h;split at h
    .exact h.elim
    .rename_i d m
     cases hd:lq d with
     |true=>
      rw[hd]at h;simp only[cond_true]at h;split at h
      .rename_i ls _
       by_cases n:Nat.beq (P.cellsOf T) ls.length=true
       .rw[n]at h
        simp only[cond_true]at h;obtain⟨vs,C,h⟩:=wy h;rw[←iw n]at C;exact⟨_,λw' hc=>by rw[z,sD m hd (hc.cD cg _ _ _ C)],h⟩
       .simp only[fO]at n;rw[n]at h;exact h.elim
      .obtain⟨cs,F,h⟩:=h
       exact⟨_,λw' hc=>by rw[z,sD m hd (hc.cD cg _ _ _ F)],h⟩
     |false=>
      rw[hd]at h;simp only[cond_false]at h;split at h
      .obtain⟨v,j,h⟩:=o1 h
       exact⟨v,λw' hc=>by rw[z,y_ m hd (hc.cell cg j)],h⟩
      .exact h.elim
   obtain⟨v,j,g⟩:=key;exact⟨v,λw' hc=>by simp[execOp,b,ar.ev hx,j w' (hc (by unfold jF;rw[b]))],g⟩
  .exact h.elim
 case h_3 op T x y L b=>
  split at h
  .rename_i l D hx G
   by_cases q:o7 y D=true
   .rw[q]at h
    simp only[cond_true]at h;have H:D=.nilIface->∃c,y=.const c:=by
     intro j;subst j
     cases y<;>simp[o7]at q⊢
    rcases zg (qI:=x) (o6:=y) H h with hg|⟨v,j,g⟩
    .exact aX (sP ar hg)
    .exact⟨v,λw' _=>by
      simp only[execOp,b,ar.ev hx,ar.ev G];have E:=j w';simp only[Sem.run_bind]at E⊢;rw[E];rfl,g⟩
   .simp only[fO]at q;rw[q]at h;exact h.elim
  .exact h.elim
 case h_4 T x i b=>
  split at h
  .rename_i l I hx hi
   obtain⟨v,j,g⟩:=zi h;exact⟨v,λw' _=>by simp[execOp,b,ar.ev hx,ar.ev hi,j],g⟩
  .exact h.elim
 case h_5 T x i b=>
  split at h
  .rename_i l I hx hi
   obtain⟨v,j,g⟩:=zk h;exact⟨v,λw' _=>by simp[execOp,b,ar.ev hx,ar.ev hi,j],g⟩
  .exact h.elim
 case h_6 T x i b=>
  split at h
  .rename_i l hx
   obtain⟨v,j,g⟩:=zl h;exact⟨v,λw' _=>by simp[execOp,b,ar.ev hx,j],g⟩
  .exact h.elim
 case h_7 T x i b=>
  split at h
  .rename_i l hx
   unfold zB at h;split at h
   .rename_i fs m
    split at h
    .rename_i f hf
     split at h
     .rename_i A
      split at h
      .rename_i d hd
       cases u:Nat.beq (P.cellsOf f.type) 0 with
       |true=>rw[u]at h;exact h.elim
       |false=>
        rw[u]at h;have J:¬P.cellsOf f.type=0:=λh0=>by rw[h0]at u;cases u
        exact⟨_,λw' _=>by simp[execOp,b,ar.ev hx,Instr.fieldAt,dm m,hf,Instr.sureAddr,fieldPlace,iC hd,J],h⟩
      .exact h.elim
     .exact h.elim
    .exact h.elim
   .exact h.elim
  .exact h.elim
 case h_8 x i b=>
  split at h
  .rename_i l hx
   unfold zC at h;split at h
   .rename_i vs
    split at h
    .rename_i v j
     exact⟨v,λw' _=>by simp[execOp,b,ar.ev hx,Instr.extract,j],h⟩
    .exact h.elim
   .exact h.elim
  .exact h.elim
 case h_9 T x lo hi M b=>
  by_cases k:known e o.op.operands=true
  .rw[k]at h
   simp only[cond_true]at h;have hc:=kn ar (by rw[b];rfl) k;obtain⟨v,j,g⟩:=zm h;exact⟨v,λw' _=>by rw[hc];simp[execOp,b,j],g⟩
  .simp only[fO]at k;rw[k]at h;exact h.elim
 case h_10 s d x b=>
  split at h
  .exact aX (sP ar h)
  .rename_i v _ hx
   obtain⟨r,B,g⟩:=iB h;exact⟨r,λw' hc=>by simp[execOp,b,ar.ev hx,B w' (hc (by unfold jF;rw[b]))],g⟩
  .exact h.elim
 case h_11 t ps b=>
  by_cases k:known e o.op.operands=true
  .rw[k]at h
   simp only[cond_true]at h;have hc:=kn ar (by rw[b];rfl) k;obtain⟨cs,B,g⟩:=h;exact⟨_,λw' _=>by rw[hc];simp[execOp,b];rw[B];rfl,g⟩
  .simp only[fO]at k;rw[k]at h;exact h.elim
 case h_12=>exact aX (sP ar h)
 case h_13=>exact aX (sP ar h)
 case h_14=>exact aX (wG ar h)
 case h_15=>exact aX (wG ar h)
 case h_16=>exact aX (wG ar h)
 case h_17 T x b=>
  split at h
  .rename_i l hx
   obtain⟨v,j,g⟩:=zh h;exact⟨v,λw' _=>by simp[execOp,b,ar.ev hx,j],g⟩
  .exact h.elim
 case h_18=>exact h.elim
end
inductive aN where
 |take (i:Nat) (t:aN)
 |bR (i:Nat) (t:aN)
 |out (i:Nat) (b:ai) (t:aN)
 |two (i:Nat) (t:aN) (j:Nat) (u:aN)
 |three (i:Nat) (t:aN) (j:Nat) (u:aN) (k:Nat) (v:aN)
 |sp (s:Nat) (t u:aN)
 |fin
 |tail (as:O kS)
def ih:O Nat->Nat
 | []=>0
 |d::l=>2^d|||ih l
theorem l1:∀ (l:O Nat) (k:Nat),(ih l).testBit k=decide (k∈l)
 | [],k=>by simp[ih]
 |d::l,k=>by
  simp only[ih,mD,l1 l k,qv]
  by_cases h:d=k
  .subst h;simp
  .have:¬k=d:=λa=>h a.symm
   simp[h,this]
def mR(o:Oper):O Nat:=(o.after.toList.filter λe=>Region.binds .any e).map (·.on)
structure ko where
 M:O Nat
 A:O Nat
def kp(l:O Nat)(i:Nat):Nat:=l.getD i 0
def kq(b2:ko)(m i:Nat):ai:= !(m.testBit i)&&Nat.beq (kp b2.M i&&&m) (kp b2.M i)
def zD(b2:ko)(N m i:Nat):ai:=Nat.beq (kp b2.A i&&&((2^N-1)^^^m)) 0
def kV(b2:ko)(m:Nat)(is:O Nat):Nat->ai
 |0=>true
 |k+1=>(is.any (Nat.beq k)|| !(kq b2 m k))&&kV b2 m is k
def qR(b2:ko):Nat->O Oper->ai
 |_,[]=>true
 |i,o::l=>Nat.beq (ih (mR o)) (kp b2.M i)&&qR b2 (i+1) l
def qS(M:O Nat)(a i b c:Nat):Nat->O Nat->O Nat->O Nat->ai
 |j,e::f,d::g,h::k=>(a.testBit j||(Nat.beq i j||(e.testBit i||(Nat.beq (b&&&(h|||d)) 0&&Nat.beq (d&&&c) 0))))&&qS M a i b c (j+1) f g k
 |_,_,_,_=>true
def sQ(b2:ko)(D K:O Nat):Nat->O Nat->O Nat->ai
 |i,d::a,k::b=>qS b2.M (kp b2.A i) i d k 0 b2.M D K&&sQ b2 D K (i+1) a b
 |_,_,_=>true
def zE(ops:O Oper):O Nat:=ops.map λo=>ih o.dst.toList
def zF(a:Array Oper)(ops:O Oper):O Nat:=ops.map λo=>ih (o.looksAt a)
def qT:O Nat->O Nat->ai
 | [],[]=>true
 |a::l,b::r=>Nat.beq a b&&qT l r
 |_,_=>false
theorem wH:∀ {l r:O Nat},qT l r=true->l=r
 | [],[],_=>rfl
 |a::l,b::r,h=>by
  simp only[qT,dZ]at h
  rw[iw h.1,wH h.2]
def lu(b2:ko)(D K:O Nat)(a:Array Oper):ai:=
 Nat.beq b2.M.length a.size&&(qR b2 0 a.toList&&(qT (zE a.toList) D&&(qT (zF a a.toList) K&&sQ b2 D K 0 D K)))
def qU(b2:ko):Nat->Nat->Nat->Nat->ai
 |0,_,N,m=>kV b2 m [] N
 |g+1,k,N,m=>(kq b2 m k&&kV b2 m [k] N)&&qU b2 g (k+1) N (m|||2^k)
def en(P:Program)(tk:TypeId->d_)(ops:Array Oper)(n:Nat)(b2:ko)(W:Nat->Prop):aN->Nat->Nat->(Env->J->Prop)->Env->J->Prop
 | .take i t,f+1,m,K,e,w=>
  bif kq b2 m i&&(zD b2 ops.size m i&&Nat.blt i n) then
   match ops[i]? with
   |some o=>gY ops o e (wF P tk W w o (λv=>en P tk ops n b2 W t f (m|||2^i) K (dk o.dst v e) w) e) (en P tk ops n b2 W t f (m|||2^i) K (dk o.dst undef e) w)
   |none=>False
  else False
 | .bR i t,f+1,m,K,e,w=>
  bif (kq b2 m i&&kV b2 m [i] ops.size)&&Nat.blt i n then
   match ops[i]? with
   |some o=>gY ops o e (jE P tk o (λv w'=>ad W w w'/\en P tk ops n b2 W t f (m|||2^i) K (dk o.dst v e) w') e w) (en P tk ops n b2 W t f (m|||2^i) K (dk o.dst undef e) w)
   |none=>False
  else False
 | .out i b t,f+1,m,K,e,w=>
  bif (kq b2 m i&&kV b2 m [i] ops.size)&&(Nat.blt i n&&Nat.beq ((kU 0 ops.toList&&&m)&&&kp b2.M i) (kU 0 ops.toList&&&m)) then
   match ops[i]? with
   |some o=>gY ops o e (jE P tk o (λv w'=>bif b then ∃V:Nat->Prop,en P tk ops n b2 V t f (m|||2^i) K (dk o.dst v e) w' else en P tk ops n b2 W t f (m|||2^i) K (dk o.dst v e) w') e w) (en P tk ops n b2 W t f (m|||2^i) K (dk o.dst undef e) w)
   |none=>False
  else False
 | .two i t j u,f+1,m,K,e,w=>
  bif (kq b2 m i&&kV b2 m [i,j] ops.size)&&(Nat.blt i n&&Nat.blt j n) then
   match ops[i]?,ops[j]? with
   |some o,some q=>
    gY ops o e (jE P tk o (λv w'=>ad W w w'/\en P tk ops n b2 W t f (m|||2^i) K (dk o.dst v e) w') e w) (en P tk ops n b2 W t f (m|||2^i) K (dk o.dst undef e) w)/\
    gY ops q e (jE P tk q (λv w'=>ad W w w'/\en P tk ops n b2 W u f (m|||2^j) K (dk q.dst v e) w') e w) (en P tk ops n b2 W u f (m|||2^j) K (dk q.dst undef e) w)
   |_,_=>False
  else False
 | .three i t j u k x,f+1,m,K,e,w=>
  bif (kq b2 m i&&kV b2 m [i,j,k] ops.size)&&(Nat.blt i n&&(Nat.blt j n&&Nat.blt k n)) then
   match ops[i]?,ops[j]?,ops[k]? with
   |some o,some q,some r=>
    gY ops o e (jE P tk o (λv w'=>ad W w w'/\en P tk ops n b2 W t f (m|||2^i) K (dk o.dst v e) w') e w) (en P tk ops n b2 W t f (m|||2^i) K (dk o.dst undef e) w)/\
    gY ops q e (jE P tk q (λv w'=>ad W w w'/\en P tk ops n b2 W u f (m|||2^j) K (dk q.dst v e) w') e w) (en P tk ops n b2 W u f (m|||2^j) K (dk q.dst undef e) w)/\
    gY ops r e (jE P tk r (λv w'=>ad W w w'/\en P tk ops n b2 W x f (m|||2^k) K (dk r.dst v e) w') e w) (en P tk ops n b2 W x f (m|||2^k) K (dk r.dst undef e) w)
   |_,_,_=>False
  else False
 | .sp s t u,f,m,K,e,w=>
  match e.get s with
  |some (.bool c)=>(c=true->en P tk ops n b2 W t f m K ((s,.bool true)::e) w)/\(c=false->en P tk ops n b2 W u f m K ((s,.bool false)::e) w)
  |_=>False
 | .fin,0,m,K,e,w=>bif kV b2 m [] ops.size&&Nat.beq n ops.size then K e w else False
 | .tail as,0,m,K,e,w=>bif qU b2 (ops.size-n) n ops.size m&&Nat.blt n ops.size then fX P tk ops (ops.size-n+1) (ops.toList.drop n) as K e w else False
 |_,_,_,_,_,_=>False
def eM(N m:Nat):Array ai:=(Array.range N).map λi=>m.testBit i
theorem o9{N m i:Nat}{d:ai}(h:i<N):(eM N m).getD i d=m.testBit i:=by
 simp[eM,h]
theorem DP{N m i:Nat}{d:ai}(h:N<=i):(eM N m).getD i d=d:=by
 simp[eM,h]
theorem sR(N m i:Nat):(eM N m).setIfInBounds i true=eM N (m|||2^i):=by
 apply Array.ext
 .simp[eM]
 .intro j h1 h2
  have b:j<N:=by simpa[eM] using h2
  have c:j<(eM N m).size:=by simpa[eM] using b
  rw[Array.getElem_setIfInBounds c];simp only[eM,Array.getElem_map,Array.getElem_range,mD,qv];by_cases a:i=j
  .subst a;simp
  .simp[a]
theorem zG(N:Nat):eM N 0=Array.replicate N false:=by
 apply Array.ext
 .simp[eM]
 .intro j h1 h2
  simp[eM]
section
variable {ops:Array Oper}{b2:ko}{D K:O Nat}
theorem zH:∀ (l:O Oper) (i k:Nat) (o:Oper),qR b2 i l=true->l[k]? =some o->kp b2.M (i+k)=ih (mR o)
 | [],_,_,_,_,h=>by simp at h
 |p::l,i,0,o,hc,h=>by
  simp only[qR,dZ]at hc
  simp only[lg,Option.some.injEq]at h
  subst h
  exact(iw hc.1).symm
 |p::l,i,k+1,o,hc,h=>by
  simp only[qR,dZ]at hc
  have:=zH l (i+1) k o hc.2 (by simpa using h)
  rw[show i+(k+1)=i+1+k from I]
  exact this
theorem sS(h:lu b2 D K ops=true){i:Nat}{o:Oper}(a:ops[i]? =some o):kp b2.M i=ih (mR o):=by
 simp only[lu,dZ]at h;have:=zH ops.toList 0 i o h.2.1 (by simpa using a);simpa using this
theorem zI{a b:Nat}(h:a&&&b=a){k:Nat}(c:a.testBit k=true):b.testBit k=true:=by
 have:=congrArg (λx=>x.testBit k) h;simp only[Nat.testBit_and,c,jh]at this;exact this
theorem zJ:∀ (l:O Oper) (i k:Nat) (o:Oper),l[k]? =some o->(kU i l).testBit (i+k)=jF o
 | [],_,_,_,h=>by simp at h
 |p::l,i,0,o,h=>by
  simp only[lg,Option.some.injEq]at h
  subst h
  have low:∀ (l:O Oper) (i k:Nat),k<i->(kU i l).testBit k=false:=by
   intro l
   induction l with
   |nil=>intro i k _;simp[kU]
   |cons q l a=>
    intro i k b;simp only[kU]
    cases jF q
    .exact a (i+1) k I
    .simp only[cond_true,mD,qv,a (i+1) k I,Bool.or_false,jw]
     omega
  simp only[kU,kN]
  cases jF p
  .exact low l (i+1) i I
  .simp[mD]
 |p::l,i,k+1,o,h=>by
  have:=zJ l (i+1) k o (by simpa using h);rw[show i+1+k=i+(k+1) from I]at this;simp only[kU]
  cases jF p
  .exact this
  .simp only[cond_true,mD,qv,this]
   simp
theorem sT{o:Oper}{k:Nat}:k∈mR o↔∃e∈o.after,Region.binds .any e=true/\e.on=k:=by
 simp only[mR,eE,hJ,Array.mem_toList_iff];constructor
 .rintro⟨e,⟨h1,h2⟩,a⟩;exact⟨e,h1,h2,a⟩
 .rintro⟨e,h1,h2,a⟩;exact⟨e,⟨h1,h2⟩,a⟩
def Small(N m:Nat):Prop:=∀k,N<=k->m.testBit k=false
theorem DQ(N:Nat):Small N 0:=λk _=>by simp
theorem sU{N m i:Nat}(h:Small N m)(hi:i<N):Small N (m|||2^i):=λk a=>by
 simp only[mD,h k a,qv,jS,jw]
 omega
theorem sV(hc:lu b2 D K ops=true){m i:Nat}(f:Small ops.size m):i∈Region.ready .any ops (eM ops.size m)↔i<ops.size/\kq b2 m i=true:=by
 rw[mem_ready];constructor
 .rintro⟨h1,o,a,g⟩
  have hi:i<ops.size:=(lS.1 a).1;refine⟨hi,?_⟩;rw[o9 hi]at h1;simp only[kq,h1,Bool.not_false,jh];rw[sS hc a];have:ih (mR o)&&&m=ih (mR o):=by
   apply Nat.eq_of_testBit_eq;intro k;simp only[Nat.testBit_and,l1];by_cases b:k∈mR o
   .obtain⟨e,he,c,j⟩:=sT.1 b
    have h2:=g e he c;rw[j]at h2;rcases dJ k ops.size with aK|l
    .rw[o9 aK]at h2;simp[b,h2]
    .rw[DP l]at h2;cases h2
   .simp[b]
  rw[this];exact Nat.beq_refl _
 .rintro⟨hi,h⟩
  simp only[kq,dZ,lf]at h;have a:ops[i]? =some ops[i]:=by simp[hi]
  refine⟨by rw[o9 hi];exact h.1,ops[i],a,λe he c=>?_⟩;have h2:=iw h.2;rw[sS hc a]at h2;have d:m.testBit e.on=true:=zI h2 (by
   rw[l1];simp only[cQ];exact sT.2 ⟨e,he,c,rfl⟩)
  have aK:e.on<ops.size:=by
   rcases dJ e.on ops.size with h|h
   .exact h
   .rw[f _ h]at d;cases d
  rw[o9 aK];exact d
theorem zK:∀ (N:Nat) {m:Nat}{is:O Nat},kV b2 m is N=true->∀k,k<N->kq b2 m k=true->k∈is
 |0,_,_,_,k,b,_=>by omega
 |N+1,m,is,h,k,b,a=>by
  simp only[kV,dZ,iS,lf]at h
  rcases dJ k N with h1|h1
  .exact zK N h.2 k h1 a
  .have:k=N:=by omega
   subst this
   rcases h.1 with h2|h2
   .obtain⟨x,hx,c⟩:=List.any_eq_true.1 h2
    rw[iw c];exact hx
   .rw[a]at h2;cases h2
theorem nI(hc:lu b2 D K ops=true){m:Nat}{is:O Nat}(a:Small ops.size m)(h:kV b2 m is ops.size=true):
 ∀k∈Region.ready .any ops (eM ops.size m),k∈is:=λk b=>
 let ⟨h1,h2⟩:=(sV hc a).1 b
 zK _ h k h1 h2
theorem zL:∀ (b c d:O Nat) (n:O Nat) (e i f g j k:Nat) (l a m:Nat),qS n e i f g j b c d=true->b[k]? =some l->c[k]? =some a->d[k]? =some m->
 e.testBit (j+k)=true\/i=j+k\/l.testBit i=true\/(f&&&(m|||a)=0/\a&&&g=0)
 | [],_,_,_,_,_,_,_,_,_,_,_,_,_,h,_,_=>by simp at h
 |_::_,[],_,_,_,_,_,_,_,_,_,_,_,_,_,h,_=>by simp at h
 |_::_,_::_,[],_,_,_,_,_,_,_,_,_,_,_,_,_,h=>by simp at h
 |p::b,q::c,r::d,n,e,i,f,g,j,k,l,a,m,hc,h1,h2,o=>by
  simp only[qS,dZ,iS]at hc
  cases k with
  |zero=>
   simp only[lg,Option.some.injEq]at h1 h2 o
   subst h1 h2 o
   rcases hc.1 with h|h|h|h
   .exact .inl h
   .exact .inr (.inl (iw h))
   .exact .inr (.inr (.inl h))
   .exact .inr (.inr (.inr ⟨iw h.1,iw h.2⟩))
  |succ k=>
   have:=zL b c d n e i f g (j+1) k l a m hc.2 (by simpa using h1) (by simpa using h2) (by simpa using o)
   rw[show j+(k+1)=j+1+k from I]
   exact this
theorem zM:∀ (a b:O Nat) (i k:Nat) (c e:Nat),sQ b2 D K i a b=true->a[k]? =some c->b[k]? =some e->
 qS b2.M (kp b2.A (i+k)) (i+k) c e 0 b2.M D K=true
 | [],_,_,_,_,_,_,h,_=>by simp at h
 |_::_,[],_,_,_,_,_,_,h=>by simp at h
 |d::a,f::b,i,k,c,e,hc,h1,h2=>by
  simp only[sQ,dZ]at hc
  cases k with
  |zero=>
   simp only[lg,Option.some.injEq]at h1 h2
   subst h1 h2
   exact hc.1
  |succ k=>
   have:=zM a b (i+1) k c e hc.2 (by simpa using h1) (by simpa using h2)
   rw[show i+(k+1)=i+1+k from I]
   exact this
theorem wI{a b:Nat}(h:a&&&b=0){k:Nat}(c:a.testBit k=true):b.testBit k=false:=by
 have:=congrArg (λx=>x.testBit k) h;simp only[Nat.testBit_and,c,jh,Nat.zero_testBit]at this;exact this
theorem DR{x y:Oper}(h1:ih x.dst.toList&&&(ih (y.looksAt ops)|||ih y.dst.toList)=0)(h2:ih y.dst.toList&&&ih (x.looksAt ops)=0):
 x.apart ops y=true:=by
 unfold Oper.apart;simp only[dZ];refine⟨?_,?_⟩
 .cases hx:x.dst with
  |none=>rfl
  |some d=>
   rw[hx]at h1;have a:=wI h1 (k:=d) (by rw[l1];simp);simp only[mD,l1,nw,jw]at a;simp only[dZ,lf,bne_iff_ne,ne_eq];refine⟨by simpa using a.1,λh=>?_⟩;rw[h]at a;simp at a
 .cases b:y.dst with
  |none=>rfl
  |some d=>
   rw[b]at h2;have a:=wI h2 (k:=d) (by rw[l1];simp);simp only[l1,jw]at a;simpa using a
theorem DS(hc:lu b2 D K ops=true){m i:Nat}{d:Oper}(hi:ops[i]? =some d)(h:zD b2 ops.size m i=true):
 ∀j a,ops[j]? =some a->j≠i->(eM ops.size m).getD j true=false->(∀e∈a.after,Region.binds .any e=true->e.on≠i)->d.apart ops a=true:=by
 intro j a b p f q;have r:=hc;simp only[lu,dZ]at hc;obtain⟨hlen,B,s,t,ar⟩:=hc;have C:=iw hlen;have u:=wH s;have v:=wH t;have g:j<ops.size:=(lS.1 b).1;have l:∀ {k:Nat}{o:Oper},ops[k]? =some o->D[k]? =some (ih o.dst.toList):=λ{k o} c=>by
  rw[←u];simp[zE,c]
 have n:∀ {k:Nat}{o:Oper},ops[k]? =some o->K[k]? =some (ih (o.looksAt ops)):=λ{k o} c=>by
  rw[←v];simp[zF,c]
 have w:=zM D K 0 i _ _ ar (l hi) (n hi);have x:b2.M[j]? =some (kp b2.M j):=by
  unfold kp;have:j<b2.M.length:=by omega
  simp[List.getD,this]
 have:=zL b2.M D K b2.M _ _ _ _ 0 j _ _ _ w x (l b) (n b);simp only[cB]at this;rcases this with h1|h1|h1|h1
 .exfalso
  have h2:=iw h;have y:=wI h2 h1;rw[o9 g]at f;simp[Nat.testBit_xor,Nat.testBit_two_pow_sub_one,g,f]at y
 .exact absurd h1.symm p
 .exfalso
  rw[sS r b,l1]at h1;simp only[cQ]at h1;obtain⟨e,he,z,A⟩:=sT.1 h1;exact q e he z A
 .exact DR h1.1 h1.2
end
def nJ(ops:Array Oper)(b:Array ai)(j:Nat):Prop:=
 ∀k ok a,ops[k]? =some ok->ops[j]? =some a->jF ok=true->b.getD k false=true->∃e∈a.after,Region.binds .any e=true/\e.on=k
def lv(P:Program)(ops:Array Oper)(Q:Exit->Act->J->Prop)(n:Nat)(L:Array ai->Act->J->Prop):Nat->(J->Prop)->Array ai->Act->J->Prop
 |0,_,b,a,w=>L b a w
 |f+1,S,b,a,w=>Region.ready .any ops b≠ []/\
  ∀i∈Region.ready .any ops b,i<n/\wpOp P ops Q i (λc w'=>∃ay:J->Prop,((∀x,ay x->S x)\/nJ ops b i)/\ay w'/\lv P ops Q n L f ay (b.setIfInBounds i true) c w') a w
def qV(ops:Array Oper)(n:Nat):Prop:=
 ∀a,HeadInv .any ops n a->∀i,i<n->a.getD i true=false->∀t,n<=t->t∉Region.ready .any ops a
theorem DT(ops:Array Oper):qV ops ops.size:=by
 intro c _ i _ _ t ht a;obtain⟨_,o,b,_⟩:=mem_ready.1 a;have:=(lS.1 b).1;omega
theorem DU{ops:Array Oper}{n:Nat}(hs:Region.sinkB .any ops n=true)(hc:Region.chainB .any ops n=true)(a:n<ops.size):qV ops n:=
 λ_ inv i hi b t ht=>tail_waits hs hc a inv _ i rfl hi b t ht
section
variable {P:Program}{ops:Array Oper}{Q:Exit->Act->J->Prop}{n:Nat}{L:Array ai->Act->J->Prop}
theorem YieldsIf.mono{S ay:J->Prop}{o:Oper}{v:aa}{a:Act}(h:YieldsIf P ops S o v a)(hs:∀x,ay x->S x):YieldsIf P ops ay o v a:=
 h.imp (λ⟨h1,h2⟩=>⟨h1,λw b=>h2 w (hs w b)⟩) id
theorem DV(F:qV ops n){i:Nat}{m:Oper}{v:aa}(hi:ops[i]? =some m)(G:∀ (j:Nat) (o:Oper) cs b,ops[j]? =some o->o.op≠ .select cs b)
 (ad:∀c a w,Q (.panic c) (a.put m.dst v) w->Q (.panic c) a w) (I:i<n) (ae:∀d a w,L d a w->∀j∈Region.ready .any ops d,n<=j):
 ∀ (f:Nat) (S T:J->Prop) (d:Array ai) (a:Act) (w:J),(∀x,S x->T x)->(jF m=true\/∀x,T x)->HeadInv .any ops n d->
  (∀j r,ops[j]? =some r->j≠i->d.getD j true=false->(∀e∈r.after,Region.binds .any e=true->e.on≠i)->m.apart ops r=true)->
  i∈Region.ready .any ops d->YieldsIf P ops T m v a->S w->
  lv P ops Q n L f S (d.setIfInBounds i true) (a.put m.dst v) w->lv P ops Q n L (f+1) S d a w:=by
 intro f
 induction f with
 |zero=>
  intro S T d a w y K inv _ p z t H;have g:=(mem_ready.1 p).1;refine⟨λh=>(by rw[h]at p;cases p),λj s=>?_⟩;have u:j<n:=by
   rcases dJ j n with h|h
   .exact h
   .exact absurd s (F d inv i I g j h)
  refine⟨u,?_⟩;by_cases q:j=i
  .subst q;exact(YieldsIf.mono z y).wpOp hi t ⟨S,.inl λ_ h=>h,t,H⟩
  .have:=ae _ _ _ H j (ready_mono s q)
   omega
 |succ f M=>
  intro S T d a w y K inv N p z t H;have g:=(mem_ready.1 p).1;refine⟨λh=>(by rw[h]at p;cases p),λj s=>?_⟩;have u:j<n:=by
   rcases dJ j n with h|h
   .exact h
   .exact absurd s (F d inv i I g j h)
  refine⟨u,?_⟩;by_cases q:j=i
  .subst q;exact(YieldsIf.mono z y).wpOp hi t ⟨S,.inl λ_ h=>h,t,H⟩
  .have h1:=(H.2 j (ready_mono s q)).2
   obtain⟨O,r,A,af⟩:=mem_ready.1 s;have R:∀e∈r.after,Region.binds .any e=true->e.on≠i:=λe he C ag=>by
    have h1:=af e he C;rw[ag,getD_both g]at h1
    cases h1
   have h2:=wpOp_putIf A (N j r A q O R) (λcs b=>G i m cs b hi) (λcs b=>G j r cs b A) ad z h1;have U:∀k ok,ops[k]? =some ok->k≠i->(d.setIfInBounds j true).getD k true=false->
    (∀e∈ok.after,Region.binds .any e=true->e.on≠i)->m.apart ops ok=true:=λk ok D ah g aj=>by
    refine N k ok D ah ?_ aj;by_cases V:j=k
    .subst V;exact O
    .rw[getD_set_ne true V]at g;exact g
   refine wpOp_mono (λW w' ak=>?_) h2;obtain⟨X,ay,Y,B,al⟩:=ak;have E:=al;rw[←Array.setIfInBounds_comm _ _ q]at E;have am:nJ ops (d.setIfInBounds i true) j->nJ ops d j:=λan k ok ao D ap hs l=>an k ok ao D ap hs (by
    by_cases Z:i=k
    .subst Z
     have:d.getD i true=true:=by
      simp only[Array.getD]at l⊢;split at l
      .rename_i aK;simp[aK]at l⊢;exact l
      .cases l
     rw[this]at g;cases g
    .simp only[Array.getD,Array.size_setIfInBounds]at l⊢
     split at l
     .rename_i aK
      simp only[aK,dif_pos];simp only[Array.getInternal_eq_getElem]at l⊢;rw[Array.getElem_setIfInBounds_ne _ Z];exact l
     .cases l)
   rcases K with hs|ab
   .have ac:∀x,ay x->S x:=by
     rcases Y with h|h
     .exact h
     .exfalso
      obtain⟨e,he,C,aq⟩:=h i m r hi A hs (by
       have aK:i<d.size:=by
        rcases dJ i d.size with h|h
        .exact h
        .simp[Array.getD,Nat.not_lt.2 h]at g
       simp[Array.getD,aK])
      exact R e he C aq
    exact⟨ay,.inl ac,B,M ay T (d.setIfInBounds j true) W w' (λx hx=>y x (ac x hx)) (.inl hs) (inv.set s u) U (ready_mono p (Ne.symm q)) X B E⟩
   .exact⟨ay,Y.imp id am,B,M ay T (d.setIfInBounds j true) W w' (λx _=>ab x) (.inr ab) (inv.set s u) U (ready_mono p (Ne.symm q)) X B E⟩
theorem zN{g:Nat}(c:∀b a w,L b a w->wpAny P .any ops Q g b a w):
 ∀ (f:Nat) (S:J->Prop) (b:Array ai) (a:Act) (w:J),lv P ops Q n L f S b a w->wpAny P .any ops Q (f+g) b a w
 |0,_,b,a,w,h=>by rw[cB];exact c _ _ _ h
 |f+1,S,b,a,w,h=>by
  rw[show f+1+g=(f+g)+1 from I]
  exact⟨λh0=>absurd h0 h.1,λi hi=>wpOp_mono (λd w' ⟨ay,_,_,e⟩=>zN c f ay _ d w' e) (h.2 i hi).2⟩
def LE(P:Program)(ops:Array Oper)(Q:Exit->Act->J->Prop)(n:Nat)(b:Array ai)(a:Act)(w:J):Prop:=
 (Region.ready .any ops b=[]/\n=ops.size/\Q .normal a w)\/
 (Region.seqB .any ops (ops.size-n) n b=true/\n<ops.size/\wpList P ops Q (ops.toList.drop n) a w)
theorem DW:∀b a w,LE P ops Q n b a w->∀j∈Region.ready .any ops b,n<=j:=by
 rintro b a w (⟨h,_,_⟩|⟨h,d,_⟩) j c
 .rw[h]at c;cases c
 .exact seqB_ready h j c
theorem DX:∀b a w,LE P ops Q n b a w->wpAny P .any ops Q (ops.size-n) b a w:=by
 rintro b a w (⟨h,d,c⟩|⟨h,d,c⟩)
 .subst d
  rw[nx];exact⟨h,c⟩
 .have:=wpAny_of_seq (md:=.any) (P:=P) (Q':=Q) (ops.toList.drop n) n b a w (λj=>by simp[sh]) (by simpa using h) c
  simpa using this
end
section
variable {P:Program}{tk:TypeId->d_}{ops:Array Oper}{n:Nat}{b2:ko}{D0 ew:O Nat}{W:Nat->Prop}
theorem zO(hc:lu b2 D0 ew ops=true):∀ (g k m:Nat),Small ops.size m->k+g=ops.size->qU b2 g k ops.size m=true->Region.seqB .any ops g k (eM ops.size m)=true
 |0,k,m,c,e,h=>by
  simp only[qU]at h
  simp only[Region.seqB,List.isEmpty_iff]
  cases f:Region.ready .any ops (eM ops.size m) with
  |nil=>rfl
  |cons x l=>
   have:=nI hc c h x (by rw[f];simp)
   cases this
 |g+1,k,m,c,e,h=>by
  simp only[qU,dZ]at h
  simp only[Region.seqB,dZ,cQ]
  have d:k<ops.size:=by omega
  have b:k∈Region.ready .any ops (eM ops.size m):=(sV hc c).2 ⟨d,h.1.1⟩
  refine⟨?_,?_⟩
  .have a:=nI hc c h.1.2
   have c7:(Region.ready .any ops (eM ops.size m)).Nodup:=by
    unfold Region.ready;exact List.Pairwise.filter _ List.nodup_range
   revert b a c7
   generalize Region.ready .any ops (eM ops.size m)=l;intro b a c7
   match l,b,a,c7 with
   | [],b,_,_=>cases b
   | [x],b,a,_=>rw[fo.1 (a x (by simp))]
   |x::y::l,_,a,c7=>
    have hx:=fo.1 (a x (by simp));have i:=fo.1 (a y (by simp));simp[hx,i]at c7
  .rw[sR]
   exact zO hc g (k+1) (m|||2^k) (sU c d) I h.2
theorem DY(hc:lu b2 D0 ew ops=true)(am:qV ops n)(aG:n<=ops.size)(an:Region.noSelect ops=true){a0:Act}(ac:∀d∈bV ops.toList,d<a0.tmps.size):
 ∀ (t:aN) (W:Nat->Prop) (f:Nat) (m:Nat) (K:Env->J->Prop) (e:Env) (a:Act) (w:J),dw e a->da (bV ops.toList) a0 a->Small ops.size m->HeadInv .any ops n (eM ops.size m)->
  en P tk ops n b2 W t f m K e w->lv P ops (gD a0 (bV ops.toList) K) n (LE P ops (gD a0 (bV ops.toList) K) n) f (ad W w) (eM ops.size m) a w:=by
 intro t;have O:∀ (i:Nat) (o:Oper),ops[i]? =some o->∀k,o.dst=some k->k∈bV ops.toList:=by
  intro i o z k g;simp only[bV,List.mem_filterMap];exact⟨o,by simpa using Array.mem_of_getElem? z,g⟩
 have Q:∀ (W:Nat->Prop) (t:aN),(∀ (W:Nat->Prop) (f:Nat) (m:Nat) (K:Env->J->Prop) (e:Env) (a:Act) (w:J),dw e a->da (bV ops.toList) a0 a->Small ops.size m->HeadInv .any ops n (eM ops.size m)->
  en P tk ops n b2 W t f m K e w->lv P ops (gD a0 (bV ops.toList) K) n (LE P ops (gD a0 (bV ops.toList) K) n) f (ad W w) (eM ops.size m) a w)->
  ∀ (f:Nat) (m:Nat) (K:Env->J->Prop) (e:Env) (a:Act) (w:J) (i:Nat) (o:Oper),dw e a->da (bV ops.toList) a0 a->Small ops.size m->HeadInv .any ops n (eM ops.size m)->
  i∈Region.ready .any ops (eM ops.size m)->i<n->ops[i]? =some o->
  gY ops o e (jE P tk o (λv w'=>ad W w w'/\en P tk ops n b2 W t f (m|||2^i) K (dk o.dst v e) w') e w) (en P tk ops n b2 W t f (m|||2^i) K (dk o.dst undef e) w)->
  wpOp P ops (gD a0 (bV ops.toList) K) i (λaj w'=>∃ay:J->Prop,((∀x,ay x->ad W w x)\/nJ ops (eM ops.size m) i)/\ay w'/\lv P ops (gD a0 (bV ops.toList) K) n (LE P ops (gD a0 (bV ops.toList) K) n) f ay ((eM ops.size m).setIfInBounds i true) aj w') a w:=by
  intro W t N f m K e a w i o ar g p inv R H z h;have next:∀ (v:aa) (w':J),ad W w w'->en P tk ops n b2 W t f (m|||2^i) K (dk o.dst v e) w'->
   ∃ay:J->Prop,((∀x,ay x->ad W w x)\/nJ ops (eM ops.size m) i)/\ay w'/\lv P ops (gD a0 (bV ops.toList) K) n (LE P ops (gD a0 (bV ops.toList) K) n) f ay ((eM ops.size m).setIfInBounds i true) (a.put o.dst v) w':=by
   intro v w' ao h;have A:da (bV ops.toList) a (a.put o.dst v):=da.put (O i o z);have hinv:=inv.set R H;rw[sR]at hinv⊢;exact⟨ad W w',.inl λx hx=>ao.trans hx,.refl _ _,N W f _ K _ _ w' (ar.put λk T=>by rw[g.size];exact ac k (O i o z k T)) (g.trans A) (sU p I) hinv h⟩
  unfold wpOp;simp only[z];rcases qP ar h with ⟨F,G⟩|⟨F,G⟩
  .simp only[F,if_true]
   exact .inl ((sM ar G).wp λv w' ⟨h1,h2⟩=>next v w' h1 h2)
  .simp only[F,fN,if_false]
   exact next _ _ (.refl _ _) G
 have ae:∀ {b c d:ai}{X:Prop},(bif b&&(c&&d) then X else False)->b=true/\c=true/\d=true/\X:=by
  intro b c d X h
  cases b<;>cases c<;>cases d<;>first|exact h.elim|exact⟨rfl,rfl,rfl,h⟩
 have ag:∀ {b c:ai}{X:Prop},(bif b&&c then X else False)->b=true/\c=true/\X:=by
  intro b c X h
  cases b<;>cases c<;>first|exact h.elim|exact⟨rfl,rfl,h⟩
 have B:∀ {i j:Nat},Nat.blt i j=true->i<j:=λh=>by
  have:=mE h;omega
 have ne_nil:∀ {m i:Nat},Small ops.size m->kq b2 m i=true->i<ops.size->Region.ready .any ops (eM ops.size m)≠ []:=λp h hi h0=>by
  have:=(sV hc p).2 ⟨hi,h⟩;rw[h0]at this;cases this
 induction t with
 |take i t N=>
  intro W f m K e a w ar g p inv h
  cases f with
  |zero=>simp[en]at h
  |succ f=>
   simp only[en]at h;obtain⟨h1,h2,D,h⟩:=ae h;have H:=B D;have R:i∈Region.ready .any ops (eM ops.size m):=(sV hc p).2 ⟨I,h1⟩;split at h
   .rename_i o z
    have fin:∀v,YieldsIf P ops (λx=>jF o=true->ad W w x) o v a->en P tk ops n b2 W t f (m|||2^i) K (dk o.dst v e) w->
     lv P ops (gD a0 (bV ops.toList) K) n (LE P ops (gD a0 (bV ops.toList) K) n) (f+1) (ad W w) (eM ops.size m) a w:=by
     intro v ap h;have A:da (bV ops.toList) a (a.put o.dst v):=da.put (O i o z);refine DV am z (Region.noSelect_spec an) (λc a w U=>by cases U.1) H DW f (ad W w) (λx=>jF o=true->ad W w x) _ a w (λ_ h _=>h) (by cases hs:jF o<;>simp) inv (DS hc z h2) R ap (.refl _ _) ?_;have hinv:=inv.set R H;rw[sR]at hinv⊢;exact N W f _ K _ _ w (ar.put λk T=>by rw[g.size];exact ac k (O i o z k T)) (g.trans A) (sU p I) hinv h
    rcases qP ar h with ⟨F,G⟩|⟨F,G⟩
    .obtain⟨v,aq,au⟩:=DO ar G
     exact fin v (.inl ⟨F,λw' hc=>aq w' hc⟩) au
    .exact fin undef (.inr ⟨F,rfl⟩) G
   .exact h.elim
 |bR i t N=>
  intro W f m K e a w ar g p inv h
  cases f with
  |zero=>simp[en]at h
  |succ f=>
   simp only[en]at h;obtain⟨C,D,h⟩:=ag h;simp only[dZ]at C;have H:=B D;split at h
   .rename_i o z
    refine⟨ne_nil p C.1 I,λj Y=>?_⟩;have ah:j=i:=by simpa using nI hc p C.2 j Y
    subst ah;exact⟨H,Q W t N f m K e a w j o ar g p inv Y H z h⟩
   .exact h.elim
 |out i b t N=>
  intro W f m K e a w ar g p inv h
  cases f with
  |zero=>simp[en]at h
  |succ f=>
   simp only[en]at h;obtain⟨C,D,L,h⟩:=ae h;simp only[dZ]at C;have H:=B D;have L:=iw L;split at h
   .rename_i o z
    refine⟨ne_nil p C.1 I,λj Y=>?_⟩;have ah:j=i:=by simpa using nI hc p C.2 j Y
    subst ah;refine⟨H,?_⟩;have aw:nJ ops (eM ops.size m) j:=by
     intro k ok aH A az hs ak;have aA:k<ops.size:=(lS.1 A).1;rw[o9 aA]at ak;have aB:(kU 0 ops.toList&&&m).testBit k=true:=by
      rw[Nat.testBit_and,ak,Bool.and_true];exact(zJ ops.toList 0 k ok (by simpa using A)).trans hs|>(by simpa using ·)
     have S:(kp b2.M j).testBit k=true:=zI L aB;rw[sS hc az,l1]at S;simp only[cQ]at S;exact sT.1 S
    have next:∀ (v:aa) (w':J) (V:Nat->Prop),en P tk ops n b2 V t f (m|||2^j) K (dk o.dst v e) w'->
     ∃ay:J->Prop,((∀x,ay x->ad W w x)\/nJ ops (eM ops.size m) j)/\ay w'/\lv P ops (gD a0 (bV ops.toList) K) n (LE P ops (gD a0 (bV ops.toList) K) n) f ay ((eM ops.size m).setIfInBounds j true) (a.put o.dst v) w':=by
     intro v w' V h;have A:da (bV ops.toList) a (a.put o.dst v):=da.put (O j o z);have hinv:=inv.set Y H;rw[sR]at hinv⊢;exact⟨ad V w',.inr aw,.refl _ _,N V f _ K _ _ w' (ar.put λk T=>by rw[g.size];exact ac k (O j o z k T)) (g.trans A) (sU p I) hinv h⟩
    unfold wpOp;simp only[z];rcases qP ar h with ⟨F,G⟩|⟨F,G⟩
    .simp only[F,if_true]
     refine .inl ((sM ar G).wp λv w' h2=>?_)
     cases b with
     |true=>
      obtain⟨V,h2⟩:=h2;exact next v w' V h2
     |false=>exact next v w' W h2
    .simp only[F,fN,if_false]
     exact next _ _ W G
   .exact h.elim
 |two i t j u Z ab=>
  intro W f m K e a w ar g p inv h
  cases f with
  |zero=>simp[en]at h
  |succ f=>
   simp only[en]at h;obtain⟨C,D,L,h⟩:=ae h;simp only[dZ]at C;have hi:=B D;split at h
   .rename_i o q z U
    refine⟨ne_nil p C.1 I,λk A=>?_⟩;have E:k=i\/k=j:=by simpa using nI hc p C.2 k A
    rcases E with E|E
    .subst E
     exact⟨B D,Q W t Z f m K e a w k o ar g p inv A (B D) z h.1⟩
    .subst E
     exact⟨B L,Q W u ab f m K e a w k q ar g p inv A (B L) U h.2⟩
   .exact h.elim
 |three i t j u k x Z ab aC=>
  intro W f m K e a w ar g p inv h
  cases f with
  |zero=>simp[en]at h
  |succ f=>
   simp only[en]at h;obtain⟨C,D,aD,h⟩:=ae (d:=_) h;obtain⟨L,S⟩:Nat.blt j n=true/\Nat.blt k n=true:=by simpa using aD
   simp only[dZ]at C;have hi:=B D;split at h
   .rename_i o q r z U aE
    refine⟨ne_nil p C.1 I,λy A=>?_⟩;have E:y=i\/y=j\/y=k:=by simpa using nI hc p C.2 y A
    rcases E with E|E|E
    .subst E
     exact⟨B D,Q W t Z f m K e a w y o ar g p inv A (B D) z h.1⟩
    .subst E
     exact⟨B L,Q W u ab f m K e a w y q ar g p inv A (B L) U h.2.1⟩
    .subst E
     exact⟨B S,Q W x aC f m K e a w y r ar g p inv A (B S) aE h.2.2⟩
   .exact h.elim
 |sp s t u Z ab=>
  intro W f m K e a w ar g p inv h;have af:match e.get s with
   |some (.bool c)=>(c=true->en P tk ops n b2 W t f m K ((s,.bool true)::e) w)/\(c=false->en P tk ops n b2 W u f m K ((s,.bool false)::e) w)
   |_=>False:=by cases f<;>simpa only[en] using h
  split at af
  .rename_i c hs
   cases c with
   |true=>exact Z W f m K _ a w (ar.lit hs) g p inv (af.1 rfl)
   |false=>exact ab W f m K _ a w (ar.lit hs) g p inv (af.2 rfl)
  .exact af.elim
 |fin=>
  intro W f m K e a w ar g p inv h
  cases f with
  |succ f=>simp[en]at h
  |zero=>
   simp only[en]at h;obtain⟨h1,h2,h⟩:=ag h;refine .inl ⟨?_,iw h2,rfl,g,e,ar,h⟩
   cases R:Region.ready .any ops (eM ops.size m) with
   |nil=>rfl
   |cons x l=>
    have:=nI hc p h1 x (by rw[R];simp)
    cases this
 |tail as=>
  intro W f m K e a w ar g p inv h
  cases f with
  |succ f=>simp[en]at h
  |zero=>
   simp only[en]at h;obtain⟨h1,h2,h⟩:=ag h;have al:∀k,k∈bV (ops.toList.drop n)->k∈bV ops.toList:=λk g=>by
    simp only[bV,List.mem_filterMap]at g⊢;obtain⟨o,z,g⟩:=g;exact⟨o,fg z,g⟩
   have:=zx _ _ _ K e a w ar (λd hd=>by rw[g.size];exact ac d (al d hd)) h;exact .inr ⟨zO hc _ _ _ p I h1,B h2,iX (λx aj w' ⟨av,ax,aF⟩=>⟨av,g.trans (ax.mono al),aF⟩) _ _ _ this⟩
theorem DZ(ops:Array Oper)(n:Nat):HeadInv .any ops n (Array.replicate ops.size false):=
 ⟨by simp,λj b _ a=>(by rw[getD_replicate_false]at a;cases a),λt _ ht=>getD_in (by simpa using ht) (getD_replicate_false _ _)⟩
def wJ(P:Program)(tk:TypeId->d_)(ops:Array Oper)(n:Nat)(a:ai)(b2:ko)(D0 ew:O Nat)(t:aN)(K:Env->J->Prop)(e:Env)(w:J):Prop:=
 bif (Region.noSelect ops&&lu b2 D0 ew ops)&&(bif Nat.beq n ops.size then true else Nat.blt n ops.size&&(Region.sinkB .any ops n&&Region.chainB .any ops n)) then
  bif a then
   al w.drew λw1=>∃W:Nat->Prop,en P tk ops n b2 W t n 0 K e w1
  else al w.drew λw1=>en P tk ops n b2 (λ_=>False) t n 0 K e w1
 else False
theorem D1{id:Nat}{c:ai}{t:aN}{K:Env->J->Prop}{e:Env}{a:Act}{w:J}(g:P.follows .mixedOrders=true)
 (ar:dw e a) (i:∀d∈bV ops.toList,d<a.tmps.size) (h:wJ P tk ops n c b2 D0 ew t K e w):
 (Code.region id ops true).wp P (gD a (bV ops.toList) K) a w:=by
 unfold wJ at h
 cases h0:(Region.noSelect ops&&lu b2 D0 ew ops) with
 |false=>rw[h0]at h;exact h.elim
 |true=>
  rw[h0]at h;simp only[jh]at h;simp only[dZ]at h0;obtain⟨h1,hc⟩:=h0
  cases h2:(bif Nat.beq n ops.size then true else Nat.blt n ops.size&&(Region.sinkB .any ops n&&Region.chainB .any ops n)) with
  |false=>rw[h2]at h;exact h.elim
  |true=>
   rw[h2]at h;simp only[cond_true]at h;have j:qV ops n:=by
    cases b:Nat.beq n ops.size with
    |true=>rw[iw b];exact DT ops
    |false=>
     rw[b]at h2;simp only[cond_false,dZ]at h2;refine DU h2.2.1 h2.2.2 ?_;have:=mE h2.1;omega
   have k:n<=ops.size:=by
    cases b:Nat.beq n ops.size with
    |true=>rw[iw b];exact bp _
    |false=>
     rw[b]at h2;simp only[cond_false,dZ]at h2;have:=mE h2.1;omega
   have key:∀W,en P tk ops n b2 W t n 0 K e w.drew->(Code.region id ops true).wp P (gD a (bV ops.toList) K) a w:=by
    intro W h;refine wp_region_any g ?_;have f:=DY hc j k h1 i t W n 0 K e a w.drew ar (.refl _ _) (DQ _) (by rw[zG];exact DZ ops n) h;rw[zG]at f;have:=zN DX _ _ _ _ _ f;rw[show n+(ops.size-n)=ops.size from I]at this;exact this
   cases c with
   |true=>obtain⟨W,h⟩:=h;exact key W h
   |false=>exact key _ h
end
end a7
namespace a7
open Go
inductive aS where
 |leaf
 |cY (as:O kS)
 |cr (n:Nat) (c:ai) (b2:ko) (D0 ew:O Nat) (t:aN)
 |seq (a b:aS)
 |cond (a b:aS)
 |bP (a:aS)
 |loop (live:O (Nat×e3)) (eN:O Nat) (a:aS)
 |eF (live:O (Nat×e3)) (eN:O Nat) (a:aS)
def gu:O (Nat×e3)->Type
 | []=>J->Prop
 |(_,l)::r=>l.T->gu r
def mS:O (Nat×e3)->Type
 | []=>J->Nat
 |(_,l)::r=>l.T->mS r
def o_(l:e3)(v:aq aa)(K:l.T->Prop):Prop:=
 match l,v with
 | .int k,some (.int d n)=>bif jV k d then K n else False
 | .bool,some (.bool b)=>K b
 | .str,some (.string s)=>K s
 | .ptr,some (.pointer p)=>K p
 | .slice,some (.slice a n c)=>K ⟨a,n,c⟩
 | .map,some (.map r)=>K r
 | .agg,some (.agg cs)=>K cs
 | .fn,some (.func (.func f) a b)=>K ⟨f,a,b⟩
 | .any,some v=>K v
 |_,_=>False
def gu.app:(live:O (Nat×e3))->gu live->(Nat->aq aa)->J->Prop
 | [],k,_,w=>k w
 |(s,l)::r,k,g,w=>o_ l (g s) λx=>gu.app r (k x) g w
def gu.lam:(live:O (Nat×e3))->(Env->J->Prop)->gu live
 | [],F=> λw=>F [] w
 |(s,l)::r,F=> λx=>gu.lam r λe w=>F ((s,l.v x)::e) w
def wK:(live:O (Nat×e3))->gu live->mS live->(Env->Nat->J->Prop)->Prop
 | [],a,b,F=>∀w,a w->F [] (b w) w
 |(s,l)::r,a,b,F=>∀x:l.T,wK r (a x) (b x) λe m w=>F ((s,l.v x)::e) m w
def wL:(live:O (Nat×e3))->gu live->mS live->Nat->(Nat->aq aa)->J->Prop
 | [],a,b,m,_,w=>a w/\b w<m
 |(s,l)::r,a,b,m,g,w=>o_ l (g s) λx=>wL r (a x) (b x) m g w
def jm:(live:O (Nat×e3))->mS live->(Nat->aq aa)->J->Nat
 | [],d,_,w=>d w
 |(s,l)::r,d,g,w=>
  match l,g s,d with
  | .int _,some (.int _ n),d=>jm r (d n) g w
  | .bool,some (.bool b),d=>jm r (d b) g w
  | .str,some (.string b),d=>jm r (d b) g w
  | .ptr,some (.pointer b),d=>jm r (d b) g w
  | .slice,some (.slice a n c),d=>jm r (d (Y.mk a n c)) g w
  | .map,some (.map b),d=>jm r (d b) g w
  | .agg,some (.agg b),d=>jm r (d b) g w
  | .fn,some (.func (.func f) a b),d=>jm r (d (hK.mk f a b)) g w
  | .any,some v,d=>jm r (d v) g w
  |_,_,_=>0
def writes:Code->O Nat
 | .region _ ops _=>bV ops.toList
 | .seq a b=>writes a++writes b
 | .cond _ a b=>writes a++writes b
 | .block _ a=>writes a
 | .loop a=>writes a
 | .scope a=>writes a
 |_=> []
def qW(eN ws:O Nat):ai:=eN.all λs=> !(ws.any λd=>Nat.beq d s)
def nK(e:Env):O Nat->Env
 | []=> []
 |s::ks=>match e.get s with
  |some v=>(s,v)::nK e ks
  |none=>nK e ks
def pb:Env->Env->Env
 | [],f=>f
 |p::e,f=>p::pb e f
def D(P:Program)(tk:TypeId->d_):aS->Code->(Exit->Env->J->Prop)->Env->J->Prop
 | .leaf,c,K,e,w=>
  match c with
  | .skip=>K .normal e w
  | .label _=>K .normal e w
  | .exit id=>K (.exit id) e w
  | .ret=>K .ret e w
  |_=>False
 | .cY as,c,K,e,w=>
  match c with
  | .region _ ops false=>fX P tk ops (ops.size+1) ops.toList as (λd w'=>K .normal d w') e w
  |_=>False
 | .cr n he b2 D0 ew t,c,K,e,w=>
  match c with
  | .region _ ops true=>wJ P tk ops n he b2 D0 ew t (λd w'=>K .normal d w') e w
  |_=>False
 | .seq A B,c,K,e,w=>
  match c with
  | .seq a b=>D P tk A a (λx d w'=>match x with| .normal=>D P tk B b K d w'|x=>K x d w') e w
  |_=>False
 | .cond A B,c,K,e,w=>
  match c with
  | .cond o x y=>match ev e o with
   |some (.bool b)=>(b=true->D P tk A x K e w)/\(b=false->D P tk B y K e w)
   |_=>False
  |_=>False
 | .bP A,c,K,e,w=>
  match c with
  | .block id b=>D P tk A b (λx d w'=>match x with| .exit h=>bif Nat.beq h id then K .normal d w' else K (.exit h) d w'|x=>K x d w') e w
  |_=>False
 | .loop live eN A,c,K,e,w=>
  match c with
  | .loop b=>bif qW eN (writes b) then
   ∃ (f:gu live) (i:mS live),gu.app live f e.get w/\
    wK live f i λg m w'=>D P tk A b (λx d j=>match x with| .normal=>wL live f i m d.get j|x=>K x d j) (pb g (nK e eN)) w'
   else False
  |_=>False
 | .eF live eN A,c,K,e,w=>
  bif qW eN (writes c) then
   bt (λk:gu live=>D P tk A c (λx d w'=>match x with| .normal=>gu.app live k d.get w'|x=>K x d w') e w)
    (gu.lam live λg w'=>K .normal (pb g (nK e eN)) w')
  else False
def D2(a:Act)(ds:O Nat)(K:Exit->Env->J->Prop)(x:Exit)(b:Act)(w':J):Prop:=
 da ds a b/\∃c,dw c b/\K x c w'
def Sub(e:Env)(g:Nat->aq aa):Prop:=∀s v,e.get s=some v->g s=some v
theorem Sub.cons{e:Env}{g:Nat->aq aa}{s:Nat}{v:aa}(h:Sub e g)(hs:g s=some v):Sub ((s,v)::e) g:=by
 intro t u ht;rw[nD]at ht;by_cases a:s=t
 .subst a;rw[if_pos rfl]at ht;rw[hs];exact ht
 .rw[if_neg a]at ht;exact h t u ht
theorem Sub.nil{g:Nat->aq aa}:Sub [] g:=λ_ _ h=>by cases h
theorem sW{l:e3}{v:aq aa}{K:l.T->Prop}(h:o_ l v K):∃x:l.T,v=some (l.v x)/\K x:=by
 unfold o_ at h;split at h
 .rename_i k b n K
  by_cases a:k=b
  .subst a
   simp only[jV,decide_true,cond_true]at h;exact⟨n,rfl,h⟩
  .simp[jV,a]at h
 all_goals first
  |exact⟨_,rfl,h⟩
  |exact h.elim
theorem zP{l:e3}{v:aq aa}{K:l.T->Prop}{x:l.T}(a:v=some (l.v x))(h:K x):o_ l v K:=by
 subst a
 cases l<;>simp only[o_,e3.v,jV,decide_true,cond_true]<;>exact h
theorem zQ{s:Nat}{l:e3}{r:O (Nat×e3)}{a:mS ((s,l)::r)}{g:Nat->aq aa}{w:J}{x:l.T}(b:g s=some (l.v x)):
 jm ((s,l)::r) a g w=jm r (a x) g w:=by
 cases l<;>simp only[jm,b,e3.v]<;>rfl
theorem zR:∀ {live:O (Nat×e3)}{F:Env->J->Prop}{g:Nat->aq aa}{w:J},gu.app live (gu.lam live F) g w->∃a,Sub a g/\F a w
 | [],F,g,w,h=>⟨[],Sub.nil,h⟩
 |(s,l)::r,F,g,w,h=>by
  obtain⟨x,b,h⟩:=sW h
  obtain⟨a,hs,h⟩:=zR h
  exact⟨(s,l.v x)::a,hs.cons b,h⟩
theorem zS:∀ {live:O (Nat×e3)}{a:gu live}{g g':Nat->aq aa}{w:J},(∀s v,g s=some v->g' s=some v)->gu.app live a g w->gu.app live a g' w
 | [],_,_,_,_,_,h=>h
 |(s,l)::r,a,g,g',w,hg,h=>by
  obtain⟨x,b,h⟩:=sW h
  exact zP (hg _ _ b) (zS hg h)
theorem zT:∀ {live:O (Nat×e3)}{b:gu live}{c:mS live}{F:Env->Nat->J->Prop}{g:Nat->aq aa}{w:J},
 wK live b c F->gu.app live b g w->∃d,Sub d g/\F d (jm live c g w) w
 | [],b,c,F,g,w,h,a=>⟨[],Sub.nil,h w a⟩
 |(s,l)::r,b,c,F,g,w,h,a=>by
  obtain⟨x,e,a⟩:=sW a
  obtain⟨d,hs,h⟩:=zT (h x) a
  exact⟨(s,l.v x)::d,hs.cons e,by rw[zQ e];exact h⟩
theorem zU:∀ {live:O (Nat×e3)}{a:gu live}{b:mS live}{m:Nat}{g g':Nat->aq aa}{w:J},
 (∀s v,g s=some v->g' s=some v)->wL live a b m g w->gu.app live a g' w/\jm live b g' w<m
 | [],_,_,_,_,_,_,_,h=>h
 |(s,l)::r,a,b,m,g,g',w,hg,h=>by
  obtain⟨x,c,h⟩:=sW h
  obtain⟨h1,h2⟩:=zU hg h
  exact⟨zP (hg _ _ c) h1,by rw[zQ (hg _ _ c)];exact h2⟩
theorem zV:∀ {e f:Env}{s:Nat}{v:aa},(pb e f).get s=some v->e.get s=some v\/f.get s=some v
 | [],_,_,_,h=>.inr h
 |(k,u)::e,f,s,v,h=>by
  simp only[pb]at h
  rw[nD]at h⊢
  by_cases a:k=s
  .rw[if_pos a]at h⊢;exact .inl h
  .rw[if_neg a]at h⊢;exact zV h
theorem wM{e:Env}:∀ {ks:O Nat}{s:Nat}{v:aa},(nK e ks).get s=some v->s∈ks/\e.get s=some v
 | [],_,_,h=>by cases h
 |k::ks,s,v,h=>by
  simp only[nK]at h
  split at h
  .rename_i u hu
   rw[nD]at h
   by_cases a:k=s
   .rw[if_pos a]at h
    subst a
    exact⟨by simp,by rw[hu];exact h⟩
   .rw[if_neg a]at h
    have:=wM h
    exact⟨by simp[this.1],this.2⟩
  .have:=wM h
   exact⟨by simp[this.1],this.2⟩
theorem zW{e c:Env}{a b:Act}{eN ws:O Nat}(ar:dw e a)(f:da ws a b)(g:qW eN ws=true)(hs:Sub c λs=>b.tmps[s]?):
 dw (pb c (nK e eN)) b:=by
 constructor;intro s v h;rcases zV h with h|h
 .exact hs s v h
 .obtain⟨h1,h2⟩:=wM h
  have d:=mC.1 g s h1;simp only[lf,oQ]at d;rw[f.same s λi=>d s i (Nat.beq_refl s)];exact ar.get s v h2
section
variable {P:Program}{tk:TypeId->d_}
theorem jG{c:Code}{Q Q':Exit->Act->J->Prop}{a:Act}{w:J}(h:c.wp P Q a w)(b:∀e a w,Q e a w->Q' e a w):c.wp P Q' a w:=wp_mono h b
theorem sX(Q:P.follows .mixedOrders=true):∀ (A:aS) (c:Code) (K:Exit->Env->J->Prop) (e:Env) (a:Act) (w:J),dw e a->(∀d∈writes c,d<a.tmps.size)->
 D P tk A c K e w->c.wp P (D2 a (writes c) K) a w:=by
 intro A
 induction A with
 |leaf=>
  intro c K e a w ar j h;simp only[D]at h;split at h
  .exact wp_skip ⟨.refl _ _,e,ar,h⟩
  .exact wp_label ⟨.refl _ _,e,ar,h⟩
  .exact wp_exit ⟨.refl _ _,e,ar,h⟩
  .exact wp_ret ⟨.refl _ _,e,ar,h⟩
  .exact h.elim
 |cY as=>
  intro c K e a w ar j h;simp only[D]at h;split at h
  .rename_i id ops
   have:=zx _ _ _ _ e a w ar j h;refine wp_region_list (iX ?_ _ _ _ this);rintro x r w' ⟨rfl,f,C,E,F⟩;exact⟨f,C,E,F⟩
  .exact h.elim
 |cr n he b2 D0 ew t=>
  intro c K e a w ar j h;simp only[D]at h;split at h
  .rename_i id ops
   refine jG (D1 Q ar j h) ?_;rintro x r w' ⟨rfl,f,C,E,F⟩;exact⟨f,C,E,F⟩
  .exact h.elim
 |seq A B G H=>
  intro c K e a w ar j h;simp only[D]at h;split at h
  .rename_i x y
   have hx:∀d,d∈writes x->d∈writes (.seq x y):=λd hd=>by simp[writes,hd]
   have u:∀d,d∈writes y->d∈writes (.seq x y):=λd hd=>by simp[writes,hd]
   refine wp_seq (jG (G x _ e a w ar (λd hd=>j d (hx d hd)) h) ?_);rintro ex a1 w1 ⟨f,i,g,h1⟩
   cases ex with
   |normal=>
    refine jG (H y K i a1 w1 g (λd hd=>by rw[f.size];exact j d (u d hd)) h1) ?_;rintro ex a2 ah ⟨k,p,m,h2⟩;exact⟨(f.mono hx).trans (k.mono u),p,m,h2⟩
   |exit id=>exact⟨f.mono hx,i,g,h1⟩
   |goto l=>exact⟨f.mono hx,i,g,h1⟩
   |ret=>exact⟨f.mono hx,i,g,h1⟩
   |panic I=>exact⟨f.mono hx,i,g,h1⟩
   |outgrown=>exact⟨f.mono hx,i,g,h1⟩
  .exact h.elim
 |cond A B G H=>
  intro c K e a w ar j h;simp only[D]at h;split at h
  .rename_i o x y
   have hx:∀d,d∈writes x->d∈writes (.cond o x y):=λd hd=>by simp[writes,hd]
   have u:∀d,d∈writes y->d∈writes (.cond o x y):=λd hd=>by simp[writes,hd]
   split at h
   .rename_i b R
    refine wp_cond_split (ar.ev R) (λL=>?_) (λL=>?_)
    .refine jG (G x K e a w ar (λd hd=>j d (hx d hd)) (h.1 L)) ?_
     rintro ex a2 ah ⟨k,p,m,h2⟩;exact⟨k.mono hx,p,m,h2⟩
    .refine jG (H y K e a w ar (λd hd=>j d (u d hd)) (h.2 L)) ?_
     rintro ex a2 ah ⟨k,p,m,h2⟩;exact⟨k.mono u,p,m,h2⟩
   .exact h.elim
  .exact h.elim
 |bP A z=>
  intro c K e a w ar j h;simp only[D]at h;split at h
  .rename_i id b
   refine wp_block (jG (z b _ e a w ar j h) ?_);rintro ex a1 w1 ⟨f,i,g,h1⟩
   cases ex with
   |exit M=>
    simp only[Exit.inBlock];by_cases N:M=id
    .subst N
     simp only[Nat.beq_refl,cond_true]at h1;rw[if_pos rfl];exact⟨f,i,g,h1⟩
    .have:Nat.beq M id=false:=by
      cases S:Nat.beq M id
      .rfl
      .exact absurd (iw S) N
     simp only[this,cond_false]at h1;rw[if_neg N];exact⟨f,i,g,h1⟩
   |normal=>exact⟨f,i,g,h1⟩
   |goto l=>exact⟨f,i,g,h1⟩
   |ret=>exact⟨f,i,g,h1⟩
   |panic I=>exact⟨f,i,g,h1⟩
   |outgrown=>exact⟨f,i,g,h1⟩
  .exact h.elim
 |loop live eN A z=>
  intro c K e a w ar j h;simp only[D]at h;split at h
  .rename_i b
   cases q:qW eN (writes b) with
   |false=>rw[q]at h;exact h.elim
   |true=>
    rw[q]at h;obtain⟨T,U,h0,V⟩:=h;refine wp_loop (λr w'=>da (writes b) a r/\gu.app live T (λs=>r.tmps[s]?) w') (λr w'=>jm live U (λs=>r.tmps[s]?) w')
     ⟨.refl _ _,zS (λs v hs=>ar.get s v hs) h0⟩ ?_
    rintro a1 w1 ⟨f,W⟩;obtain⟨X,hs,O⟩:=zT V W;refine jG (z b _ _ a1 w1 (zW ar f q hs) (λd hd=>by rw[f.size];exact j d hd) O) ?_;rintro ex a2 ah ⟨k,p,m,h2⟩
    cases ex with
    |normal=>
     obtain⟨av,ax⟩:=zU (g':=λs=>a2.tmps[s]?) (λs v hs=>m.get s v hs) h2;exact⟨⟨f.trans k,av⟩,ax⟩
    |exit id=>exact⟨f.trans k,p,m,h2⟩
    |goto l=>exact⟨f.trans k,p,m,h2⟩
    |ret=>exact⟨f.trans k,p,m,h2⟩
    |panic I=>exact⟨f.trans k,p,m,h2⟩
    |outgrown=>exact⟨f.trans k,p,m,h2⟩
  .exact h.elim
 |eF live eN A z=>
  intro c K e a w ar j h;simp only[D]at h
  cases q:qW eN (writes c) with
  |false=>rw[q]at h;exact h.elim
  |true=>
   rw[q]at h;simp only[cond_true]at h;have h:=h.out;refine jG (z c _ e a w ar j h) ?_;rintro ex a1 w1 ⟨f,i,g,h1⟩
   cases ex with
   |normal=>
    obtain⟨X,hs,O⟩:=zR h1;exact⟨f,_,zW ar f q (λs v h=>g.get s v (hs s v h)),O⟩
   |exit id=>exact⟨f,i,g,h1⟩
   |goto l=>exact⟨f,i,g,h1⟩
   |ret=>exact⟨f,i,g,h1⟩
   |panic I=>exact⟨f,i,g,h1⟩
   |outgrown=>exact⟨f,i,g,h1⟩
def l2(P:Program)(tk:TypeId->d_):O ResultVar->Env->J->(O aa->Prop)->Prop
 | [],_,_,K=>K []
 | .tmp t::r,e,w,K=>match e.get t with
  |some v=>l2 P tk r e w λvs=>K (v::vs)
  |none=>False
 | .cell t T::r,e,w,K=>match e.get t with
  |some (.pointer (some A))=>o3 P tk T A w λv=>l2 P tk r e w λvs=>K (v::vs)
  |_=>False
def pc:O aa->aa
 | [v]=>v
 |vs=>.tuple vs.toArray
def zX(P:Program)(tk:TypeId->d_)(a:O ResultVar)(R:aa->J->Prop)(x:Exit)(e:Env)(w:J):Prop:=
 match x with
 | .normal=>l2 P tk a e w λvs=>R (pc vs) w
 | .ret=>l2 P tk a e w λvs=>R (pc vs) w
 |_=>False
def nL:Nat->O aa->Env
 |_,[]=> []
 |i,v::vs=>(i,v)::nL (i+1) vs
def pd(P:Program)(tk:TypeId->d_)(A:aS)(fn:Func)(args:O aa)(w:J)(R:aa->J->Prop):Prop:=
 match fn.body with
 |some c=>D P tk A c (zX P tk fn.results.toList R) (nL 0 args) w
 |none=>False
def nM(fn:Func)(n:Nat):ai:=
 match fn.body with
 |some c=>(writes c).all (λd=>Nat.blt d fn.ntmps)&&Nat.ble n fn.ntmps
 |none=>false
theorem wN:∀ {vs:O aa}{i s:Nat}{v:aa},(nL i vs).get s=some v->i<=s/\vs[s-i]? =some v
 | [],_,_,_,h=>by cases h
 |u::vs,i,s,v,h=>by
  simp only[nL]at h
  rw[nD]at h
  by_cases a:i=s
  .subst a
   rw[if_pos rfl]at h
   simpa using h
  .rw[if_neg a]at h
   obtain⟨h1,h2⟩:=wN h
   refine⟨I,?_⟩
   rw[show s-i=(s-(i+1))+1 from I]
   simpa using h2
def qX(tmps:Array aa)(r:ResultVar):Sem aa:=
 match r with
 | .tmp t=>pure (tmps.getD t undef)
 | .cell x t=>do loadVar t (←asAddr (tmps.getD x undef))
theorem l3{a:Act}:∀ {f:O ResultVar}{e:Env}{w:J}{K:O aa->Prop},dw e a->l2 P tk f e w K->
 ∃vs,(f.mapM (qX a.tmps)).run P w=.ok vs w/\K vs
 | [],_,_,_,_,h=>⟨[],by simp,h⟩
 | .tmp t::r,e,w,K,ar,h=>by
  simp only[l2]at h
  split at h
  .rename_i v b
   obtain⟨vs,c,d⟩:=l3 ar h
   refine⟨v::vs,?_,d⟩
   have ht:a.tmps.getD t undef=v:=by simp[Array.getD_eq_getD_getElem?,ar.get _ _ b]
   simp only[List.mapM_cons,qX,Sem.run_bind,Sem.run_pure,Result.andThen,ht]
   rw[c]
  .exact h.elim
 | .cell t T::r,e,w,K,ar,h=>by
  simp only[l2]at h
  split at h
  .rename_i A b
   obtain⟨v,g,h⟩:=zt h
   obtain⟨vs,c,d⟩:=l3 ar h
   refine⟨v::vs,?_,d⟩
   have ht:a.tmps.getD t undef=.pointer (some A):=by simp[Array.getD_eq_getD_getElem?,ar.get _ _ b]
   have i:(loadVar T A).run P w=.ok v w:=by simpa[Instr.loadAt,Instr.sureAddr] using g
   simp only[List.mapM_cons,qX,Sem.run_bind,Sem.run_pure,Result.andThen,ht,asAddr,i]
   rw[c]
  .exact h.elim
theorem nN{fn:Func}{tmps:Array aa}{w:J}{vs:O aa}
 (h:(fn.results.toList.mapM (qX tmps)).run P w=.ok vs w):
 (results fn tmps).run P w=.ok (pc vs) w:=by
 have a:results fn tmps=(do let vs ←fn.results.mapM (qX tmps);pure (if h:vs.size=1 then vs[0] else .tuple vs)):=rfl;rw[a,Array.mapM_eq_mapM_toList];simp only[Sem.run_bind,Sem.run_map];rw[h];simp only[Result.andThen,Sem.run_pure]
 congr 1
 match vs with
 | []=>rfl
 | [v]=>rfl
 |u::v::vs=>simp[pc]
theorem D3{f:FuncId}{fn:Func}{A:aS}{args:O aa}{w:J}{R:aa->J->Prop}(m:P.follows .mixedOrders=true)
 (hf:P.funcs[f]? =some fn) (b:nM fn args.length=true) (h:pd P tk A fn args w R):
 Calls P f args.toArray w λe w'=>∃v,e=.returned v/\R v w':=by
 unfold pd at h;unfold nM at b
 cases g:fn.body with
 |none=>rw[g]at h;exact h.elim
 |some c=>
  rw[g]at h b;simp only[dZ]at h b;obtain⟨n,o⟩:=b;have t:=mE o;refine calls_of_wp hf g ?_;have p:(args.toArray++Array.replicate (fn.ntmps-args.toArray.size) undef).size=fn.ntmps:=by simp;omega
  have ar:dw (nL 0 args) {tmps:=args.toArray++Array.replicate (fn.ntmps-args.toArray.size) undef,defers:=[]}:=by
   constructor;intro s v hs;obtain⟨_,h2⟩:=wN hs;simp only[oR]at h2;have aK:s<args.length:=(ix.1 h2).1;simp[Array.getElem?_append,aK];rw[dE aK]at h2;exact Option.some.inj h2
  refine jG (sX m A c _ _ _ w ar (λd hd=>?_) h) ?_
  .have h1:=mC.1 n d hd
   have h2:=mE h1;show d<(args.toArray++Array.replicate (fn.ntmps-args.toArray.size) undef).size;rw[p];omega
  .rintro x q w' ⟨r,u,k,a⟩
   have hd:q.defers=[]:=r.defers
   cases x with
   |normal=>
    obtain⟨vs,i,j⟩:=l3 k a;exact⟨hd,_,nN i,_,rfl,j⟩
   |ret=>
    obtain⟨vs,i,j⟩:=l3 k a;exact⟨hd,_,nN i,_,rfl,j⟩
   |exit id=>exact a.elim
   |goto l=>exact a.elim
   |panic y=>exact a.elim
   |outgrown=>exact a.elim
end
end a7
namespace a7
open Go Go.ChangeShapes Go.WideShapes Go.ChangeAt Go.RowKit
def gE(P:Program)(w:J):Nat->TypeId->O aa->Prop
 |0,_,_=>False
 |fuel+1,t,cs=>
  match P.underlying t with
  |some .bool=>∃b:ai,cs=[.bool b]
  |some (.int k)=>∃n:Int,cs=[.int k n]/\k.min<=n/\n<=k.max
  |some .string=>∃s:ByteArray,cs=[.string s]/\s.size<=maxLen
  |some (.slice e)=>∃s:Y,cs=[.slice s.a s.len s.cap]/\s.len<=s.cap/\s.cap<=maxLen/\(s.a=none->s.cap=0)/\
   ∀a,s.a=some a->∀i,i<s.cap->∃vs,cD w (a.add (i*P.cellsOf e)) 0 (P.cellsOf e)=some vs/\gE P w fuel e vs
  |some (.struct fs)=>cs.length=P.cellsOf t/\∀f∈fs,gE P w fuel f.type ((cs.drop f.offset).take (P.cellsOf f.type))
  |some (.array n e)=>cs.length=P.cellsOf t/\∀i,i<n->gE P w fuel e ((cs.drop (i*P.cellsOf e)).take (P.cellsOf e))
  |some (.pointer e)=>cs=[.pointer none]\/∃a vs,cs=[.pointer (some a)]/\cD w a 0 (P.cellsOf e)=some vs/\gE P w fuel e vs
  |_=>True
theorem mapM_some{α β:Type}{f:α->aq β}:∀ {l:O α}{r:O β},l.mapM f=some r->∀x∈l,∃y,f x=some y
 | [],_,_,_,hx=>by cases hx
 |a::l,r,h,x,hx=>by
  simp only[List.mapM_cons]at h
  cases c:f a with
  |none=>simp[c]at h
  |some b=>
   cases d:l.mapM f with
   |none=>simp[c,d]at h
   |some e=>
    rcases cU.1 hx with rfl|hx
    .exact⟨b,c⟩
    .exact mapM_some d x hx
theorem zY{w:J}{a:ae}:∀ (n i:Nat) (vs:O aa),((List.range' i n).mapM λj=>w.cell? (a.add j))=some vs->cD w a i n=some vs
 |0,i,vs,h=>by simp at h;simp[cD,h]
 |n+1,i,vs,h=>by
  simp only[List.range'_succ,List.mapM_cons]at h
  cases h1:w.cell? (a.add i) with
  |none=>simp[h1]at h
  |some v=>
   cases h2:((List.range' (i+1) n).mapM λj=>w.cell? (a.add j)) with
   |none=>simp[h1,h2]at h
   |some us=>
    simp[h1,h2]at h
    have:=zY n (i+1) us h2
    simp[cD,h1,this,h]
theorem zZ{w:J}{base:Nat}{a:ae}{n:Nat}{vs:O aa}(h:w.cells? base a n=some vs):cD w a 0 n=some vs:=by
 unfold World.cells? at h;split at h
 .rw[si]at h
  exact zY n 0 vs h
 .cases h
section
variable {H:Type}{enc:TypeId×aa->H}{P:Program}{w:J}
theorem qY:∀ (fuel:Nat) (t:TypeId) (cs:O aa) (x:DataW H×O MemPlace),DataW.trod enc P w 0 (λ_=>true) true fuel t cs=some x->gE P w fuel t cs
 |0,_,_,_,h=>by cases h
 |fuel+1,t,cs,x,h=>by
  simp only[DataW.trod]at h
  simp only[gE]
  cases ht:P.underlying t with
  |none=>trivial
  |some d=>
   rw[ht]at h
   cases d<;>try trivial
   case bool=>
    match cs,h with
    | [.bool b],_=>exact⟨b,rfl⟩
   case int k=>
    match cs,h with
    | [.int r n],h=>
     simp only at h
     split at h
     .rename_i g
      obtain⟨rfl,l⟩:=g
      exact⟨n,rfl,by simpa[Lit.wf] using l⟩
     .cases h
   case string=>
    match cs,h with
    | [.string s],h=>
     simp only at h
     split at h
     .rename_i g;exact⟨s,rfl,g⟩
     .cases h
   case pointer e=>
    match cs,h with
    | [.pointer none],_=>exact .inl rfl
    | [.pointer (some a)],h=>
     simp only[Option.map_eq_some_iff]at h
     obtain⟨y,c,_⟩:=h
     obtain⟨vs,h1,h2⟩:=Option.bind_eq_some_iff.1 c
     exact .inr ⟨a,vs,rfl,zZ h1,qY fuel e vs _ h2⟩
   case slice e=>
    match cs,h with
    | [.slice none 0 0],_=>exact⟨⟨none,0,0⟩,rfl,bp _,cG _,(λ_=>rfl),(λa m=>by cases m)⟩
    | [.slice (some a) len cap],h=>
     simp only at h
     split at h
     .rename_i g
      refine⟨⟨some a,len,cap⟩,rfl,g.2.1,g.2.2,(λh0=>by cases h0),λu o i hi=>?_⟩
      obtain⟨elems,he,h⟩:=Option.bind_eq_some_iff.1 h
      simp only[if_true,Option.map_eq_some_iff]at h
      obtain⟨rest,p,_⟩:=h
      cases o
      have key:∃y,((w.cells? 0 (a.add (i*P.cellsOf e)) (P.cellsOf e)).bind (DataW.trod enc P w 0 (λ_=>true) true fuel e))=some y:=by
       rcases dJ i len with j|j
       .exact mapM_some he i (jx.2 j)
       .obtain⟨y,c⟩:=mapM_some p (i-len) (jx.2 (by simp only at hi;omega))
        rw[show len+(i-len)=i from I]at c;exact⟨y,c⟩
      obtain⟨y,c⟩:=key;obtain⟨vs,h1,h2⟩:=Option.bind_eq_some_iff.1 c;exact⟨vs,zZ h1,qY fuel e vs _ h2⟩
     .cases h
   case struct fs=>
    simp only at h;split at h
    .rename_i j
     refine⟨j,λf hf=>?_⟩;simp only[Option.map_eq_some_iff]at h;obtain⟨q,c,_⟩:=h;obtain⟨y,c⟩:=mapM_some c f (by simpa using hf);exact qY fuel _ _ _ c
    .cases h
   case array n e=>
    simp only at h;split at h
    .rename_i j
     refine⟨j,λi hi=>?_⟩;simp only[Option.map_eq_some_iff]at h;obtain⟨q,c,_⟩:=h;obtain⟨y,c⟩:=mapM_some c i (jx.2 hi);exact qY fuel _ _ _ c
    .cases h
def ly(P:Program)(w:J)(t:TypeId)(v:aa):Prop:=
 match P.underlying t with
 |some (.struct _)=>∃cs:Array aa,v=.agg cs/\∃fuel,gE P w fuel t cs.toList
 |some (.array _ _)=>∃cs:Array aa,v=.agg cs/\∃fuel,gE P w fuel t cs.toList
 |_=>∃fuel,gE P w fuel t [v]
theorem wO{r:Reach}{a:Nat}{t:TypeId}{v:aa}{d:DataW H}{ps:O MemPlace}(hL:Value.okWide P w r a t v)
 (hd:DataW.Trod enc P w 0 (λ_=>true) true t v d ps):ly P w t v:=by
 obtain⟨fuel,hd⟩:=hd;have h1:=qY fuel t _ _ hd;unfold ly;unfold Value.okWide at hL;have b:(∀cs,v≠ .agg cs)->v.cells.toList=[v]:=λh=>by cases v<;>first|rfl|exact absurd rfl (h _)
 cases ht:P.underlying t with
 |none=>
  rw[ht]at hL
  cases fuel with
  |zero=>cases hd
  |succ f=>exact⟨1,by simp[gE,ht]⟩
 |some c=>
  rw[ht]at hL
  cases c
  case struct fs=>obtain⟨cs,rfl,_,_⟩:=hL;exact⟨cs,rfl,fuel,h1⟩
  case array n e=>obtain⟨cs,rfl,_,_⟩:=hL;exact⟨cs,rfl,fuel,h1⟩
  all_goals
   refine⟨fuel,?_⟩;rw[←b]
   .exact h1
   .rintro cs rfl
    simp[Cell.okWide,Cell.ok,ht]at hL
theorem z1{w w':J}(h:ad (λ_=>False) w w'):Below w.heap.size w w':=
 ⟨h.os,h.tape,h.output,h.size,λk a=>h.block k a (λh=>h)⟩
theorem D4{f:Func}{s:ChangeSpec}{apart fresh handsOn again:ai}{W W':J}{args:Array aa}{T:TypeId}{ds gs:O (DataW H)}{before pa fi:O MemPlace}
 (cg:DataW.Whole enc P f.params.toList s.vars apart W args.toList ds gs before) (d:P.underlying T=some .bool) (e:f.resultTypes= #[T])
 (hs:s.fn H (ds++gs)={results:=[.lit (.bool true)],args:=ds})
 (sY:∀sp:Nat->ai,(∀p∈before,sp p.block=true)->DataW.TrodAll enc P W' 0 sp true f.params.toList args.toList ds pa)
 (k:∀sp:Nat->ai,(∀p∈before,sp p.block=true)->DataW.TrodVars enc P W' sp s.vars [] fi)
 (c:before=pa++fi) (l:ad (λ_=>False) W W'):
 s.post enc P f apart fresh handsOn again W args (.bool true) W':=by
 have hB:=z1 l;have aK:∀p∈before,p.block<W.heap.size:=λp a=>cg.lt p a;have hold:∀p∈before,(λb=>decide (b<W.heap.size)) p.block=true:=λp a=>by simpa using aK p a
 have g:∀ (b:Nat) (sp:Nat->ai) (hd:ai),DataW.TrodAll enc P W' b sp hd f.resultTypes.toList ((Value.bool true).resultList f.resultTypes.size) (s.fn H (ds++gs)).results []:=by
  intro b sp hd;rw[hs,e];exact trodAll_cons_mk (shut_bool d true) trodAll_mk0
 have h:∀sp:Nat->ai,(∀p∈before,sp p.block=true)->DataW.TrodAll enc P W' 0 sp true f.params.toList args.toList (s.fn H (ds++gs)).args pa:=by
  intro sp gf;rw[hs];exact sY sp gf
 have i:∀sp:Nat->ai,(∀p∈before,sp p.block=true)->DataW.TrodVars enc P W' sp s.vars (s.fn H (ds++gs)).vars fi:=by
  intro sp gf;rw[hs];exact k sp gf
 refine⟨ds,gs,before,[],pa,fi,cg,g _ _ _,h _ hold,i _ hold,World.keptBut_mono (λp a=>⟨a,?_⟩) (hB.frame (· ∈before)),λ_=>?_⟩
 .rw[c,cT]at a
  exact Or.inr a
 .obtain⟨_,_,_,_,_,m,n⟩:=cg
  refine⟨ok_one e rfl (okWide_bool_mk d _),_,_,([]++pa)++fi,⟨[]++pa,fi,trodAll_append (h _ (λ_ _=>rfl)) (g _ _ _),i _ (λ_ _=>rfl),rfl,?_,?_⟩,?_⟩
  .intro b off a
   have j:MemPlace.cell b off∈before:=by rw[c];simpa using a
   rw[hB.frozen (aK _ j)];exact m b off j
  .intro o
   have:=n o;rw[c]at this;simpa using this
  .intro p a _
   rw[c];simpa using a
theorem wP{t:TypeId}(a:laidOutB P=true)(b:P.readableRec t=true)(c:t<P.types.size){W W':J}{v:aa}{d:DataW H}{ps:O MemPlace}{sp:Nat->ai}
 (h:DataW.Trod enc P W 0 (λ_=>true) true t v d ps) (e:ad (λ_=>False) W W') (aK:∀x∈ps,x.block<W.heap.size) (hs:∀p∈ps,sp p.block=true):
 DataW.Trod enc P W' 0 sp true t v d ps:=
 WideElems.Trod_stays a b c h (λx hx=>(z1 e).same (aK x hx)) hs
end
end a7
namespace a7
open Go Go.RowKit
def aQ(P:Program)(f:FuncId)(args:Array aa)(w:J)(Q:aa->J->Prop):Prop:=
 Calls P f args w λe w1=>∃v,e=.returned v/\Q v w1
theorem aQ.use{P:Program}{f:FuncId}{args:Array aa}{w:J}{Q:aa->J->Prop}{R:Ending->J->Prop}
 (h:aQ P f args w Q) (k:∀v w',Q v w'->R (.returned v) w'):Calls P f args w R:=
 Calls.mono h λ_ _ ⟨v,a,b⟩=>by subst a;exact k v _ b
theorem aQ.mono{P:Program}{f:FuncId}{args:Array aa}{w:J}{Q R:aa->J->Prop}
 (h:aQ P f args w Q) (k:∀v w',Q v w'->R v w'):aQ P f args w R:=
 aQ.use h λv _ a=>⟨v,rfl,k _ _ a⟩
abbrev Ext(w w':J):Prop:=ad (λ_=>False) w w'
theorem ad.cF{W:Nat->Prop}{w w':J}(h:Ext w w'):ad W w w':=ad.mono h λ_ _ h=>h.elim
theorem ad.drew{W:Nat->Prop}{w w':J}(h:ad W w w'):ad W w w'.drew:=⟨h.os,h.tape,h.output,h.size,h.block⟩
theorem ad.alloc{W:Nat->Prop}{w w':J}(h:ad W w w')(o:Obj):ad W w (w'.alloc o):=
 h.trans ⟨rfl,rfl,rfl,by simp,λk a _=>Below.heap_alloc _ _ _ a⟩
theorem ad.set{W:Nat->Prop}{w w':J}(h:ad W w w'){A:ae}(b:A.block<w.heap.size->W A.block)(v:aa):ad W w (w'.setCell A v):=
 ⟨h.os,h.tape,h.output,by simp only[World.setCell,Array.size_modify];exact h.size,λk a cg=>by
  rw[Below.heap_setCell _ _ _ _ (λe=>cg (by subst e;exact b a))];exact h.block k a cg⟩
theorem ad.setCells{W:Nat->Prop}{w:J}{A:ae}(a:A.block<w.heap.size->W A.block):∀ (vs:O aa) (i:Nat) {w':J},ad W w w'->ad W w (setCells w' A i vs)
 | [],_,_,h=>h
 |v::vs,i,w',h=>by
  have b:(A.add i).block=A.block:=by unfold Addr.add;split<;>rfl
  exact ad.setCells a vs (i+1) (ad.set h (by rw[b];exact a) v)
theorem aw(b o n:Nat):(Addr.mk b o none).add n=⟨b,o+n,none⟩:=by
 unfold Addr.add;split
 .rename_i h;subst h;rfl
 .rfl
def bu(w:J)(b:Nat)(c:Array aa)(T:TypeId):Prop:=w.heap[b]? =some (.cells c T (0,0))
section
variable {w w':J}{b i:Nat}{c:Array aa}{T:TypeId}
theorem bu.lt(h:bu w b c T):b<w.heap.size:=(lS.1 h).1
theorem bu.cell(h:bu w b c T)(i:Nat):w.cell? ⟨b,i,none⟩=c[i]? :=by
 unfold bu at h;simp[World.cell?,h]
theorem bu.frozen(h:bu w b c T)(A:ae)(ar:A.block=b):w.frozen? A=false:=by
 unfold bu at h;simp[World.frozen?,ar,h]
theorem bu.ab{W:Nat->Prop}(h:bu w b c T)(hc:ad W w w')(a:¬W b):bu w' b c T:=by
 have d:=h.lt;unfold bu at h⊢;rw[hc.block b d a];exact h
theorem bu.ext(h:bu w b c T)(hc:Ext w w'):bu w' b c T:=h.ab hc id
theorem bu.drew(h:bu w b c T):bu w.drew b c T:=h
theorem bu.new(w:J)(c:Array aa)(T:TypeId):bu (w.alloc (.cells c T)) w.heap.size c T:=by
 show(w.heap.push (.cells c T))[w.heap.size]? =some (.cells c T (0,0));simp
theorem bu.set(h:bu w b c T)(i:Nat)(v:aa):bu (w.setCell ⟨b,i,none⟩ v) b (c.setIfInBounds i v) T:=by
 unfold bu at h⊢;simp[World.setCell,sg,h]
def gF(c:Array aa)(i:Nat):O aa->Array aa
 | []=>c
 |v::vs=>gF (c.setIfInBounds i v) (i+1) vs
theorem iY:∀ (vs:O aa) (c:Array aa) (i:Nat),(gF c i vs).size=c.size
 | [],_,_=>rfl
 |v::vs,c,i=>by simp[gF,iY vs]
theorem bu.sZ:∀ (vs:O aa) {w:J}{c:Array aa} (i j:Nat),bu w b c T->bu (setCells w ⟨b,i,none⟩ j vs) b (gF c (i+j) vs) T
 | [],_,_,_,_,h=>h
 |v::vs,w,c,i,j,h=>by
  simp only[setCells,gF,aw]
  have:=bu.sZ vs i (j+1) (h.set (i+j) v)
  rw[show i+(j+1)=i+j+1 from I]at this
  exact this
theorem bu.cc(h:bu w b c T)(i:Nat)(vs:O aa)(d:i+vs.length<=c.size)(a:∀v∈vs,Plain v):bA w ⟨b,i,none⟩ vs:=by
 refine⟨λj e=>?_,a⟩;rw[aw,h.cell,h.frozen _ rfl];have:i+j<c.size:=by omega
 simp[this]
end
theorem ij{B:(J->Prop)->Prop}{rest:J->Prop}(a:J->Prop)(h1:∀k:J->Prop,(∀w,a w->k w)->B k)(h2:∀w,a w->rest w):bt B rest:=⟨h1 rest h2⟩
theorem cd{a:Type}{B:(a->J->Prop)->Prop}{rest:a->J->Prop}(b:a->J->Prop)(h1:∀k:a->J->Prop,(∀x w,b x w->k x w)->B k)(h2:∀x w,b x w->rest x w):bt B rest:=⟨h1 rest h2⟩
theorem s0{a b:Type}{B:(a->b->J->Prop)->Prop}{rest:a->b->J->Prop}(c:a->b->J->Prop)(h1:∀k:a->b->J->Prop,(∀x y w,c x y w->k x y w)->B k)(h2:∀x y w,c x y w->rest x y w):bt B rest:=⟨h1 rest h2⟩
theorem D5.of{P:Program}{w:J}{T:TypeId}{k:IntKind}{v:aa}(h:ly P w T v)(a:P.underlying T=some (.int k)):∃n:Int,v=.int k n/\k.min<=n/\n<=k.max:=by
 simp only[ly,a]at h;obtain⟨fuel,h⟩:=h
 cases fuel with
 |zero=>cases h
 |succ f=>
  simp only[gE,a]at h;obtain⟨n,b,h1,h2⟩:=h;exact⟨n,by simpa using b,h1,h2⟩
theorem z2{n:Int}(h0:IntKind.u8.min<=n)(h1:n<=IntKind.u8.max):0<=n/\n<=255:=by
 simpa[IntKind.min,IntKind.max,IntKind.signed,IntKind.bits] using And.intro h0 h1
theorem bx{n:Int}(h0: -9223372036854775808<=n)(h1:n<=9223372036854775807):IntKind.i64.wrap n=n:=by
 by_cases h:0<=n
 .exact wq h h1
 .have e:n%18446744073709551616=n+18446744073709551616:=by omega
  simp[IntKind.wrap,IntKind.signed,IntKind.bits,e];omega
end a7
namespace a7
open Go Go.RowKit
structure Src(sz:Nat)(w:J)(x:Y)(xs:O aa):Prop where
 len:xs.length=x.len*sz
 nil:x.a=none->xs=[]
 rd:∀a,x.a=some a->cD w a 0 (x.len*sz)=some xs
def ba(sz:Nat)(T:TypeId)(w:J)(s:Y)(vs:O aa):Prop:=
 vs.length=s.len*sz/\s.len<=s.cap/\s.cap<=maxLen/\
 ((s.a=none/\s.cap=0)\/∃b c,s.a=some ⟨b,0,none⟩/\bu w b c T/\c.size=s.cap*sz/\c.toList.take (s.len*sz)=vs)
def aB(s:Y)(k:Nat):Prop:=∃A,s.a=some A/\A.block=k
theorem qZ{w:J}{A:ae}:∀ {n i:Nat}{vs:O aa},cD w A i n=some vs->vs.length=n
 |0,_,_,h=>by simp[cD]at h;simp[←h]
 |n+1,i,vs,h=>by
  simp only[cD]at h
  cases h1:w.cell? (A.add i) with
  |none=>simp[h1]at h
  |some v=>
   cases h2:cD w A (i+1) n with
   |none=>simp[h1,h2]at h
   |some us=>
    simp only[h1,h2,Option.some.injEq]at h
    subst h
    simp[qZ h2]
theorem pe{w:J}{b:Nat}{c:Array aa}{T:TypeId}(h:bu w b c T):∀ (n o i:Nat),o+i+n<=c.size->cD w ⟨b,o,none⟩ i n=some ((c.toList.drop (o+i)).take n)
 |0,o,i,_=>by simp[cD]
 |n+1,o,i,e=>by
  have h1:o+i<c.size:=by omega
  have a:=pe h n o (i+1) I
  simp only[cD,aw,h.cell,a]
  have h2:c[o+i]? =some c[o+i]:=by simp[h1]
  rw[h2]
  simp only[Option.some.injEq]
  have d:c.toList.drop (o+i)=c[o+i]::c.toList.drop (o+i+1):=by
   rw[jy (by simpa using h1)];simp
  rw[d];simp[Nat.add_assoc]
theorem ba.src{sz:Nat}{T:TypeId}{w:J}{s:Y}{vs:O aa}(h:ba sz T w s vs):Src sz w s vs:=by
 obtain⟨h1,h2,k,g⟩:=h;refine⟨h1,λf=>?_,λa d=>?_⟩
 .rcases g with ⟨_,hc⟩|⟨b,c,e,_⟩
  .have:s.len=0:=by omega
   rw[this,Nat.zero_mul]at h1;exact kO.1 h1
  .rw[f]at e;cases e
 .rcases g with ⟨f,_⟩|⟨b,c,e,i,hs,j⟩
  .rw[f]at d;cases d
  .rw[e]at d
   cases d;have:=pe i (s.len*sz) 0 0 (by rw[hs];simp;exact mF _ h2);rw[this];simp[j]
section
variable {P:Program}{w:J}
theorem pg{sz:Nat}{x:Y}{xs:O aa}(h:Src sz w x xs):(Builtin.firstCells sz x.len (.slice x.a x.len x.cap)).run P w=.ok xs.toArray w:=by
 cases hx:x.a with
 |none=>rw[h.nil hx];rfl
 |some a=>
  simp only[Builtin.firstCells,loadCells];rw[run_loadCellsFrom _ _ _ _ (h.rd a hx)];simp
theorem z6(a:Nat):∀ (r c:Nat),c<=2*a+1000->Builtin.growBy a r c<=2*a+1000
 |0,c,h=>h
 |r+1,c,h=>by
  simp only[Builtin.growBy]
  split
  .exact h
  .exact z6 a r _ I
theorem z7{a cap:Nat}(h:cap<a):Builtin.nextslicecap a cap<=2*a+1000:=by
 unfold Builtin.nextslicecap;split
 .omega
 .split
  .omega
  .exact z6 a 4 cap I
theorem wQ{gr:Array TypeId}{cK cM kr e:TypeId}{d:TypeDesc}{sz:Nat}{s x:Y}{xs:O aa}(h0:gr[0]? =some cM)(h1:gr[1]? =some kr)
 (hs:P.underlying cM=some (.slice e)) (hx:P.underlying kr=some (.slice e)) (he:P.underlying e=some d) (g:P.cellsOf e=sz) (h:Src sz w x xs)
 (c:s.len+x.len<=s.cap) (i:∀a,s.a=some a->bA w (a.add (s.len*sz)) xs):
 Sem.run P (Builtin.append_ gr cK #[.slice s.a s.len s.cap,.slice x.a x.len x.cap]) w=
  .ok (.slice s.a (s.len+x.len) s.cap) (match s.a with|some a=>setCells w (a.add (s.len*sz)) 0 xs|none=>w):=by
 have hf:=pg (P:=P) h;have b:=iC (w:=w) he;rw[g]at b
 cases j:s.a with
 |none=>
  simp[Builtin.append_,h0,h1,dm hs,dm hx,b,Builtin.lenOf,c,hf]
 |some a=>
  have f:=i a j;have:=o2 (P:=P) (A:=a.add (s.len*sz)) xs 0 w (by simpa using f.1) f.2;simp[Builtin.append_,h0,h1,dm hs,dm hx,b,Builtin.lenOf,c,hf,this]
theorem run_append_grow{gr:Array TypeId}{cK cM kr e:TypeId}{i:TypeInfo}{z:aa}{sz:Nat}{s x:Y}{xs c:O aa}(h0:gr[0]? =some cM)(h1:gr[1]? =some kr)
 (hs:P.underlying cM=some (.slice e)) (hx:P.underlying kr=some (.slice e)) (hi:P.info? e=some i) (hd:(P.underlying e).isSome=true) (k:i.zero=some z) (l:z.cells.size=sz) (m:P.cellsOf e=sz)
 (o:i.bytes≠0) (f:Src sz w x xs) (hold:Src sz w s c) (p:s.cap<s.len+x.len) (r:(2*(s.len+x.len)+1000)*i.bytes<=281474976710656):
 ∃ (b:Nat) (rest:O aa),s.len+x.len<=b/\b<=maxLen/\rest.length=(b-(s.len+x.len))*sz/\
  Sem.run P (Builtin.append_ gr cK #[.slice s.a s.len s.cap,.slice x.a x.len x.cap]) w=
   .ok (.slice (some ⟨w.heap.size,0,none⟩) (s.len+x.len) b) (w.drew.alloc (.cells (c++xs++rest).toArray e)):=by
 obtain⟨d,hd⟩:=jW _ hd;have h:=iC (w:=w) hd;rw[m]at h;have t:=z7 p;have Q:Builtin.nextslicecap (s.len+x.len) s.cap*i.bytes<=281474976710656:=eD (mF _ t) r;have R:s.len+x.len<=281474976710656:=by
  have:s.len+x.len<=(2*(s.len+x.len)+1000)*i.bytes:=by
   have:=Nat.mul_le_mul_left (2*(s.len+x.len)+1000) (Nat.one_le_iff_ne_zero.2 o);omega
  omega
 let q:Question:=.appendCap (s.len+x.len) s.cap e
 let b:Nat:=q.cut (w.tape w.drawn q)
 have u:q.forced=false:=rfl;have v:s.len+x.len<=b:=by show s.len+x.len<=s.len+x.len+_;omega
 have A:b<=maxLen:=by
  show s.len+x.len+_%(2^63-(s.len+x.len))<=2^63-1;have:=g6 (w.tape w.drawn q) (y:=2^63-(s.len+x.len)) I;omega
 have B:Src sz w.drew x xs:=⟨f.len,f.nil,λa g=>by
  have:=f.rd a g;have hc:ad (λ_=>False) w w.drew:=ad.drew (.refl _ _);exact hc.cD (by simp) _ _ _ this⟩
 have C:Src sz w.drew s c:=⟨hold.len,hold.nil,λa g=>by
  have:=hold.rd a g;have hc:ad (λ_=>False) w w.drew:=ad.drew (.refl _ _);exact hc.cD (by simp) _ _ _ this⟩
 have hf:=pg (P:=P) B;have D:=pg (P:=P) C;have E:∀n (w':J),(askRoom n).run P w'=.ok () w':=λn w'=>by unfold askRoom;split<;>rfl
 have F:(choose q).run P w=.ok b w.drew:=by
  show Sem.run P (.choose q .pure) w=_;simp only[Sem.run,u,fN,if_false];rfl
 have j:=λw:J=>mM (w:=w) hi;refine⟨b,(Builtin.zeroCells z.cells (b-(s.len+x.len))).toList,v,A,by simp[Builtin.zeroCells,l],?_⟩;have G:¬(s.len+x.len<=s.cap):=by omega
 have H:¬((s.len+x.len:Nat):Int)>IntKind.i64.max:=by
  simp[IntKind.max,IntKind.signed,IntKind.bits];omega
 have K:¬(281474976710656<Builtin.nextslicecap (s.len+x.len) s.cap*i.bytes):=by omega
 have L:¬Builtin.nextslicecap (s.len+x.len) s.cap*i.bytes>2^48:=by simpa using K
 unfold Builtin.append_;simp only[qw,lg,we,h0,h1,Sem.run_bind,dm hs,dm hx,Result.andThen,h,Builtin.lenOf,Sem.run_pure,G,if_false,fN,j,H,false_and,L,Bool.not_false,if_true];have M:Sem.run P (choose (.appendCap (s.len+x.len) s.cap e)) w=.ok b w.drew:=F;simp only[M,E,hf,D,zeroValue,j,k,Sem.run_bind,Result.andThen,Sem.run_pure,newRow,newObj,Sem.run];have N:w.drew.heap.size=w.heap.size:=rfl;rw[N]
 congr 1
 show w.drew.alloc _=w.drew.alloc _
 congr 2
 simp
theorem s3:∀ (vs:O aa) (c:Array aa) (i:Nat),i+vs.length<=c.size->(gF c i vs).toList.take (i+vs.length)=c.toList.take i++vs
 | [],c,i,_=>by simp[gF]
 |v::vs,c,i,h=>by
  simp only[e8]at h
  simp only[gF]
  have:=s3 vs (c.setIfInBounds i v) (i+1) (by simpa using (by omega:i+1+vs.length<=c.size))
  rw[show i+(v::vs).length=i+1+vs.length by simp;omega,this]
  have hi:i<c.size:=by omega
  have h2:(c.setIfInBounds i v).toList.take (i+1)=c.toList.take i++ [v]:=by
   rw[iy (by simpa using hi)];have a:(List.take i c.toList).set i v=List.take i c.toList:=by
    apply List.set_eq_of_length_le;simp only[cC];omega
   simp[List.take_set,a]
  rw[h2];simp
theorem D6{gr:Array TypeId}{cK cM kr e:TypeId}{i:TypeInfo}{z:aa}{sz:Nat}{s x:Y}{xs vs:O aa}(h0:gr[0]? =some cM)(h1:gr[1]? =some kr)
 (hs:P.underlying cM=some (.slice e)) (hx:P.underlying kr=some (.slice e)) (hi:P.info? e=some i) (hd:(P.underlying e).isSome=true) (B:i.zero=some z) (C:z.cells.size=sz) (r:P.cellsOf e=sz)
 (D:i.bytes≠0) (f:Src sz w x xs) (t:ba sz e w s vs) (E:∀v∈xs,Plain v) (F:(2*(s.len+x.len)+1000)*i.bytes<=281474976710656):
 ∃ (g:Y) (w':J),Sem.run P (Builtin.append_ gr cK #[.slice s.a s.len s.cap,.slice x.a x.len x.cap]) w=.ok (.slice g.a g.len g.cap) w'/\
  ba sz e w' g (vs++xs)/\g.len=s.len+x.len/\ad (aB s) w w'/\(∀k,aB g k->aB s k\/w.heap.size<=k):=by
 have hold:=t.src;obtain⟨av,ax,G,u⟩:=t;by_cases h:s.len+x.len<=s.cap
 .have H:∀a,s.a=some a->bA w (a.add (s.len*sz)) xs:=by
   intro a j;rcases u with ⟨n,_⟩|⟨b,c,l,o,m,y⟩
   .rw[n]at j;cases j
   .rw[l]at j
    cases j;rw[aw];refine o.cc _ _ ?_ E;rw[m,f.len,cB,←kP];exact mF _ h
  obtain⟨d,hd⟩:=jW _ hd;have p:=wQ (cK:=cK) h0 h1 hs hx hd r f h H;refine⟨⟨s.a,s.len+x.len,s.cap⟩,_,p,?_,rfl,?_,λk q=>.inl q⟩
  .refine⟨by simp[av,f.len,kP],h,G,?_⟩
   rcases u with ⟨n,hc⟩|⟨b,c,l,o,m,y⟩
   .exact .inl ⟨n,hc⟩
   .refine .inr ⟨b,gF c (s.len*sz) xs,l,?_,by rw[iY];exact m,?_⟩
    .simp only[l,aw]
     have:=bu.sZ (T:=e) xs (0+s.len*sz) 0 o;simpa using this
    .have K:s.len*sz+xs.length<=c.size:=by
      rw[m,f.len,←kP];exact mF _ h
     have:=s3 xs c (s.len*sz) K;rw[f.len,←kP]at this;rw[this,y]
  .cases L:s.a with
   |none=>exact .refl _ _
   |some a=>
    refine ad.setCells (λ_=>?_) xs 0 (.refl _ _);exact⟨a,L,by unfold Addr.add;split<;>rfl⟩
 .obtain⟨M,rest,N,Q,R,p⟩:=run_append_grow (cK:=cK) h0 h1 hs hx hi hd B C r D f hold I F
  refine⟨⟨some ⟨w.heap.size,0,none⟩,s.len+x.len,M⟩,_,p,?_,rfl,ad.alloc (ad.drew (.refl _ _)) _,?_⟩
  .refine⟨by simp[av,f.len,kP],N,Q,.inr ⟨w.heap.size,(vs++xs++rest).toArray,rfl,bu.new w.drew _ _,?_,?_⟩⟩
   .simp[av,f.len,R]
    rw[←kP,←kP]
    congr 1
    omega
   .have:(vs++xs).length=(s.len+x.len)*sz:=by simp[av,f.len,kP]
    show List.take ((s.len+x.len)*sz) (vs++xs++rest).toArray.toList=vs++xs;rw[←this];exact List.take_left
  .rintro k ⟨A,ar,q⟩
   cases ar;exact .inr (by simpa using q▸bp _)
end
theorem ba.ab{sz:Nat}{T:TypeId}{w w':J}{s:Y}{vs:O aa}{W:Nat->Prop}(h:ba sz T w s vs)(hc:ad W w w')(e:∀k,aB s k->¬W k):ba sz T w' s vs:=by
 obtain⟨h1,h2,f,a⟩:=h;refine⟨h1,h2,f,?_⟩;rcases a with a|⟨b,c,d,g,i,j⟩
 .exact .inl a
 .exact .inr ⟨b,c,d,g.ab hc (e b ⟨_,d,rfl⟩),i,j⟩
theorem Src.ab{sz:Nat}{w w':J}{s:Y}{vs:O aa}{W:Nat->Prop}(h:Src sz w s vs)(hc:ad W w w')(c:∀k,aB s k->¬W k):Src sz w' s vs:=
 ⟨h.len,h.nil,λa b=>hc.cD (c _ ⟨a,b,rfl⟩) _ _ _ (h.rd a b)⟩
theorem ba.lt{sz:Nat}{T:TypeId}{w:J}{s:Y}{vs:O aa}(h:ba sz T w s vs):∀k,aB s k->k<w.heap.size:=by
 rintro k ⟨A,ar,rfl⟩;obtain⟨_,_,_,a⟩:=h;rcases a with ⟨d,_⟩|⟨b,c,e,f,_⟩
 .rw[d]at ar;cases ar
 .rw[e]at ar;cases ar;exact f.lt
theorem ba.cell{T:TypeId}{w:J}{s:Y}{vs:O aa}(h:ba 1 T w s vs){i:Nat}{v:aa}(d:vs[i]? =some v):
 ∃b c,s.a=some ⟨b,0,none⟩/\bu w b c T/\c.size=s.cap/\i<s.len/\i<c.size/\w.cell? ⟨b,i,none⟩=some v/\c.toList.take s.len=vs:=by
 obtain⟨h1,h2,k,g⟩:=h;have hi:i<s.len:=by
  have:=(ix.1 d).1;omega
 rcases g with ⟨_,hc⟩|⟨b,c,j,e,f,ht⟩
 .omega
 .rw[fF]at f ht
  refine⟨b,c,j,e,f,hi,I,?_,ht⟩;rw[e.cell];rw[←ht,sj]at d;rw[if_pos hi]at d;simpa using d
theorem ba.set{T:TypeId}{w:J}{s:Y}{vs:O aa}{b i:Nat}(h:ba 1 T w s vs)(d:s.a=some ⟨b,0,none⟩)(v:aa):
 ba 1 T (w.setCell ⟨b,i,none⟩ v) s (vs.set i v):=by
 obtain⟨h1,h2,f,g⟩:=h;refine⟨by simpa using h1,h2,f,.inr ?_⟩;rcases g with ⟨j,_⟩|⟨m,c,e,k,l,ht⟩
 .rw[j]at d;cases d
 .rw[d]at e
  cases e;refine⟨b,_,d,k.set i v,by simpa using l,?_⟩;rw[←ht];simp[List.take_set]
def z8(P:Program)(cM e:TypeId)(sz bytes:Nat):ai:=
 match P.underlying cM,P.info? e,P.underlying e with
 |some (.slice a),some i,some _=>a==e&&(match i.zero with|some z=>z.cells.size==sz|none=>false)&&P.cellsOf e==sz&&i.bytes==bytes&&bytes !=0
 |_,_,_=>false
structure hM(P:Program)(cM e:TypeId)(sz bytes:Nat):Prop where
 h:z8 P cM e sz bytes=true
theorem hM.out{P:Program}{cM e:TypeId}{sz bytes:Nat}(h:hM P cM e sz bytes):
 P.underlying cM=some (.slice e)/\∃i z,P.info? e=some i/\(P.underlying e).isSome=true/\i.zero=some z/\z.cells.size=sz/\P.cellsOf e=sz/\i.bytes=bytes/\bytes≠0:=by
 have h:=h.h;unfold z8 at h;split at h
 .rename_i k i d h1 h2 b
  simp only[dZ,ki,bne_iff_ne]at h;obtain⟨⟨⟨⟨rfl,a⟩,c⟩,f⟩,g⟩:=h;split at a
  .rename_i z j
   exact⟨h1,i,z,h2,by simp[b],j,by simpa using a,c,f,g⟩
  .cases a
 .cases h
theorem hM.append{P:Program}{w:J}{cM e cK:TypeId}{sz bytes:Nat}{s x:Y}{xs vs:O aa}(h:hM P cM e sz bytes)
 (c:Src sz w x xs) (d:ba sz e w s vs) (f:∀v∈xs,Plain v) (g:(2*(s.len+x.len)+1000)*bytes<=281474976710656):
 ∃ (b:Y) (w':J),Sem.run P (Builtin.append_ #[cM,cM] cK #[.slice s.a s.len s.cap,.slice x.a x.len x.cap]) w=.ok (.slice b.a b.len b.cap) w'/\
  ba sz e w' b (vs++xs)/\b.len=s.len+x.len/\ad (aB s) w w'/\(∀k,aB b k->aB s k\/w.heap.size<=k):=by
 obtain⟨h1,i,z,h2,j,l,m,n,rfl,o⟩:=h.out;exact D6 rfl rfl h1 h1 h2 j l m n o c d f g
theorem Src.new{sz:Nat}{T:TypeId}(w:J)(xs:O aa)(n:Nat)(b:xs.length=n*sz):Src sz (w.alloc (.cells xs.toArray T)) ⟨some ⟨w.heap.size,0,none⟩,n,n⟩ xs:=by
 refine⟨b,(λh=>by cases h),λa c=>?_⟩
 cases c;rw[pe (bu.new w xs.toArray T) _ _ _ (by simp[b])];simp[←b]
theorem ba.new{sz:Nat}{T:TypeId}(w:J)(xs:O aa)(n:Nat)(a:xs.length=n*sz)(b:n<=maxLen):ba sz T (w.alloc (.cells xs.toArray T)) ⟨some ⟨w.heap.size,0,none⟩,n,n⟩ xs:=by
 refine⟨a,bp _,b,.inr ⟨_,_,rfl,bu.new w _ _,by simp[a],?_⟩⟩;show List.take (n*sz) xs=xs;rw[←a,iz]
theorem ba.none(sz:Nat)(T:TypeId)(w:J):ba sz T w ⟨.none,0,0⟩ []:=⟨by simp,bp _,by decide,.inl ⟨rfl,rfl⟩⟩
theorem fZ(k:Nat):¬aB ⟨.none,0,0⟩ k:=by rintro⟨A,ar,_⟩;cases ar
theorem kt{A:ae}{n m k:Nat}:aB ⟨some A,n,m⟩ k↔A.block=k:=⟨λ⟨B,hB,h⟩=>by cases hB;exact h,λh=>⟨_,rfl,h⟩⟩
theorem Src.alloc{sz:Nat}{w:J}{s:Y}{vs:O aa}(h:Src sz w s vs)(o:Obj):Src sz (w.alloc o) s vs:=h.ab (W:=λ_=>False) (ad.alloc (.refl _ _) o) (λ_ _ h=>h)
theorem ba.ext{sz:Nat}{T:TypeId}{w w':J}{s:Y}{vs:O aa}(h:ba sz T w s vs)(hc:Ext w w'):ba sz T w' s vs:=h.ab hc λ_ _ h=>h
theorem Src.ext{sz:Nat}{w w':J}{s:Y}{vs:O aa}(h:Src sz w s vs)(hc:Ext w w'):Src sz w' s vs:=h.ab hc λ_ _ h=>h
theorem hM.push{P:Program}{w:J}{cM e cK:TypeId}{sz bytes:Nat}{s:Y}{vs xs:O aa}(h:hM P cM e sz bytes)(hx:xs.length=sz)
 (c:ba sz e w s vs) (d:∀v∈xs,Plain v) (f:(2*(s.len+1)+1000)*bytes<=281474976710656):
 ∃ (b:Y) (w':J),Sem.run P (Builtin.append_ #[cM,cM] cK #[.slice s.a s.len s.cap,.slice (some ⟨w.heap.size,0,none⟩) 1 1]) (w.alloc (.cells xs.toArray e))=.ok (.slice b.a b.len b.cap) w'/\
  ba sz e w' b (vs++xs)/\b.len=s.len+1/\ad (aB s) w w'/\(∀k,aB b k->aB s k\/w.heap.size<=k):=by
 have hc:Ext w (w.alloc (.cells xs.toArray e)):=ad.alloc (.refl _ _) _;obtain⟨b,w',h1,h2,g,i,j⟩:=h.append (cK:=cK) (Src.new (T:=e) w xs 1 (by simpa using hx)) (c.ext hc) d f;exact⟨b,w',h1,h2,g,(ad.cF hc).trans i,λk l=>(j k l).imp id (λh=>by simp at h;omega)⟩
theorem hM.clone{P:Program}{w:J}{cM e cK:TypeId}{sz bytes:Nat}{x:Y}{xs:O aa}(h:hM P cM e sz bytes)
 (m:Src sz w x xs) (q:∀v∈xs,Plain v) (r:(2*x.len+1000)*bytes<=281474976710656):
 ∃ (f:Y) (w':J),Sem.run P (Builtin.append_ #[cM,cM] cK #[.slice (some ⟨w.heap.size,0,none⟩) 0 0,.slice x.a x.len x.cap]) (w.alloc (.cells #[] e))=.ok (.slice f.a f.len f.cap) w'/\
  ba sz e w' f xs/\f.len=x.len/\Ext w w'/\(∀k,aB f k->w.heap.size<=k)/\f.a.isSome=true:=by
 have t:=ba.new (sz:=sz) (T:=e) w [] 0 (by simp) (by decide);have n:=m.alloc (.cells #[] e);obtain⟨f,w',h1,h2,o,g,u⟩:=h.append (cK:=cK) n t q (by simpa using r);refine⟨f,w',h1,by simpa using h2,by simpa using o,?_,λk j=>?_,?_⟩
 .refine⟨g.os.trans rfl,g.tape.trans rfl,g.output.trans rfl,?_,λk j _=>?_⟩
  .have:=g.size;simp at this;omega
  .rw[g.block k (by simp;omega) (by rintro⟨A,ar,h⟩;cases ar;simp at h;omega)]
   exact Below.heap_alloc _ _ _ j
 .rcases u k j with ⟨A,ar,h⟩|h
  .cases ar;simp at h;omega
  .simp at h;omega
 .obtain⟨_,i,z,F,y,G,H,B,rfl,I⟩:=h.out
  have l:=h2.2.2.2;rcases l with ⟨C,hc⟩|⟨b,c,l,_⟩
  .
   exfalso;have K:=h2.2.1;have p:x.len=0:=by simp at o;omega
   have D:xs=[]:=kO.1 (by rw[m.len,p,Nat.zero_mul]);obtain⟨d,hd⟩:=jW _ y;have:=wQ (P:=P) (w:=w.alloc (.cells #[] e)) (gr:= #[cM,cM]) (cK:=cK) (s:=⟨some ⟨w.heap.size,0,Option.none⟩,0,0⟩) rfl rfl h.out.1 h.out.1 hd B n (by simp[p]) (λa _=>by
    rw[D];exact⟨λi hi=>by simp at hi,λv E=>by simp at E⟩)
   rw[this]at h1;simp only[Result.ok.injEq,Value.slice.injEq]at h1;rw[C]at h1
   cases h1.1.1
  .rw[l];rfl
theorem D7(k:IntKind)(ns:O Int):∀v∈ns.map (Value.int k),Plain v:=by
 intro v a;obtain⟨n,_,rfl⟩:=eE.1 a;trivial
theorem ba.at{T:TypeId}{w:J}{s:Y}{vs:O aa}(h:ba 1 T w s vs){i:Nat}{v:aa}(g:vs[i]? =some v):
 ∃A:ae,s.a=some A/\((0:Int)<=(i:Int)/\(i:Int)<((s.len:Nat):Int))/\w.cell? (A.add (Int.toNat (i:Int)*1))=some v/\w.frozen? (A.add (Int.toNat (i:Int)*1))=false/\
  aB s (A.add (Int.toNat (i:Int)*1)).block/\∀d,ba 1 T (w.setCell (A.add (Int.toNat (i:Int)*1)) d) s (vs.set i d):=by
 obtain⟨b,c,f,j,k,hi,l,hc,_⟩:=h.cell g;have e:(Addr.mk b 0 Option.none).add (Int.toNat (i:Int)*1)=⟨b,i,Option.none⟩:=by rw[fF,dc,aw,cB]
 exact⟨_,f,⟨I,I⟩,by rw[e];exact hc,by rw[e];exact j.frozen _ rfl,by rw[e];exact⟨_,f,rfl⟩,λd=>by rw[e];exact h.set f d⟩
end a7
namespace a7
open Go Go.RowKit
def z_(ns:O Int):ByteArray:=ns.foldl (λr n=>r.push (UInt8.ofNat n.toNat)) ByteArray.empty
theorem D8{P:Program}{w:J}{src dst e:TypeId}{s:Y}{ns:O Int}(hs:P.underlying src=some (.slice e))(he:P.underlying e=some (.int .u8))(hd:P.underlying dst=some .string)
 (h:Src 1 w s (ns.map (.int .u8))):Sem.run P (convert src dst (.slice s.a s.len s.cap)) w=.ok (.string (z_ ns)) w:=by
 rw[run_convert_bytes_string w src dst e s.a s.len s.cap hs he hd]
 cases b:s.a with
 |none=>
  have:=h.nil b;have d:ns=[]:=by simpa using this
  subst d;rfl
 |some A=>
  have c:=h.rd A b;rw[fF]at c;exact run_bytesToString w A s.len s.cap ns (by
   unfold loadCells;rw[run_loadCellsFrom _ _ _ _ c];simp)
theorem Aa{P:Program}{e:TypeId}{v:aa}(a:((P.info? e).bind (·.zero)).map (·.cells)=some #[v])(hc:P.cellsOf e=1)(n:Nat):g7 P e n=(List.replicate n v).toArray:=by
 unfold g7;rw[hc]
 cases hi:(P.info? e).bind (·.zero) with
 |none=>rw[hi]at a;cases a
 |some z=>
  rw[hi]at a;simp only[lh,Option.some.injEq]at a;simp only[qx,a,fF];apply Array.ext
  .simp
  .intro i h1 h2
   have b:n≠0:=by
    intro h;subst h;simp at h2
   simp[b,Nat.mod_one]
structure mT(P:Program)(w:J)(e:TypeId)(s:Y):Prop where
 le:s.len<=s.cap
 cap:s.cap<=maxLen
 nil:s.a=none->s.cap=0
 cell:∀a,s.a=some a->∀i,i<s.cap->∃vs,cD w (a.add (i*P.cellsOf e)) 0 (P.cellsOf e)=some vs/\∃fuel,gE P w fuel e vs
section
variable {P:Program}{w:J}{T:TypeId}{fuel:Nat}{cs:O aa}
theorem q0{k:IntKind}(h:gE P w fuel T cs)(a:P.underlying T=some (.int k)):∃n:Int,cs=[.int k n]/\k.min<=n/\n<=k.max:=by
 cases fuel with
 |zero=>cases h
 |succ f=>simpa only[gE,a] using h
theorem s4{e:TypeId}(h:gE P w fuel T cs)(b:P.underlying T=some (.slice e)):∃s:Y,cs=[.slice s.a s.len s.cap]/\mT P w e s:=by
 cases fuel with
 |zero=>cases h
 |succ f=>
  simp only[gE,b]at h;obtain⟨s,h0,h1,h2,c,d⟩:=h;exact⟨s,h0,h1,h2,c,λa g i hi=>by
   obtain⟨vs,j,k⟩:=d a g i hi;exact⟨vs,j,f,k⟩⟩
theorem Ab{fs:Array Field}(h:gE P w fuel T cs)(a:P.underlying T=some (.struct fs)):cs.length=P.cellsOf T/\∀f∈fs,∃fuel,gE P w fuel f.type ((cs.drop f.offset).take (P.cellsOf f.type)):=by
 cases fuel with
 |zero=>cases h
 |succ f=>
  simp only[gE,a]at h;exact⟨h.1,λg hg=>⟨f,h.2 g hg⟩⟩
theorem mT.of{e:TypeId}{v:aa}(h:ly P w T v)(b:P.underlying T=some (.slice e)):∃s:Y,v=.slice s.a s.len s.cap/\mT P w e s:=by
 simp only[ly,b]at h;obtain⟨fuel,h⟩:=h;obtain⟨s,h1,h2⟩:=s4 h b;exact⟨s,by simpa using h1,h2⟩
end
theorem ph{w:J}{A:ae}:∀ {n i:Nat}{vs:O aa}{j:Nat}{v:aa},cD w A i n=some vs->vs[j]? =some v->w.cell? (A.add (i+j))=some v
 |0,i,vs,j,v,h,a=>by simp[cD]at h;subst h;simp at a
 |n+1,i,vs,j,v,h,a=>by
  simp only[cD]at h
  cases h1:w.cell? (A.add i) with
  |none=>simp[h1]at h
  |some u=>
   cases h2:cD w A (i+1) n with
   |none=>simp[h1,h2]at h
   |some us=>
    simp only[h1,h2,Option.some.injEq]at h
    subst h
    cases j with
    |zero=>simp at a;subst a;exact h1
    |succ j=>
     have:=ph h2 (j:=j) (by simpa using a)
     rw[show i+(j+1)=i+1+j from I]
     exact this
theorem Src.at{w:J}{s:Y}{vs:O aa}(h:Src 1 w s vs){i:Nat}{v:aa}(b:vs[i]? =some v):
 ∃A:ae,s.a=some A/\((0:Int)<=(i:Int)/\(i:Int)<((s.len:Nat):Int))/\w.cell? (A.add (Int.toNat (i:Int)*1))=some v:=by
 have hi:i<vs.length:=(ix.1 b).1;have d:=h.len
 cases c:s.a with
 |none=>have:=h.nil c;subst this;simp at hi
 |some A=>
  have:=ph (h.rd A c) b;exact⟨A,rfl,⟨I,I⟩,by rw[fF,dc];simpa using this⟩
end a7
namespace a7
open Go Go.RowKit
theorem wR{n:Int}(h0:0<=n)(h1:n<=255):IntKind.u8.wrap n=n:=by
 simp only[IntKind.wrap,IntKind.signed,IntKind.bits];simp;omega
theorem wS{n:Int}(h0:0<=n)(h1:n<=4294967295):IntKind.u32.wrap n=n:=by
 simp only[IntKind.wrap,IntKind.signed,IntKind.bits];simp;omega
theorem gQ{n:Int}(h0:0<=n)(h1:n<=18446744073709551615):IntKind.u64.wrap n=n:=by
 simp only[IntKind.wrap,IntKind.signed,IntKind.bits];simp;omega
theorem D9(n:Int):IntKind.u8.wrap n=n%256:=by
 simp only[IntKind.wrap,IntKind.signed,IntKind.bits];simp
theorem wT(n:Int):IntKind.u64.wrap n=n%18446744073709551616:=by
 simp only[IntKind.wrap,IntKind.signed,IntKind.bits];simp
def S(l:O UInt8):ByteArray:=⟨l.toArray⟩
theorem Ac(l:O UInt8):(S l).toList=l:=ByteArray.toList_mk l
theorem nO(a b:O UInt8):(ByteArray.toList (S a)==ByteArray.toList (S b))=(a==b):=by rw[Ac,Ac]
theorem D_(ns:O Int):z_ ns=S (ns.map λn=>UInt8.ofNat n.toNat):=by
 have h:∀ (ns:O Int) (r:O UInt8),ns.foldl (λr n=>r.push (UInt8.ofNat n.toNat)) (S r)=S (r++ns.map λn=>UInt8.ofNat n.toNat):=by
  intro ns
  induction ns with
  |nil=>intro r;simp
  |cons n ns a=>
   intro r;have e:(S r).push (UInt8.ofNat n.toNat)=S (r++ [UInt8.ofNat n.toNat]):=by
    apply ByteArray.ext;simp[S,ByteArray.push]
   simp only[List.foldl_cons,e,a,ji,cO,nv,iT]
 exact h ns []
theorem add_add(A:ae)(n m:Nat):(A.add n).add m=A.add (n+m):=by
 unfold Addr.add;by_cases h1:n=0
 .subst h1;simp
 .by_cases h2:m=0
  .subst h2;simp
  .rw[if_neg h1,if_neg h2,if_neg I]
   simp[Nat.add_assoc]
def put(f:Nat->Int)(i:Nat)(v:Int):Nat->Int:=λj=>if j=i then v else f j
section
variable {w w':J}{b m i:Nat}{T:TypeId}{f:Nat->Int}
theorem ad.gR{w0 w:J}{b i:Nat}(h:ad (λq=>q=b) w0 w)(v:aa):ad (λq=>q=b) w0 (w.setCell ⟨b,i,none⟩ v):=ad.set h (λ_=>rfl) v
theorem ad.kW{w0 w:J}{b i:Nat}(h:ad (λq=>q=b) w0 w)(vs:O aa)(j:Nat):ad (λq=>q=b) w0 (a7.setCells w ⟨b,i,none⟩ j vs):=ad.setCells (W:=λq=>q=b) (A:=⟨b,i,none⟩) (λ_=>rfl) vs j h
end
theorem s5{b o:Nat}{z l m:Nat}(h:m≠l):aO (some (Addr.mk b o none)) z l m=some ⟨b,o+l*z,none⟩:=by
 simp[aO,h,aw]
theorem Ext.trans{a b c:J}(h1:Ext a b)(h2:Ext b c):Ext a c:=ad.trans h1 h2
theorem Ext.dy{w0 w1 ah:J}{W:Nat->Prop}(h1:Ext w0 w1)(h2:ad W w1 ah)(h:∀k,W k->w0.heap.size<=k):Ext w0 ah:=
 ⟨h2.os.trans h1.os,h2.tape.trans h1.tape,h2.output.trans h1.output,eD h1.size h2.size,λk a _=>by
  rw[h2.block k (fP a h1.size) (λcg=>by have:=h k cg;omega),h1.block k a id]⟩
end a7
