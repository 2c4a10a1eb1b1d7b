/- What a Go program of the model must show, as text that can be read; sound against the kit. -/
import Derived.Below
import Derived.KernelRfl
import Derived.Laws.BytesString
import Derived.OpenShut
import Derived.OrdersHeld
import Derived.ProofKit
import Derived.StillTail
import Derived.Tactics
import Derived.WalkKit
import Derived.WideKeyArgs
namespace Go
theorem bk:type_of% @Nat.le_refl:=@Nat.le_refl
theorem b2:type_of% @of_decide_eq_true:=@of_decide_eq_true
theorem b8:type_of% @decide_eq_true_eq:=@decide_eq_true_eq
theorem cr:type_of% @of_decide_eq_false:=@of_decide_eq_false
theorem cz:type_of% @List.length_append:=@List.length_append
theorem cA:type_of% @Nat.zero_add:=@Nat.zero_add
theorem cF:type_of% @List.length_take:=@List.length_take
theorem cI:type_of% @Nat.zero_le:=@Nat.zero_le
theorem cJ:type_of% @List.getElem_mem:=@List.getElem_mem
theorem cO:type_of% @List.append_assoc:=@List.append_assoc
theorem cR:type_of% @List.mem_append:=@List.mem_append
theorem cU:type_of% @List.length_map:=@List.length_map
theorem cZ:type_of% @List.mem_cons:=@List.mem_cons
theorem c2:type_of% @Int.toNat_natCast:=@Int.toNat_natCast
theorem dg:type_of% @Bool.and_eq_true:=@Bool.and_eq_true
theorem dh:type_of% @decide_eq_true:=@decide_eq_true
theorem dp:type_of% @List.length_set:=@List.length_set
theorem dO:type_of% @List.take_of_length_le:=@List.take_of_length_le
theorem dR:type_of% @List.getElem?_eq_getElem:=@List.getElem?_eq_getElem
theorem dV:type_of% @Nat.lt_or_ge:=@Nat.lt_or_ge
theorem eG:type_of% @Bool.eq_iff_iff:=@Bool.eq_iff_iff
theorem eH:type_of% @List.length_drop:=@List.length_drop
theorem eJ:type_of% @List.mem_map:=@List.mem_map
theorem eO:type_of% @Nat.le_trans:=@Nat.le_trans
theorem e2:type_of% @List.not_mem_nil:=@List.not_mem_nil
theorem e8:type_of% @List.mem_singleton:=@List.mem_singleton
theorem e_:type_of% @or_false:=@or_false
theorem fe:type_of% @List.getElem_of_mem:=@List.getElem_of_mem
theorem fi:type_of% @List.length_cons:=@List.length_cons
theorem fp:type_of% @List.append_nil:=@List.append_nil
theorem fq:type_of% @List.mem_of_mem_take:=@List.mem_of_mem_take
theorem ft:type_of% @List.getD_eq_getElem?_getD:=@List.getD_eq_getElem?_getD
theorem fG:type_of% @Bool.not_eq_true:=@Bool.not_eq_true
theorem fO:type_of% @Nat.lt_of_lt_of_le:=@Nat.lt_of_lt_of_le
theorem fP:type_of% @List.map_append:=@List.map_append
theorem fQ:type_of% @List.getElem_set_ne:=@List.getElem_set_ne
theorem fZ:type_of% @List.mem_of_mem_drop:=@List.mem_of_mem_drop
theorem f_:type_of% @Nat.mul_one:=@Nat.mul_one
theorem ga:type_of% @List.take_append_drop:=@List.take_append_drop
theorem gv:type_of% @Bool.false_eq_true:=@Bool.false_eq_true
theorem gw:type_of% @List.mem_filter:=@List.mem_filter
theorem gE:type_of% @List.filter_append:=@List.filter_append
theorem gS:type_of% @decide_eq_false:=@decide_eq_false
theorem hG:type_of% @Nat.mod_lt:=@Nat.mod_lt
theorem hJ:type_of% @List.map_cons:=@List.map_cons
theorem hK:type_of% @List.nil_append:=@List.nil_append
theorem hL:type_of% @List.getElem?_append_right:=@List.getElem?_append_right
theorem hX:type_of% @Bool.true_and:=@Bool.true_and
theorem ib:type_of% @List.take_succ_eq_append_getElem:=@List.take_succ_eq_append_getElem
theorem ic:type_of% @List.take_length:=@List.take_length
theorem ie:type_of% @List.filter_cons:=@List.filter_cons
theorem iy:type_of% @List.mem_append_right:=@List.mem_append_right
theorem iV:type_of% @List.drop_zero:=@List.drop_zero
theorem iW:type_of% @List.map_map:=@List.map_map
theorem iX:type_of% @Nat.min_eq_left:=@Nat.min_eq_left
theorem iY:type_of% @List.getElem_set_self:=@List.getElem_set_self
theorem jm:type_of% @Nat.eq_of_beq_eq_true:=@Nat.eq_of_beq_eq_true
theorem jD:type_of% @Bool.not_eq_true':=@Bool.not_eq_true'
theorem jE:type_of% @Bool.or_eq_true:=@Bool.or_eq_true
theorem jF:type_of% @List.length_filter_le:=@List.length_filter_le
theorem jQ:type_of% @List.mem_cons_of_mem:=@List.mem_cons_of_mem
theorem jR:type_of% @Bool.false_or:=@Bool.false_or
theorem jS:type_of% @List.mem_range:=@List.mem_range
theorem jT:type_of% @Nat.add_mul:=@Nat.add_mul
theorem jU:type_of% @List.filter_eq_self:=@List.filter_eq_self
theorem jV:type_of% @List.pairwise_cons:=@List.pairwise_cons
theorem jW:type_of% @List.length_singleton:=@List.length_singleton
theorem jX:type_of% @List.find?_eq_none:=@List.find?_eq_none
theorem jY:type_of% @List.mem_of_find?_eq_some:=@List.mem_of_find?_eq_some
theorem kn:type_of% @List.getElem?_eq_some_iff:=@List.getElem?_eq_some_iff
theorem ko:type_of% @decide_eq_false_iff_not:=@decide_eq_false_iff_not
theorem kp:type_of% @List.drop_eq_getElem_cons:=@List.drop_eq_getElem_cons
theorem kq:type_of% @beq_iff_eq:=@beq_iff_eq
theorem kr:type_of% @Nat.mod_eq_of_lt:=@Nat.mod_eq_of_lt
theorem kt:type_of% @List.mem_append_left:=@List.mem_append_left
theorem kR:type_of% @List.find?_some:=@List.find?_some
theorem kS:type_of% @Bool.false_and:=@Bool.false_and
theorem kT:type_of% @List.count_pos_iff:=@List.count_pos_iff
theorem lu:type_of% @List.drop_drop:=@List.drop_drop
theorem lv:type_of% @List.length_nil:=@List.length_nil
theorem lU:type_of% @Nat.add_zero:=@Nat.add_zero
theorem lV:type_of% @List.pairwise_iff_getElem:=@List.pairwise_iff_getElem
theorem mn:type_of% @Array.getElem?_eq_some_iff:=@Array.getElem?_eq_some_iff
theorem mo:type_of% @List.length_eq_zero_iff:=@List.length_eq_zero_iff
theorem mq:type_of% @Option.map_some:=@Option.map_some
theorem mu:type_of% @List.map_take:=@List.map_take
theorem mv:type_of% @UInt8.toNat_lt:=@UInt8.toNat_lt
theorem mw:type_of% @List.ext_getElem:=@List.ext_getElem
theorem mx:type_of% @List.pairwise_append:=@List.pairwise_append
theorem my:type_of% @List.sum_append:=@List.sum_append
theorem mz:type_of% @List.getElem?_map:=@List.getElem?_map
theorem m0:type_of% @List.cons_append:=@List.cons_append
theorem m3:type_of% @Nat.sub_zero:=@Nat.sub_zero
theorem m4:type_of% @List.map_drop:=@List.map_drop
theorem m5:type_of% @List.length_replicate:=@List.length_replicate
theorem m6:type_of% @List.filter_eq_nil_iff:=@List.filter_eq_nil_iff
theorem m7:type_of% @Bool.not_eq_false':=@Bool.not_eq_false'
theorem m8:type_of% @List.take_append_of_le_length:=@List.take_append_of_le_length
theorem m9:type_of% @List.getElem?_eq_none:=@List.getElem?_eq_none
theorem m_:type_of% @List.mem_or_eq_of_mem_set:=@List.mem_or_eq_of_mem_set
theorem nU:type_of% @Option.isSome_iff_exists:=@Option.isSome_iff_exists
theorem nV:type_of% @List.all_eq_true:=@List.all_eq_true
theorem nW:type_of% @Nat.testBit_or:=@Nat.testBit_or
theorem nX:type_of% @List.getElem?_cons_zero:=@List.getElem?_cons_zero
theorem nY:type_of% @Nat.le_of_ble_eq_true:=@Nat.le_of_ble_eq_true
theorem nZ:type_of% @Nat.mul_le_mul_right:=@Nat.mul_le_mul_right
theorem n0:type_of% @List.perm_middle:=@List.perm_middle
theorem n1:type_of% @Option.some_get:=@Option.some_get
theorem n2:type_of% @List.length_zip:=@List.length_zip
theorem n3:type_of% @UInt8.toNat_ofNat':=@UInt8.toNat_ofNat'
theorem o5:type_of% @Nat.sub_self:=@Nat.sub_self
theorem o6:type_of% @List.getElem?_cons_succ:=@List.getElem?_cons_succ
theorem o7:type_of% @Int.tmod_eq_emod_of_nonneg:=@Int.tmod_eq_emod_of_nonneg
theorem o8:type_of% @List.nodup_append:=@List.nodup_append
theorem o9:type_of% @List.mem_cons_self:=@List.mem_cons_self
theorem o_:type_of% @List.getElem_set:=@List.getElem_set
theorem pb:type_of% @List.getElem_take:=@List.getElem_take
theorem pc:type_of% @List.take_take:=@List.take_take
theorem pd:type_of% @List.getElem_append_left:=@List.getElem_append_left
theorem pe:type_of% @List.take_left':=@List.take_left'
theorem pg:type_of% @Nat.eq_zero_or_pos:=@Nat.eq_zero_or_pos
theorem ph:type_of% @List.count_append:=@List.count_append
theorem pj:type_of% @List.filter_nil:=@List.filter_nil
theorem pk:type_of% @List.filter_congr:=@List.filter_congr
theorem qG:type_of% @List.any_eq_false:=@List.any_eq_false
theorem qH:type_of% @Bool.or_eq_false_iff:=@Bool.or_eq_false_iff
theorem qI:type_of% @Bool.and_true:=@Bool.and_true
theorem qJ:type_of% @Nat.zero_mul:=@Nat.zero_mul
theorem qK:type_of% @UInt8.toNat_inj:=@UInt8.toNat_inj
theorem qL:type_of% @List.getElem_append_right:=@List.getElem_append_right
theorem qM:type_of% @List.exists_mem_of_ne_nil:=@List.exists_mem_of_ne_nil
theorem qN:type_of% @List.zipWith_append:=@List.zipWith_append
theorem qO:type_of% @Decidable.byContradiction:=@Decidable.byContradiction
theorem qP:type_of% @Bool.true_or:=@Bool.true_or
theorem qQ:type_of% @List.count_cons:=@List.count_cons
theorem qR:type_of% @List.count_nil:=@List.count_nil
theorem sI:type_of% @List.filterMap_cons:=@List.filterMap_cons
theorem sJ:type_of% @List.filterMap_append:=@List.filterMap_append
theorem sK:type_of% @Nat.testBit_two_pow:=@Nat.testBit_two_pow
theorem sL:type_of% @List.getElem?_toArray:=@List.getElem?_toArray
theorem sM:type_of% @Option.getD_some:=@Option.getD_some
theorem sN:type_of% @List.drop_left':=@List.drop_left'
theorem sO:type_of% @List.of_mem_zip:=@List.of_mem_zip
theorem sP:type_of% @List.sum_cons:=@List.sum_cons
theorem sQ:type_of% @List.perm_append_comm:=@List.perm_append_comm
theorem sR:type_of% @List.toList_toArray:=@List.toList_toArray
theorem sS:type_of% @Int.eq_ofNat_of_zero_le:=@Int.eq_ofNat_of_zero_le
theorem sT:type_of% @List.drop_eq_nil_of_le:=@List.drop_eq_nil_of_le
theorem sU:type_of% @List.findIdx?_eq_some_iff_getElem:=@List.findIdx?_eq_some_iff_getElem
theorem uS:type_of% @Array.getElem?_modify:=@Array.getElem?_modify
theorem uT:type_of% @List.getElem?_drop:=@List.getElem?_drop
theorem uU:type_of% @List.range_eq_range':=@List.range_eq_range'
theorem uV:type_of% @Option.map_eq_some_iff:=@Option.map_eq_some_iff
theorem uW:type_of% @List.getElem?_take:=@List.getElem?_take
theorem uX:type_of% @List.drop_of_length_le:=@List.drop_of_length_le
theorem uY:type_of% @List.getElem_mapIdx:=@List.getElem_mapIdx
theorem uZ:type_of% @List.set_append_right:=@List.set_append_right
theorem u0:type_of% @List.getElem?_append_left:=@List.getElem?_append_left
theorem u3:type_of% @Nat.pow_le_pow_right:=@Nat.pow_le_pow_right
theorem u4:type_of% @List.length_pos_iff:=@List.length_pos_iff
theorem u5:type_of% @List.take_sublist:=@List.take_sublist
theorem u6:type_of% @List.getElem_drop:=@List.getElem_drop
theorem u7:type_of% @List.getElem_zip:=@List.getElem_zip
theorem u9:type_of% @List.map_congr_left:=@List.map_congr_left
theorem u_:type_of% @List.flatten_append:=@List.flatten_append
theorem va:type_of% @List.eq_of_mem_replicate:=@List.eq_of_mem_replicate
theorem vb:type_of% @List.flatten_cons:=@List.flatten_cons
theorem vc:type_of% @List.take_append:=@List.take_append
theorem vd:type_of% @List.mem_iff_getElem:=@List.mem_iff_getElem
theorem ve:type_of% @List.size_toArray:=@List.size_toArray
theorem vf:type_of% @List.getElem_map:=@List.getElem_map
theorem vg:type_of% @List.findIdx?_eq_none_iff:=@List.findIdx?_eq_none_iff
theorem yZ:type_of% @Int.tdiv_eq_ediv_of_nonneg:=@Int.tdiv_eq_ediv_of_nonneg
theorem y0:type_of% @List.set_eq_take_append_cons_drop:=@List.set_eq_take_append_cons_drop
theorem y1:type_of% @List.getLast?_eq_getElem?:=@List.getLast?_eq_getElem?
theorem I{p:Prop}(h:p:=by omega):p:=h
abbrev J:=World
abbrev aa:=Value
abbrev au(α:Type):=Option α
abbrev O(α:Type):=List α
abbrev af:=Addr
abbrev ao:=Bool
theorem U3{p:Prop}(h:p:=by kernel_rfl):p:=h
theorem U4{a p:Prop}(x:a)(h:a->p:=by intro _;omega):p:=h x
theorem U5{a b p:Prop}(x:a)(y:b)(h:a->b->p:=by intro _ _;omega):p:=h x y
theorem U6{α}(e:α):∃x,x=e:=⟨e,rfl⟩
theorem U9{p:Prop}(h:p:=by simp):p:=h
end Go
namespace aS
open Go
structure ad where
 a:au af
 len:Nat
 cap:Nat
instance:Coe ad Value:=⟨λs=>.slice s.a s.len s.cap⟩
instance:Coe Int Value:=⟨λn=>.int .i64 n⟩
instance:Coe Nat Value:=⟨λn=>.int .i64 (n:Int)⟩
instance:Coe Bool Value:=⟨λb=>.bool b⟩
instance:Coe Nat Addr:=⟨λb=>⟨b,0,none⟩⟩
instance:Coe (Option Addr) Value:=⟨λp=>.pointer p⟩
instance:Coe Unit Value:=⟨λ_=>.slice none 0 0⟩
abbrev U0:=aa->J->Prop
abbrev U1:=Nat->Prop
abbrev U2:=J->Prop
instance:Coe J Nat:=⟨λw=>w.heap.size⟩
instance:Coe J Addr:=⟨λw=>⟨w.heap.size,0,none⟩⟩
inductive U7 where|o
abbrev U8:=U7.o
instance:Coe U7 Value:=⟨λ_=>.int .i64 0⟩
structure hM where
 f:FuncId
 pre:Array aa
 cap:Array aa
inductive c8 where
 |int (k:IntKind)|bool|str|ptr|slice|map|agg|fn|any
def c8.T:c8->Type
 | .int _=>Int
 | .bool=>ao
 | .str=>ByteArray
 | .ptr=>au af
 | .slice=>ad
 | .map=>au Nat
 | .agg=>Array aa
 | .fn=>hM
 | .any=>aa
def c8.v:(l:c8)->l.T->aa
 | .int k,(n:Int)=>.int k n
 | .bool,(b:ao)=>.bool b
 | .str,(s:ByteArray)=>.string s
 | .ptr,(p:au af)=>.pointer p
 | .slice,(s:ad)=>.slice s.a s.len s.cap
 | .map,(r:au Nat)=>.map r
 | .agg,(cs:Array aa)=>.agg cs
 | .fn,(F:hM)=>.func (.func F.f) F.pre F.cap
 | .any,(v:aa)=>v
inductive Kd where
 |one (l:c8)
 |flat (ls:O c8)
def pn(l:c8)(K:aa->Prop):Prop:=
 match l with
 | .int k=>∃n:Int,K (.int k n)
 | .bool=>∃b:ao,K (.bool b)
 | .str=>∃s:ByteArray,K (.string s)
 | .ptr=>∃p:au af,K (.pointer p)
 | .slice=>∃s:ad,K (.slice s.a s.len s.cap)
 | .map=>∃r:au Nat,K (.map r)
 | .agg=>∃cs:Array aa,K (.agg cs)
 | .fn=>∃F:hM,K (.func (.func F.f) F.pre F.cap)
 | .any=>∃v:aa,K v
def y2:O c8->(O aa->Prop)->Prop
 | [],K=>K []
 |l::ls,K=>pn l λv=>y2 ls λvs=>K (v::vs)
def y3(k:Kd)(K:aa->Prop):Prop:=
 match k with
 | .one l=>pn l K
 | .flat ls=>y2 ls λvs=>K (.agg vs.toArray)
def vh:O Kd->(O aa->Prop)->Prop
 | [],K=>K []
 |k::ks,K=>y3 k λv=>vh ks λvs=>K (v::vs)
theorem qS{l:c8}{K:aa->Prop}(h:pn l K):∃v,K v:=by
 cases l<;>simp only[pn]at h<;>obtain⟨x,h⟩:=h<;>exact⟨_,h⟩
theorem Ca:∀ {ls:O c8}{K:O aa->Prop},y2 ls K->∃vs,K vs
 | [],_,h=>⟨_,h⟩
 |_::_,_,h=>let ⟨_,h⟩:=qS h;let ⟨_,h⟩:=Ca h;⟨_,h⟩
theorem Cb{k:Kd}{K:aa->Prop}(h:y3 k K):∃v,K v:=by
 cases k with
 |one l=>exact qS h
 |flat ls=>obtain⟨_,h⟩:=Ca h;exact⟨_,h⟩
theorem y4:∀ {ls:O Kd}{K:O aa->Prop},vh ls K->∃vs,K vs
 | [],_,h=>⟨_,h⟩
 |_::_,_,h=>let ⟨_,h⟩:=Cb h;let ⟨_,h⟩:=y4 h;⟨_,h⟩
abbrev Env:=O (Nat×aa)
def Env.get:Env->Nat->au aa
 | [],_=>none
 |(k,v)::e,s=>bif Nat.beq k s then some v else Env.get e s
def ev(e:Env):Operand->au aa
 | .tmp t=>e.get t
 | .const v=>some v
 | .global g=>some (.pointer (some ⟨g,0,none⟩))
 | .func f=>some (.func (.func f) #[] #[])
def ro(e:Env)(x:Operand):aa:=(ev e x).getD undef
def known(e:Env)(xs:Array Operand):ao:=xs.toList.all λx=>(ev e x).isSome
structure dG(e:Env)(a:Act):Prop where
 get:∀s v,e.get s=some v->a.tmps[s]? =some v
theorem dG.ev{e:Env}{a:Act}(h:dG e a){x:Operand}{v:aa}(hx:ev e x=some v):a.eval x=v:=by
 cases x with
 |tmp t=>
  have:=h.get t v hx;simp[Act.eval,Array.getD_eq_getD_getElem?,this]
 |const c=>simpa[aS.ev,Act.eval] using hx
 |global g=>simpa[aS.ev,Act.eval] using hx
 |func f=>simpa[aS.ev,Act.eval] using hx
theorem dG.ro{e:Env}{a:Act}(h:dG e a){x:Operand}(hx:(aS.ev e x).isSome=true):a.eval x=ro e x:=by
 obtain⟨v,b⟩:=nU.1 hx;rw[h.ev b,aS.ro,b];rfl
def dC(d:au Nat)(v:aa)(e:Env):Env:=
 match d with
 |some d=>(d,v)::e
 |none=>e
theorem po(d:Nat)(v:aa)(e:Env)(s:Nat):Env.get ((d,v)::e) s=if d=s then some v else e.get s:=by
 simp only[Env.get,cond_eq_ite];by_cases a:d=s
 .subst a;simp
 .have:Nat.beq d s=false:=by
   cases b:Nat.beq d s
   .rfl
   .exact absurd (jm b) a
  simp[this,a]
theorem dG.put{e:Env}{a:Act}(h:dG e a){d:au Nat}{v:aa}(hd:∀k,d=some k->k<a.tmps.size):dG (dC d v e) (a.put d v):=by
 cases d with
 |none=>exact h
 |some d=>
  constructor;intro s u hs;rw[dC,po]at hs;simp only[Act.put];by_cases b:d=s
  .subst b
   simp only[if_true,Option.some.injEq]at hs;subst hs;simp[hd d rfl]
  .rw[if_neg b]at hs
   rw[Array.getElem?_setIfInBounds_ne b];exact h.get s u hs
inductive ei where
 |one (k:Kd)
 |fu (ks:O Kd)
def iZ(r:ei)(K:aa->Prop):Prop:=
 match r with
 | .one k=>y3 k K
 | .fu ks=>vh ks λvs=>K (.tuple vs.toArray)
theorem jn{r:ei}{K:aa->Prop}(h:iZ r K):∃v,K v:=by
 cases r with
 |one k=>exact Cb h
 |fu ks=>obtain⟨_,h⟩:=y4 h;exact⟨_,h⟩
def bf(w:J)(A:af):Nat->Nat->au (O aa)
 |_,0=>some []
 |i,n+1=>match w.cell? (A.add i),bf w A (i+1) n with
  |some v,some vs=>some (v::vs)
  |_,_=>none
def setCells(w:J)(A:af):Nat->O aa->J
 |_,[]=>w
 |i,v::vs=>setCells (w.setCell (A.add i) v) A (i+1) vs
def Plain:aa->Prop
 | .agg _=>False
 | .tuple _=>False
 |_=>True
def bp(w:J)(A:af)(vs:O aa):Prop:=
 (∀i,i<vs.length->(w.cell? (A.add i)).isSome=true/\w.frozen? (A.add i)=false)/\∀v∈vs,Plain v
def iz:TypeDesc->ao
 | .struct _=>true
 | .array _ _=>true
 |_=>false
def ig(P:Program)(elem:TypeId)(n:Nat):Array aa:=
 let zero:=if n*P.cellsOf elem=0 then #[] else (((P.info? elem).bind (·.zero)).getD undef).cells
 (Array.range (n*P.cellsOf elem)).map (zero[· %zero.size]!)
section
variable {P:Program}{w:J}
theorem di{t:TypeId}{d:TypeDesc}(h:P.underlying t=some d):(underlying t).run P w=.ok d w:=by
 simp[underlying,program,Sem.run,bind,Sem.bind,h,pure]
theorem n4{t:TypeId}{d:TypeInfo}(h:P.info? t=some d):(typeInfo t).run P w=.ok d w:=by
 simp[typeInfo,program,Sem.run,bind,Sem.bind,h,pure]
theorem info_of_underlying{t:TypeId}{d:TypeDesc}(h:P.underlying t=some d):∃i,P.info? t=some i:=by
 unfold Program.underlying at h
 cases hi:P.info? t with
 |none=>simp[hi]at h
 |some i=>exact⟨i,rfl⟩
theorem iA{t:TypeId}{d:TypeDesc}(h:P.underlying t=some d):(Go.sizeOf t).run P w=.ok (P.cellsOf t) w:=by
 obtain⟨i,hi⟩:=info_of_underlying h;simp[Go.sizeOf,n4 hi,Program.cellsOf,hi]
theorem qT{t:TypeId}{d:TypeDesc}(h:P.underlying t=some d):(isAgg t).run P w=.ok (iz d) w:=by
 simp only[isAgg,Sem.run_bind,di h,Result.andThen]
 cases d<;>rfl
theorem y5{A:af}{v:aa}(h:w.cell? A=some v):(load A).run P w=.ok v w:=by
 simp[load,Sem.run,h]
theorem run_loadCellsFrom{A:af}:∀ (n i:Nat) (acc:Array aa) (vs:O aa),bf w A i n=some vs->
 (loadCellsFrom A i n acc).run P w=.ok (acc++vs.toArray) w
 |0,i,acc,vs,h=>by
  simp only[bf,Option.some.injEq]at h
  subst h
  simp[loadCellsFrom]
 |n+1,i,acc,vs,h=>by
  simp only[bf]at h
  cases h1:w.cell? (A.add i) with
  |none=>simp[h1]at h
  |some v=>
   cases h2:bf w A (i+1) n with
   |none=>simp[h1,h2]at h
   |some us=>
    simp only[h1,h2,Option.some.injEq]at h
    subst h
    simp only[loadCellsFrom,Sem.run_bind,y5 h1,Result.andThen]
    rw[run_loadCellsFrom n (i+1) (acc.push v) us h2]
    simp
theorem vi{T:TypeId}{d:TypeDesc}(a:P.underlying T=some d)(hd:iz d=true){A:af}{vs:O aa}(h:bf w A 0 (P.cellsOf T)=some vs):
 (loadVar T A).run P w=.ok (.agg vs.toArray) w:=by
 simp only[loadVar,Sem.run_bind,qT a,Result.andThen,hd,if_true,iA a,loadCells,run_loadCellsFrom _ _ _ _ h];simp
theorem Cc{T:TypeId}{d:TypeDesc}(a:P.underlying T=some d)(hd:iz d=false){A:af}{v:aa}(h:w.cell? A=some v):
 (loadVar T A).run P w=.ok v w:=by
 simp only[loadVar,Sem.run_bind,qT a,Result.andThen,hd,gv,if_false,y5 h]
theorem GR{A:af}{v u:aa}(a:Plain v)(h:w.cell? A=some u)(hf:w.frozen? A=false):(store A v).run P w=.ok () (w.setCell A v):=by
 cases v<;>simp_all [store,Sem.run,Plain]
theorem GS(w:J)(A B:af)(v:aa):((w.setCell A v).cell? B).isSome=(w.cell? B).isSome:=by
 simp only[World.setCell,World.cell?,uS];by_cases a:A.block=B.block
 .simp only[a,if_true]
  cases w.heap[B.block]? with
  |none=>rfl
  |some o=>
   cases o<;>simp
   by_cases hs:B.spot.isSome<;>simp[hs]
   by_cases b:A.spot.isSome<;>simp[b]
   rw[eG];simp
 .simp[a]
theorem GU(w:J)(A B:af)(v:aa):(w.setCell A v).frozen? B=w.frozen? B:=by
 simp only[World.setCell,World.frozen?,uS];by_cases a:A.block=B.block
 .simp only[a,if_true]
  cases w.heap[B.block]? with
  |none=>rfl
  |some o=>cases o<;>rfl
 .simp[a]
theorem qU{A:af}:∀ (vs:O aa) (i:Nat) (w:J),(∀j,j<vs.length->(w.cell? (A.add (i+j))).isSome=true/\w.frozen? (A.add (i+j))=false)->(∀v∈vs,Plain v)->
 (storeCells A vs i).run P w=.ok () (setCells w A i vs)
 | [],i,w,_,_=>rfl
 |v::vs,i,w,h,a=>by
  have h0:=h 0 U9
  simp only[lU]at h0
  obtain⟨u,hu⟩:=nU.1 h0.1
  simp only[storeCells,Sem.run_bind,GR (P:=P) (a v U9) hu h0.2,Result.andThen,setCells]
  refine qU vs (i+1) (w.setCell (A.add i) v) (λj b=>?_) (λx hx=>a x (by simp[hx]))
  have:=h (j+1) (by simp;omega)
  rw[GS,GU,show i+1+j=i+(j+1) from I]
  exact this
theorem Cd{T:TypeId}{d:TypeDesc}(a:P.underlying T=some d){A:af}{v:aa}(hs:v.cells.size=P.cellsOf T)(h:bp w A v.cells.toList):
 (storeVar T A v).run P w=.ok () (setCells w A 0 v.cells.toList):=by
 simp only[storeVar,Sem.run_bind,iA a,Result.andThen,hs,ne_eq,not_true,if_false];simpa using qU v.cells.toList 0 w (by simpa using h.1) h.2
end
def y6:O c8->af->Nat->J->(O aa->Prop)->Prop
 | [],_,_,_,K=>K []
 |l::ls,A,i,w,K=>pn l λv=>w.cell? (A.add i)=some v/\y6 ls A (i+1) w λvs=>K (v::vs)
def qV(P:Program)(tk:TypeId->ei)(T:TypeId)(A:af)(w:J)(K:aa->Prop):Prop:=
 match P.underlying T with
 |none=>False
 |some d=>
  bif iz d then
   match tk T with
   | .one (.flat ls)=>bif Nat.beq (P.cellsOf T) ls.length then y6 ls A 0 w λvs=>K (.agg vs.toArray) else False
   |_=>∃cs:O aa,bf w A 0 (P.cellsOf T)=some cs/\K (.agg cs.toArray)
  else
   match tk T with
   | .one (.one l)=>pn l λv=>w.cell? A=some v/\K v
   |_=>False
def y7(P:Program)(tk:TypeId->ei)(T:TypeId)(A:af)(x:aa)(w:J)(K:U2):Prop:=
 match P.underlying T with
 |none=>False
 |some d=>
  bif iz d then
   match x with
   | .agg cs=>bp w A cs.toList/\cs.size=P.cellsOf T/\K (setCells w A 0 cs.toList)
   |_=>False
  else bif Nat.beq (P.cellsOf T) 1 then
   match tk T with
   | .one (.one .any)=>Plain x/\(∃u,w.cell? A=some u)/\w.frozen? A=false/\K (w.setCell A x)
   |_=>match x with
    | .agg _=>False
    | .tuple _=>False
    |_=>(∃u,w.cell? A=some u)/\w.frozen? A=false/\K (w.setCell A x)
  else False
def jo(P:Program)(T:TypeId)(xs ys:Array aa)(b:ao):Prop:=
 P.eqGuardType P.depth T=false/\∀w,(Op.equal T (.agg xs) (.agg ys)).run P w=.ok b w
def pq:aa->au ao
 | .nilIface=>some true
 | .iface _ _=>some false
 |_=>none
def pr:au TypeDesc->ao
 |some (.interface _)=>true
 |_=>false
def na:au TypeDesc->ao
 |some (.pointer _)=>true
 |_=>false
def n_:au TypeDesc->ao
 |some (.slice _)=>true
 |_=>false
def qW:au TypeDesc->ao
 |some (.map _ _)=>true
 |_=>false
def kU:IntKind->IntKind->ao:=λa b=>decide (a=b)
def vj(P:Program)(op:BinOp)(T:TypeId)(x y:aa)(K:aa->Prop)(G:Prop):Prop:=
 match y with
 | .nilIface=>bif pr (P.underlying T) then
  match op with
  | .eql=>∃b,pq x=some b/\K (.bool b)
  | .neq=>∃b,pq x=some b/\K (.bool (!b))
  |_=>False
  else False
 | .pointer none=>bif na (P.underlying T) then
  match op,x with
  | .eql,.pointer p=>K (.bool p.isNone)
  | .neq,.pointer p=>K (.bool (!p.isNone))
  |_,_=>False
  else False
 | .slice none _ _=>bif n_ (P.underlying T) then
  match op,x with
  | .eql,.slice a _ _=>K (.bool a.isNone)
  | .neq,.slice a _ _=>K (.bool (!a.isNone))
  |_,_=>False
  else False
 | .map none=>bif qW (P.underlying T) then
  match op,x with
  | .eql,.map r=>K (.bool r.isNone)
  | .neq,.map r=>K (.bool (!r.isNone))
  |_,_=>False
  else False
 | .agg ys=>
  match op,x with
  | .eql,.agg xs=>∃b,jo P T xs ys b/\K (.bool b)
  | .neq,.agg xs=>∃b,jo P T xs ys b/\K (.bool (!b))
  |_,_=>False
 | .int c b=>
  match op,x with
  | .quo,.int k a=>bif kU k c then b≠0/\K (.int k (k.wrap (a.tdiv b))) else False
  | .rem,.int k a=>bif kU k c then b≠0/\K (.int k (a.tmod b)) else False
  | .shl,.int k a=>0<=b/\K (.int k (k.wrap (a*2^(min b.toNat k.bits))))
  | .shr,.int k a=>0<=b/\K (.int k (a.fdiv (2^(min b.toNat k.bits))))
  |_,_=>G
 | .bool b=>match P.underlying T with
  |some .bool=>match op,x with
   | .eql,.bool a=>K (.bool (a==b))
   | .neq,.bool a=>K (.bool (!(a==b)))
   |_,_=>False
  |_=>False
 | .string b=>
  match op,x with
  | .add,.string a=>((a.size+b.size:Nat):Int)<=9223372036854775807/\K (.string (a++b))
  |_,_=>G
 |_=>G
section
variable {P:Program}
theorem qX(T:TypeId)(x y:aa):Op.equal T x y=Op.equalIn (9999+1) T x y:=rfl
theorem GV(d:Nat){T:TypeId}{x:aa}{b:ao}(a:pr (P.underlying T)=true)(h:pq x=some b)(w:J):
 (Op.equalIn (d+1) T x .nilIface).run P w=.ok b w:=by
 cases hu:P.underlying T with
 |none=>simp[hu,pr]at a
 |some d=>
  cases d<;>simp only[hu,pr,gv]at a
  simp only[Op.equalIn,Sem.run_bind,di hu,Result.andThen]
  cases x<;>simp only[pq,reduceCtorEq,Option.some.injEq]at h<;>subst h<;>rfl
theorem GW(d:Nat){T:TypeId}{p:au af}(a:na (P.underlying T)=true)(w:J):
 (Op.equalIn (d+1) T (.pointer p) (.pointer none)).run P w=.ok p.isNone w:=by
 cases hu:P.underlying T with
 |none=>simp[hu,na]at a
 |some d=>
  cases d<;>simp only[hu,na,gv]at a
  simp only[Op.equalIn,Sem.run_bind,di hu,Result.andThen]
  cases p<;>rfl
theorem GX(d:Nat){T:TypeId}{a:au af}{l c e c':Nat}(b:n_ (P.underlying T)=true)(w:J):
 (Op.equalIn (d+1) T (.slice a l c) (.slice none e c')).run P w=.ok a.isNone w:=by
 cases hu:P.underlying T with
 |none=>simp[hu,n_]at b
 |some d=>
  cases d<;>simp only[hu,n_,gv]at b
  simp only[Op.equalIn,Sem.run_bind,di hu,Result.andThen]
  cases a<;>rfl
theorem GY(d:Nat){T:TypeId}{r:au Nat}(a:qW (P.underlying T)=true)(w:J):
 (Op.equalIn (d+1) T (.map r) (.map none)).run P w=.ok r.isNone w:=by
 cases hu:P.underlying T with
 |none=>simp[hu,qW]at a
 |some d=>
  cases d<;>simp only[hu,qW,gv]at a
  simp only[Op.equalIn,Sem.run_bind,di hu,Result.andThen]
  cases r<;>rfl
theorem Ce{T:TypeId}{x:aa}{b:ao}(a:pr (P.underlying T)=true)(h:pq x=some b)(w:J):
 (Op.equal T x .nilIface).run P w=.ok b w:=by rw[qX];exact GV _ a h w
theorem vk{T:TypeId}{p:au af}(a:na (P.underlying T)=true)(w:J):
 (Op.equal T (.pointer p) (.pointer none)).run P w=.ok p.isNone w:=by rw[qX];exact GW _ a w
theorem vl{T:TypeId}{a:au af}{l c b c':Nat}(d:n_ (P.underlying T)=true)(w:J):
 (Op.equal T (.slice a l c) (.slice none b c')).run P w=.ok a.isNone w:=by rw[qX];exact GX _ d w
theorem Cf{T:TypeId}{r:au Nat}(a:qW (P.underlying T)=true)(w:J):
 (Op.equal T (.map r) (.map none)).run P w=.ok r.isNone w:=by rw[qX];exact GY _ a w
theorem Cg{T:TypeId}{xs ys:Array aa}(h:P.eqGuardType P.depth T=false)(op:BinOp)(x y:Operand)(w:J):
 (eqGuard op T x y (.agg xs) (.agg ys)).run P w=.ok () w:=by
 cases op<;>simp[eqGuard,program,Sem.run,bind,Sem.bind,h,pure]
theorem Ch{T:TypeId}{a b:ao}(c:P.underlying T=some .bool)(w:J):(Op.equal T (.bool a) (.bool b)).run P w=.ok (a==b) w:=by
 have e:∀ (d:Nat) (w:J),(Op.equalIn (d+1) T (.bool a) (.bool b)).run P w=.ok (a==b) w:=by
  intro d w;simp[Op.equalIn,di c]
 rw[qX];exact e _ w
theorem Ci{op:BinOp}{T:TypeId}{x y:aa}{jG qY:Operand}{K:aa->Prop}{G:Prop}
 (j:y=.nilIface->∃c,qY=.const c)
 (h:vj P op T x y K G):
 G\/∃v,(∀w,(do eqGuard op T jG qY x y;binOp op T x y:Sem aa).run P w=.ok v w)/\K v:=by
 unfold vj at h;split at h
 case h_1=>
  obtain⟨c,hc⟩:=j rfl;by_cases d:pr (P.underlying T)=true
  .rw[d]at h
   simp only[cond_true]at h;split at h
   .obtain⟨b,e,f⟩:=h
    refine .inr ⟨_,λw=>?_,f⟩;have:=Ce (P:=P) d e w
    cases x<;>simp only[pq,reduceCtorEq,Option.some.injEq]at e<;>subst hc e<;>simp[eqGuard,binOp,this]
   .obtain⟨b,e,f⟩:=h
    refine .inr ⟨_,λw=>?_,f⟩;have:=Ce (P:=P) d e w
    cases x<;>simp only[pq,reduceCtorEq,Option.some.injEq]at e<;>subst hc e<;>simp[eqGuard,binOp,this]
   .exact h.elim
  .simp only[fG]at d;rw[d]at h;exact h.elim
 case h_2=>
  by_cases d:na (P.underlying T)=true
  .rw[d]at h
   simp only[cond_true]at h;split at h
   .exact .inr ⟨_,λw=>by simp[eqGuard,binOp,vk (P:=P) d],h⟩
   .exact .inr ⟨_,λw=>by simp[eqGuard,binOp,vk (P:=P) d],h⟩
   .exact h.elim
  .simp only[fG]at d;rw[d]at h;exact h.elim
 case h_3=>
  by_cases d:n_ (P.underlying T)=true
  .rw[d]at h
   simp only[cond_true]at h;split at h
   .exact .inr ⟨_,λw=>by simp[eqGuard,binOp,vl (P:=P) d],h⟩
   .exact .inr ⟨_,λw=>by simp[eqGuard,binOp,vl (P:=P) d],h⟩
   .exact h.elim
  .simp only[fG]at d;rw[d]at h;exact h.elim
 case h_4=>
  by_cases d:qW (P.underlying T)=true
  .rw[d]at h
   simp only[cond_true]at h;split at h
   .exact .inr ⟨_,λw=>by simp[eqGuard,binOp,Cf (P:=P) d],h⟩
   .exact .inr ⟨_,λw=>by simp[eqGuard,binOp,Cf (P:=P) d],h⟩
   .exact h.elim
  .simp only[fG]at d;rw[d]at h;exact h.elim
 case h_5=>
  split at h
  .obtain⟨b,⟨h1,h2⟩,f⟩:=h
   exact .inr ⟨_,λw=>by simp[Cg h1,binOp,h2],f⟩
  .obtain⟨b,⟨h1,h2⟩,f⟩:=h
   exact .inr ⟨_,λw=>by simp[Cg h1,binOp,h2],f⟩
  .exact h.elim
 case h_6 i b=>
  split at h
  .rename_i k a
   by_cases g:k=i
   .subst g
    simp only[kU,decide_true,cond_true]at h;exact .inr ⟨_,λw=>by simp[eqGuard,binOp,Op.intDiv,h.1],h.2⟩
   .simp[kU,g]at h
  .rename_i k a
   by_cases g:k=i
   .subst g
    simp only[kU,decide_true,cond_true]at h;exact .inr ⟨_,λw=>by simp[eqGuard,binOp,Op.intDiv,h.1],h.2⟩
   .simp[kU,g]at h
  .exact .inr ⟨_,λw=>by simp[eqGuard,binOp,Op.shift,show¬b<0 from I],h.2⟩
  .exact .inr ⟨_,λw=>by simp[eqGuard,binOp,Op.shift,show¬b<0 from I],h.2⟩
  .exact .inl h
 case h_7 b=>
  split at h
  .rename_i d
   split at h
   .exact .inr ⟨_,λw=>by simp[eqGuard,binOp,Ch d],h⟩
   .exact .inr ⟨_,λw=>by simp[eqGuard,binOp,Ch d],h⟩
   .exact h.elim
  .exact h.elim
 case h_8 b=>
  split at h
  .rename_i a
   refine .inr ⟨_,λw=>?_,h.2⟩;have h1:=h.1;simp[eqGuard,binOp,Op.stringOp,IntKind.max,IntKind.signed,IntKind.bits];omega
  .exact .inl h
 case h_9=>exact .inl h
end
def vm(P:Program)(T:TypeId)(x:aa)(K:aa->Prop):Prop:=
 match P.underlying T with
 |some (.array n _)=>match x with
  | .slice a len _=>n<=len/\∃A,a=some A/\K (.pointer (some A))
  |_=>False
 |_=>False
def vn(P:Program)(T:TypeId)(x i:aa)(K:aa->Prop):Prop:=
 match i with
 | .int _ n=>
  match P.underlying T with
  |some (.slice elem)=>bif (P.underlying elem).isSome then
   match x with
   | .slice a len _=>∃A,a=some A/\(0<=n/\n<(len:Int))/\K (.pointer (some (A.add (n.toNat*P.cellsOf elem))))
   |_=>False
   else False
  |some (.array len elem)=>bif (P.underlying elem).isSome then
   match x with
   | .pointer (some A)=>(0<=n/\n<(len:Int))/\K (.pointer (some (A.add (n.toNat*P.cellsOf elem))))
   |_=>False
   else False
  |_=>False
 |_=>False
def sV(P:Program)(tk:TypeId->ei)(T:TypeId)(cs:Array aa)(off:Nat)(K:aa->Prop):Prop:=
 match P.underlying T with
 |none=>False
 |some d=>
  bif iz d then K (.agg (cs.extract off (off+P.cellsOf T)))
  else match tk T with
   | .one (.one l)=>pn l λv=>cs[off]? =some v/\K v
   |_=>False
def vo(P:Program)(tk:TypeId->ei)(T:TypeId)(x i:aa)(K:aa->Prop):Prop:=
 match i with
 | .int _ n=>
  match P.underlying T with
  |some (.array len elem)=>match x with
   | .agg cs=>(0<=n/\n<(len:Int))/\sV P tk elem cs (n.toNat*P.cellsOf elem) K
   |_=>False
  |some .string=>match x with
   | .string s=>0<=n/\∃b:UInt8,s.data.toList[n.toNat]? =some b/\K (.int .u8 b.toNat)
   |_=>False
  |_=>False
 |_=>False
def vp(P:Program)(tk:TypeId->ei)(T:TypeId)(x:aa)(i:Nat)(K:aa->Prop):Prop:=
 match P.underlying T with
 |some (.struct fs)=>match fs[i]? with
  |some f=>match x with
   | .agg cs=>sV P tk f.type cs f.offset K
   |_=>False
  |none=>False
 |_=>False
def lW(v:au aa)(y d:Nat)(K:U1):Prop:=
 match v with
 |none=>K d
 |some (.int _ i)=>(0<=i/\i<=(y:Int))/\K i.toNat
 |_=>False
def a7(a:au af)(sz l m:Nat):au af:=if m=l then a else a.map (·.add (l*sz))
def vq(P:Program)(T:TypeId)(x:aa)(lo hi b:au aa)(K:aa->Prop):Prop:=
 match P.underlying T with
 |some .string=>match b,x with
  |none,.string s=>lW hi s.size s.size λh=>lW lo h 0 λl=>K (.string (s.extract l h))
  |_,_=>False
 |some (.slice elem)=>bif (P.underlying elem).isSome then
  match x with
  | .slice a len cap=>match b with
   |none=>lW hi cap len λh=>lW lo h 0 λl=>K (.slice (a7 a (P.cellsOf elem) l cap) (h-l) (cap-l))
   |some c=>match hi with
    |none=>False
    |some d=>lW (some c) cap 0 λm=>lW (some d) m 0 λh=>lW lo h 0 λl=>K (.slice (a7 a (P.cellsOf elem) l m) (h-l) (m-l))
  |_=>False
  else False
 |some (.array n elem)=>bif (P.underlying elem).isSome then
  match b,x with
  |none,.pointer (some A)=>lW hi n n λh=>lW lo h 0 λl=>K (.slice (a7 (some A) (P.cellsOf elem) l n) (h-l) (n-l))
  |_,_=>False
  else False
 |_=>False
def y8(P:Program)(T:TypeId)(l c:aa)(w:J)(K:U0):Prop:=
 match P.underlying T with
 |some (.slice elem)=>bif (P.underlying elem).isSome then
  bif ((P.info? elem).bind (·.zero)).isSome then
  match l,c with
  | .int _ n,.int _ m=>(0<=n/\n<=m/\m<=9223372036854775807/\(P.bytesOf elem:Int)*m<=140737488355328)/\
   K (.slice (some ⟨w,0,none⟩) n.toNat m.toNat) {w with heap:=w.heap.push (.cells (ig P elem m.toNat) elem)}
  |_,_=>False
  else False
  else False
 |_=>False
section
variable {P:Program}{w:J}
theorem kV(o:au TypeDesc)(h:o.isSome=true):∃d,o=some d:=nU.1 h
theorem Cj{T:TypeId}{x:aa}{K:aa->Prop}(h:vm P T x K):∃v,(∀w,(Instr.arrayAt T x).run P w=.ok v w)/\K v:=by
 unfold vm at h;split at h
 .rename_i n e b
  split at h
  .rename_i a len cap
   obtain⟨h1,A,rfl,c⟩:=h;exact⟨_,λw=>by simp[Instr.arrayAt,di b,Nat.not_lt.2 h1],c⟩
  .exact h.elim
 .exact h.elim
theorem Ck{T:TypeId}{x i:aa}{K:aa->Prop}(h:vn P T x i K):∃v,(∀w,(Instr.indexAt T x i).run P w=.ok v w)/\K v:=by
 unfold vn at h;split at h
 .rename_i k n
  split at h
  .rename_i elem a
   by_cases he:(P.underlying elem).isSome=true
   .rw[he]at h
    simp only[cond_true]at h;split at h
    .obtain⟨A,rfl,b,c⟩:=h
     obtain⟨d,hd⟩:=kV _ he;exact⟨_,λw=>by simp[Instr.indexAt,asIntOf,di a,b,iA hd],c⟩
    .exact h.elim
   .simp only[fG]at he;rw[he]at h;exact h.elim
  .rename_i len elem a
   by_cases he:(P.underlying elem).isSome=true
   .rw[he]at h
    simp only[cond_true]at h;split at h
    .obtain⟨b,c⟩:=h
     obtain⟨d,hd⟩:=kV _ he;exact⟨_,λw=>by simp[Instr.indexAt,asIntOf,Instr.sureAddr,di a,b,iA hd],c⟩
    .exact h.elim
   .simp only[fG]at he;rw[he]at h;exact h.elim
  .exact h.elim
 .exact h.elim
theorem Cl{tk:TypeId->ei}{T:TypeId}{cs:Array aa}{off:Nat}{K:aa->Prop}(h:sV P tk T cs off K):∃v,(∀w,(part T cs off).run P w=.ok v w)/\K v:=by
 unfold sV at h;split at h
 .exact h.elim
 .rename_i d a
  cases hd:iz d with
  |true=>
   rw[hd]at h;exact⟨_,λw=>by simp[part,qT a,hd,iA a],h⟩
  |false=>
   rw[hd]at h;simp only[cond_false]at h;split at h
   .obtain⟨v,b,c⟩:=qS h
    exact⟨v,λw=>by simp[part,qT a,hd,b],c⟩
   .exact h.elim
theorem Cm{tk:TypeId->ei}{T:TypeId}{x i:aa}{K:aa->Prop}(h:vo P tk T x i K):∃v,(∀w,(Instr.index T x i).run P w=.ok v w)/\K v:=by
 unfold vo at h;split at h
 .rename_i k n
  split at h
  .rename_i len elem a
   split at h
   .obtain⟨c,h⟩:=h
    obtain⟨v,f,e⟩:=Cl h;refine⟨v,λw=>?_,e⟩;have hs:(Go.sizeOf elem).run P w=.ok (P.cellsOf elem) w:=by
     unfold sV at h
     cases he:P.underlying elem with
     |none=>simp[he]at h
     |some d=>exact iA he
    simp[Instr.index,asIntOf,di a,c,hs,f]
   .exact h.elim
  .rename_i a
   split at h
   .rename_i s
    obtain⟨c,b,hs,e⟩:=h;have g:s[n.toNat]? =some b:=by
     obtain⟨h1,h2⟩:=kn.1 hs;have j:n.toNat<s.size:=by simpa using h1
     rw[getElem?_pos s n.toNat j];simp only[Option.some.injEq];rw[←h2];rfl
    exact⟨_,λw=>by simp[Instr.index,asIntOf,di a,c,g],e⟩
   .exact h.elim
  .exact h.elim
 .exact h.elim
theorem Cn{tk:TypeId->ei}{T:TypeId}{x:aa}{i:Nat}{K:aa->Prop}(h:vp P tk T x i K):∃v,(∀w,(Instr.field T x i).run P w=.ok v w)/\K v:=by
 unfold vp at h;split at h
 .rename_i fs a
  split at h
  .rename_i f hf
   split at h
   .obtain⟨v,b,c⟩:=Cl h
    exact⟨v,λw=>by simp[Instr.field,di a,hf,asAgg,b],c⟩
   .exact h.elim
  .exact h.elim
 .exact h.elim
theorem ly{v:au aa}{y d:Nat}{c:BoundsCode}{K:U1}(h:lW v y d K):
 (v=none/\K d)\/∃u n,v=some u/\(∀w,(Instr.sliceBound u y c).run P w=.ok n w)/\K n:=by
 unfold lW at h;split at h
 .exact .inl ⟨rfl,h⟩
 .exact .inr ⟨_,_,rfl,λw=>by simp[Instr.sliceBound,asIntOf,h.1],h.2⟩
 .exact h.elim
theorem Co{T:TypeId}{x:aa}{lo hi o:au aa}{K:aa->Prop}(h:vq P T x lo hi o K):
 ∃v,(∀w,(Instr.sliceAt T x lo hi o).run P w=.ok v w)/\K v:=by
 unfold vq at h;split at h
 .rename_i f
  split at h
  .rename_i s
   rcases ly (P:=P) (c:=.sliceAlen) h with ⟨e,h1⟩|⟨u,n,e,i,h1⟩
   .rcases ly (P:=P) (c:=.sliceB) h1 with ⟨b,h2⟩|⟨l,bx,b,g,h2⟩
    .exact⟨_,λw=>by simp[Instr.sliceAt,Instr.slice,di f,Instr.sliceBounds,e,b],h2⟩
    .exact⟨_,λw=>by simp[Instr.sliceAt,Instr.slice,di f,Instr.sliceBounds,e,b,g],h2⟩
   .rcases ly (P:=P) (c:=.sliceB) h1 with ⟨b,h2⟩|⟨l,bx,b,g,h2⟩
    .exact⟨_,λw=>by simp[Instr.sliceAt,Instr.slice,di f,Instr.sliceBounds,e,b,i],h2⟩
    .exact⟨_,λw=>by simp[Instr.sliceAt,Instr.slice,di f,Instr.sliceBounds,e,b,i,g],h2⟩
  .exact h.elim
 .rename_i elem f
  by_cases he:(P.underlying elem).isSome=true
  .rw[he]at h
   simp only[cond_true]at h;obtain⟨d,hd⟩:=kV _ he;have j:=λw:J=>iA (w:=w) hd;split at h
   .rename_i a len cap
    split at h
    .rcases ly (P:=P) (c:=.sliceAcap) h with ⟨e,h1⟩|⟨u,n,e,i,h1⟩
     .rcases ly (P:=P) (c:=.sliceB) h1 with ⟨b,h2⟩|⟨l,bx,b,g,h2⟩
      .exact⟨_,λw=>by simp[Instr.sliceAt,Instr.slice,di f,Instr.sliceBounds,j,a7,e,b],h2⟩
      .exact⟨_,λw=>by simp[Instr.sliceAt,Instr.slice,di f,Instr.sliceBounds,g,j,a7,e,b],h2⟩
     .rcases ly (P:=P) (c:=.sliceB) h1 with ⟨b,h2⟩|⟨l,bx,b,g,h2⟩
      .exact⟨_,λw=>by simp[Instr.sliceAt,Instr.slice,di f,Instr.sliceBounds,i,j,a7,e,b],h2⟩
      .exact⟨_,λw=>by simp[Instr.sliceAt,Instr.slice,di f,Instr.sliceBounds,i,g,j,a7,e,b],h2⟩
    .split at h
     .exact h.elim
     .rcases ly (P:=P) (c:=.slice3Acap) h with ⟨k,h1⟩|⟨u,n,k,i,h1⟩
      .cases k
      .cases k
       rcases ly (P:=P) (c:=.slice3B) h1 with ⟨k,h2⟩|⟨q,b6,k,p,h2⟩
       .cases k
       .cases k
        rcases ly (P:=P) (c:=.slice3C) h2 with ⟨b,m⟩|⟨l,bx,b,g,m⟩
        .exact⟨_,λw=>by simp[Instr.sliceAt,Instr.slice,di f,Instr.sliceBounds,i,p,j,a7,b],m⟩
        .exact⟨_,λw=>by simp[Instr.sliceAt,Instr.slice,di f,Instr.sliceBounds,i,p,g,j,a7,b],m⟩
   .exact h.elim
  .simp only[fG]at he;rw[he]at h;exact h.elim
 .rename_i n elem f
  by_cases he:(P.underlying elem).isSome=true
  .rw[he]at h
   simp only[cond_true]at h;obtain⟨d,hd⟩:=kV _ he;have j:=λw:J=>iA (w:=w) hd;split at h
   .rename_i A
    rcases ly (P:=P) (c:=.sliceAlen) h with ⟨e,h1⟩|⟨u,b6,e,i,h1⟩
    .rcases ly (P:=P) (c:=.sliceB) h1 with ⟨b,h2⟩|⟨l,bx,b,g,h2⟩
     .refine⟨_,λw=>?_,h2⟩
      simp[Instr.sliceAt,di f,Instr.sureAddr,Instr.sliceBounds,j,a7,e,b];try (split<;>rfl)
     .refine⟨_,λw=>?_,h2⟩
      simp[Instr.sliceAt,di f,Instr.sureAddr,Instr.sliceBounds,g,j,a7,e,b];try (split<;>rfl)
    .rcases ly (P:=P) (c:=.sliceB) h1 with ⟨b,h2⟩|⟨l,bx,b,g,h2⟩
     .refine⟨_,λw=>?_,h2⟩
      simp[Instr.sliceAt,di f,Instr.sureAddr,Instr.sliceBounds,i,j,a7,e,b];try (split<;>rfl)
     .refine⟨_,λw=>?_,h2⟩
      simp[Instr.sliceAt,di f,Instr.sureAddr,Instr.sliceBounds,i,g,j,a7,e,b];try (split<;>rfl)
   .exact h.elim
  .simp only[fG]at he;rw[he]at h;exact h.elim
 .exact h.elim
theorem y9{n:Int}(h0:0<=n)(h1:n<=9223372036854775807):IntKind.i64.wrap n=n:=by
 have e:n%18446744073709551616=n:=Int.emod_eq_of_lt h0 I;simp[IntKind.wrap,IntKind.signed,IntKind.bits,e];omega
theorem GZ{T:TypeId}{l c:aa}{K:U0}(h:y8 P T l c w K):
 ∃v w',(Instr.makeSlice T l c).run P w=.ok v w'/\K v w':=by
 unfold y8 at h;split at h
 .rename_i elem e
  by_cases he:(P.underlying elem).isSome=true
  .rw[he]at h
   simp only[cond_true]at h;by_cases a:((P.info? elem).bind (·.zero)).isSome=true
   .rw[a]at h
    simp only[cond_true]at h;split at h
    .rename_i k n s m
     obtain⟨⟨h0,h1,h2,f⟩,g⟩:=h;obtain⟨d,hd⟩:=kV _ he;obtain⟨i,hi⟩:=info_of_underlying hd;obtain⟨z,b⟩:=nU.1 a;simp only[hi,Option.bind_some]at b;have j:P.bytesOf elem=i.bytes:=by simp[Program.bytesOf,hi]
     have hc:P.cellsOf elem=i.size:=by simp[Program.cellsOf,hi]
     rw[j]at f;have o:=y9 h0 I;have p:=y9 (n:=m) I h2;refine⟨_,_,?_,g⟩;have q:¬(m<0):=I
     have r:¬(281474976710656<(i.bytes:Int)*m):=I
     simp[Instr.makeSlice,di e,asInt,asIntOf,n4 hi,o,p,q,r,iA hd,show¬n<0 from I,show¬m<n from I];by_cases hs:m.toNat*P.cellsOf elem=0
     .simp[hs,newRow,newObj,Sem.run,ig]
     .simp[zeroValue,n4 hi,b,newRow,newObj,Sem.run,ig,hs,hi]
    .exact h.elim
   .simp only[fG]at a;rw[a]at h;exact h.elim
  .simp only[fG]at he;rw[he]at h;exact h.elim
 .exact h.elim
end
def an(w:J)(K:U2):Prop:=K w
def y_(s:ByteArray)(n:Nat):au UInt8:=s.data.toList[n]?
def cellAt(cs:Array aa)(n:Nat):au aa:=cs[n]?
def jZ(k:IntKind)(a b:Int):Int:=k.wrap ((BitVec.ofInt k.bits a&&&BitVec.ofInt k.bits b).toNat:Int)
def oa(k:IntKind)(a b:Int):Int:=k.wrap ((BitVec.ofInt k.bits a|||BitVec.ofInt k.bits b).toNat:Int)
def pt(k:IntKind)(a b:Int):Int:=k.wrap ((BitVec.ofInt k.bits a^^^BitVec.ofInt k.bits b).toNat:Int)
def Cp(k:IntKind)(a b:Int):Int:=k.wrap ((BitVec.ofInt k.bits a&&&~~~BitVec.ofInt k.bits b).toNat:Int)
def sW(P:Program)(o:Oper)(K:U0)(e:Env)(w:J):Prop:=
 bif known e o.op.operands then
  match (execOp (ro e) o).run P w with
  | .ok (.value v) w'=>an w' λw1=>K v w1
  |_=>False
 else False
def Cq(P:Program)(tk:TypeId->ei)(T:TypeId):ei:=
 match P.underlying T with
 |some (.slice e)=>tk e
 |_=>.one (.one .agg)
def c8.G0:c8->ao
 | .slice=>true
 |_=>false
def Cr:ei->ao
 | .one (.one .agg)=>true
 | .one (.flat ls)=>ls.any c8.G0
 |_=>false
def gen(P:Program)(tk:TypeId->ei)(o:Oper)(K:U0)(e:Env)(w:J):Prop:=
 bif known e o.op.operands then
  match (execOp (ro e) o).run P w with
  | .ok (.value v) w'=>K v w'
  | .ok .skip w'=>K undef w'
  | .ok (.enter f args) w'=>Calls P f args w' λa b=>iZ (tk o.type) λv=>a=.returned v/\K v b
  |_=>False
 else False
def hY(P:Program)(f:FuncId):Prop:=∃fn,P.funcs[f]? =some fn/\(fn.name== "runtime.NumGoroutine")=false/\fn.body.isNone=false
theorem Cs{P:Program}{f:FuncId}(h:hY P f)(args:Array aa)(w:J):(callFunc f args).run P w=.ok (.enter f args) w:=by
 obtain⟨fn,h1,h2,a⟩:=h;have b:¬fn.name= "runtime.NumGoroutine" :=by simpa using h2
 have c:¬fn.body=none:=by
  intro h;rw[h]at a;cases a
 simp[callFunc,program,Sem.run,bind,Sem.bind,h1,b,c,pure]
def za:Op->ao
 | .select _ _=>true
 |_=>false
def Ct(P:Program)(T:TypeId):Operand->ao
 | .const _=>false
 |_=>pr (P.underlying T)||na (P.underlying T)
def G1(P:Program)(op:BinOp)(T:TypeId)(jG qY:Operand)(x y:aa)(b:ao):Prop:=
 ∀w,Sem.run P (do eqGuard op T jG qY x y;binOp op T x y:Sem aa) w=.ok (.bool b) w
def qZ:Operand->aa->ao
 | .const _,_=>true
 |_,.nilIface=>false
 |_,_=>true
def ku(P:Program)(tk:TypeId->ei)(o:Oper)(K:U0)(e:Env)(w:J):Prop:=
 match o.op with
 | .nilCheck x=>match ev e x with
  |some (.pointer p)=>∃A,p=some A/\K (.pointer (some A)) w
  |_=>False
 | .load T x=>match ev e x with
  |some (.pointer (some A))=>qV P tk T A w λv=>K v w
  |_=>False
 | .store T x y=>match ev e x,ev e y with
  |some (.pointer (some A)),some v=>y7 P tk T A v w λw'=>an w' λw1=>K undef w1
  |_,_=>False
 | .binOp op T x y _=>match ev e x,ev e y with
  |some a,some q=>bif Ct P T y then (∃b:ao,G1 P op T x y a q b/\K (.bool b) w) else
   bif qZ y q then vj P op T a q (λv=>K v w) (gen P tk o K e w) else False
  |_,_=>False
 | .indexAddr T x i=>match ev e x,ev e i with
  |some a,some g=>vn P T a g λv=>K v w
  |_,_=>False
 | .index T x i=>match ev e x,ev e i with
  |some a,some g=>vo P tk T a g λv=>K v w
  |_,_=>False
 | .field T x i=>match ev e x with
  |some a=>vp P tk T a i λv=>K v w
  |_=>False
 | .alloc _=>sW P o K e w
 | .box _ _=>sW P o K e w
 | .buildSlice T n ps=>bif Cr (Cq P tk T) then
  (bif known e o.op.operands then
    iZ (tk o.type) λr=>∃w1,(Instr.buildSlice T n (ps.map λp=>(p.1,ro e p.2))).run P w=.ok r w1/\K r w1
  else False)
  else sW P o K e w
 | .slice T x lo hi u=>bif known e o.op.operands then
  vq P T (ro e x) (lo.map (ro e)) (hi.map (ro e)) (u.map (ro e)) λv=>K v w
  else False
 | .makeSlice T l c=>match ev e l,ev e c with
  |some z,some B=>y8 P T z B w λv w'=>an w' λw1=>K v w1
  |_,_=>False
 | .convert s d x=>match ev e x with
  |some (.int j n)=>bif (P.underlying s).isSome then
   match P.underlying d with
   |some (.int k)=>K (.int k (k.wrap n)) w
   |_=>iZ (tk o.type) λr=>∃w1,(convert s d (.int j n)).run P w=.ok r w1/\K r w1
   else False
  |some v=>iZ (tk o.type) λr=>∃w1,(convert s d v).run P w=.ok r w1/\K r w1
  |none=>False
 | .build t ps=>match tk t with
  | .one (.flat _)=>gen P tk o K e w
  |_=>bif known e o.op.operands then
   ∃cs:Array aa,(Instr.build t (ps.map λp=>(p.1,ro e p.2))).run P w=.ok (.agg cs) w/\K (.agg cs) w
   else False
 | .lookup T m i ok=>match ev e m,ev e i with
  |some j0,some g=>iZ (tk o.type) λr=>∃w1,(Instr.lookup T j0 g ok).run P w=.ok r w1/\K r w1
  |_,_=>False
 | .mapUpdate T m i x=>match ev e m,ev e i,ev e x with
  |some j0,some g,some a=>∃w1,(Instr.mapUpdate T j0 g a).run P w=.ok () w1/\K undef w1
  |_,_,_=>False
 | .makeMap T r=>bif known e o.op.operands then iZ (tk o.type) λv=>∃w1,(Instr.makeMap T (r.map (ro e))).run P w=.ok v w1/\K v w1 else False
 | .range T x=>match ev e x with
  |some a=>∃v w1,(Instr.range T a).run P w=.ok v w1/\K v w1
  |_=>False
 | .next it h=>match ev e it with
  |some a=>(bif h then ∃ (n:Int) (c:Int) (w1:J),(Instr.next a h o.type).run P w=.ok (.tuple #[.bool true,.int .i64 n,.int .i32 c]) w1/\K (.tuple #[.bool true,.int .i64 n,.int .i32 c]) w1
   else ∃ (k:aa) (v:aa) (w1:J),(Instr.next a h o.type).run P w=.ok (.tuple #[.bool true,k,v]) w1/\K (.tuple #[.bool true,k,v]) w1)\/
   (∃w1:J,(Instr.next a h o.type).run P w=.ok (.tuple #[.bool false]) w1/\K (.tuple #[.bool false]) w1)
  |_=>False
 | .call c=>match c.callee with
  | .value (.tmp k)=>match e.get k with
   |some (.func (.func f) pre cap)=>bif known e o.op.operands then
    hY P f/\Calls P f (pre++c.args.map (ro e)++cap) w λC w1=>iZ (tk o.type) λv=>C=.returned v/\K v w1
    else False
   |_=>gen P tk o K e w
  | .builtin .append=>bif known e o.op.operands then iZ (tk o.type) λr=>∃w1,(Builtin.append_ c.argTypes o.type (c.args.map (ro e))).run P w=.ok r w1/\K r w1 else False
  | .builtin .copy=>bif known e o.op.operands then iZ (tk o.type) λr=>∃w1,(Builtin.copy_ c.argTypes o.type (c.args.map (ro e))).run P w=.ok r w1/\K r w1 else False
  | .builtin .min=>bif known e o.op.operands then iZ (tk o.type) λr=>∃w1,(Builtin.min_ c.argTypes o.type (c.args.map (ro e))).run P w=.ok r w1/\K r w1 else False
  | .builtin .max=>bif known e o.op.operands then iZ (tk o.type) λr=>∃w1,(Builtin.max_ c.argTypes o.type (c.args.map (ro e))).run P w=.ok r w1/\K r w1 else False
  | .builtin .delete=>bif known e o.op.operands then ∃r w1,(Builtin.delete_ c.argTypes o.type (c.args.map (ro e))).run P w=.ok r w1/\K r w1 else False
  | .value (.func f)=>match P.funcs[f]? with
   |some fn=>match fn.body with
    |some _=>gen P tk o K e w
    |none=>bif known e o.op.operands then iZ (tk o.type) λr=>∃w1,(callFunc f (c.args.map (ro e))).run P w=.ok (.value r) w1/\K r w1 else False
   |none=>False
  | .builtin .unsafeString=>bif known e o.op.operands then iZ (tk o.type) λr=>∃w1,(Builtin.unsafeString_ c.argTypes o.type (c.args.map (ro e))).run P w=.ok r w1/\K r w1 else False
  | .builtin .unsafeSliceData=>bif known e o.op.operands then iZ (tk o.type) λr=>∃w1,(Builtin.unsafeSliceData_ c.argTypes o.type (c.args.map (ro e))).run P w=.ok r w1/\K r w1 else False
  | .builtin .clear=>bif known e o.op.operands then ∃r w1,(Builtin.clear_ c.argTypes o.type (c.args.map (ro e))).run P w=.ok r w1/\K r w1 else False
  | .builtin .len=>match ((c.args.map (ro e))[0]? :au aa) with
   |some (Value.map _)=>bif known e o.op.operands then iZ (tk o.type) λr=>∃w1,(Builtin.len_ c.argTypes o.type (c.args.map (ro e))).run P w=.ok r w1/\K r w1 else False
   |_=>gen P tk o K e w
  |_=>gen P tk o K e w
 | .sliceToArrayPointer T x=>match ev e x with
  |some a=>vm P T a λv=>K v w
  |_=>False
 | .mapEntry T m i=>match ev e m,ev e i with
  |some j0,some g=>∃ (v0:aa) (st:Int) (w1:J),(Instr.mapEntry T j0 g).run P w=.ok (.tuple #[v0,.int .i64 st]) w1/\K (.tuple #[v0,.int .i64 st]) w1
  |_,_=>False
 | .entryStore T m s x=>match ev e m,ev e s,ev e x with
  |some j0,some vs,some a=>∃w1,(Instr.entryStore T j0 vs a).run P w=.ok () w1/\K undef w1
  |_,_,_=>False
 | .entry it=>match ev e it with
  |some a=>iZ (tk o.type) λv=>∃w1,(Instr.entry a).run P w=.ok v w1/\K v w1
  |_=>False
 | .select _ _=>False
 |_=>gen P tk o K e w
def nc(P:Program)(o:Oper)(a:Act)(w:J)(K:U0):Prop:=
 (∃v w',(execOp a.eval o).run P w=.ok (.value v) w'/\K v w')\/
 (∃w',(execOp a.eval o).run P w=.ok .skip w'/\K undef w')\/
 (∃f args w',(execOp a.eval o).run P w=.ok (.enter f args) w'/\Calls P f args w' λb c=>∃v,b=.returned v/\K v c)
theorem nc.wp{P:Program}{o:Oper}{a:Act}{w:J}{K:U0}{next:Act->U2}{Q:Exit->Act->U2}
 (h:nc P o a w K) (c:∀v w',K v w'->next (a.put o.dst v) w'):o.wp P a w next Q:=by
 unfold Oper.wp;obtain⟨v,w',h,b⟩|⟨w',h,b⟩|⟨f,args,w',h,hc⟩:=h
 .rw[h];exact c _ _ b
 .rw[h];exact c _ _ b
 .rw[h]
  exact hc.mono λe g ⟨v,d,b⟩=>by subst d;exact c _ _ b
section
variable {P:Program}{tk:TypeId->ei}{o:Oper}{K:U0}{e:Env}{a:Act}{w:J}
theorem G2(av:dG e a){xs:Array Operand}(h:known e xs=true):∀x∈xs,a.eval x=ro e x:=by
 intro x hx;exact av.ro (nV.1 h x (by simpa using hx))
theorem lz(av:dG e a)(hs:za o.op=false)(h:known e o.op.operands=true):execOp a.eval o=execOp (ro e) o:=
 execOp_congr o (λcs b hc=>by rw[hc]at hs;cases hs) (G2 av h)
theorem pv(av:dG e a)(hs:za o.op=false)(h:gen P tk o K e w):nc P o a w K:=by
 unfold gen at h;by_cases c:known e o.op.operands=true
 .rw[c]at h
  simp only[cond_true]at h;have hc:=lz av hs c;unfold nc;rw[hc];split at h
  .rename_i v w' b
   exact .inl ⟨v,w',b,h⟩
  .rename_i w' b
   exact .inr (.inl ⟨w',b,h⟩)
  .rename_i f args w' b
   refine .inr (.inr ⟨f,args,w',b,h.mono λg i d=>?_⟩);exact jn d
  .exact h.elim
 .simp only[fG]at c
  rw[c]at h;exact h.elim
theorem zb(av:dG e a)(hs:za o.op=false)(h:sW P o K e w):nc P o a w K:=by
 unfold sW at h;by_cases b:known e o.op.operands=true
 .rw[b]at h
  simp only[cond_true]at h;have hc:=lz av hs b;unfold nc;rw[hc];split at h
  .rename_i v w' c
   exact .inl ⟨v,w',c,h⟩
  .exact h.elim
 .simp only[fG]at b
  rw[b]at h;exact h.elim
theorem zc:∀ {ls:O c8}{A:af}{i:Nat}{K:O aa->Prop},y6 ls A i w K->∃vs,bf w A i ls.length=some vs/\K vs
 | [],_,_,_,h=>⟨[],rfl,h⟩
 |l::ls,A,i,K,h=>by
  obtain⟨v,a,h⟩:=qS h
  obtain⟨vs,b,h⟩:=zc h
  exact⟨v::vs,by simp[bf,a,b],h⟩
theorem Cu{T:TypeId}{A:af}{K:aa->Prop}(h:qV P tk T A w K):∃v,(Instr.loadAt T (.pointer (some A))).run P w=.ok v w/\K v:=by
 have e:(Instr.loadAt T (.pointer (some A))).run P w=(loadVar T A).run P w:=by simp[Instr.loadAt,Instr.sureAddr]
 rw[e];unfold qV at h;split at h
 .exact h.elim
 .rename_i d b
  cases hd:iz d with
  |true=>
   rw[hd]at h;simp only[cond_true]at h;split at h
   .rename_i ls _
    by_cases a:Nat.beq (P.cellsOf T) ls.length=true
    .rw[a]at h
     simp only[cond_true]at h;obtain⟨vs,c,h⟩:=zc h;rw[←jm a]at c;exact⟨_,vi b hd c,h⟩
    .simp only[fG]at a;rw[a]at h;exact h.elim
   .obtain⟨cs,hc,h⟩:=h
    exact⟨_,vi b hd hc,h⟩
  |false=>
   rw[hd]at h;simp only[cond_false]at h;split at h
   .obtain⟨v,f,h⟩:=qS h
    exact⟨v,Cc b hd f,h⟩
   .exact h.elim
theorem zd{v:aa}(h:Plain v):v.cells= #[v]:=by cases v<;>first|rfl|exact h.elim
theorem add_zero'(A:af):A.add 0=A:=rfl
theorem G3{T:TypeId}{A:af}{x:aa}{K:U2}(h:y7 P tk T A x w K):
 ∃w',(Instr.storeAt T (.pointer (some A)) x).run P w=.ok () w'/\K w':=by
 have f:(Instr.storeAt T (.pointer (some A)) x).run P w=(storeVar T A x).run P w:=by simp[Instr.storeAt,Instr.sureAddr]
 rw[f];unfold y7 at h;split at h
 .exact h.elim
 .rename_i d c
  cases hd:iz d with
  |true=>
   rw[hd]at h;simp only[cond_true]at h;split at h
   .rename_i cs
    exact⟨_,Cd (v:=.agg cs) c h.2.1 h.1,h.2.2⟩
   .exact h.elim
  |false=>
   rw[hd]at h;simp only[cond_false]at h;have one:∀ (b:Plain x) (a:Nat.beq (P.cellsOf T) 1=true),((∃u,w.cell? A=some u)/\w.frozen? A=false/\K (w.setCell A x))->∃w',(storeVar T A x).run P w=.ok () w'/\K w':=by
    intro b a ⟨⟨u,hu⟩,hf,g⟩;refine⟨_,Cd (v:=x) c ?_ ?_,?_⟩
    .rw[zd b,jm a];rfl
    .rw[zd b]
     refine⟨λi hi=>?_,λv j=>?_⟩
     .have:i=0:=by simpa using hi
      subst this;rw[add_zero',hu];exact⟨rfl,hf⟩
     .have:v=x:=by simpa using j
      subst this;exact b
    .rw[zd b]
     exact g
   by_cases a:Nat.beq (P.cellsOf T) 1=true
   .have e:=a
    rw[a]at h;simp only[cond_true]at h;split at h
    .exact one h.1 e h.2
    .split at h
     .exact h.elim
     .exact h.elim
     .rename_i h1 h2
      refine one ?_ e h
      cases x<;>first|exact trivial|(exact absurd rfl (h1 _))|(exact absurd rfl (h2 _))
   .simp only[fG]at a;rw[a]at h;exact h.elim
theorem vr(av:dG e a)(h:ku P tk o K e w):nc P o a w K:=by
 unfold ku at h;split at h
 case h_1 x j=>
  split at h
  .rename_i p hx
   obtain⟨A,rfl,g⟩:=h;exact .inl ⟨_,_,by simp[execOp,j,av.ev hx],g⟩
  .exact h.elim
 case h_2 T x j=>
  split at h
  .rename_i A hx
   obtain⟨v,B,g⟩:=Cu h;exact .inl ⟨v,w,by simp[execOp,j,av.ev hx,B],g⟩
  .exact h.elim
 case h_3 T x y j=>
  split at h
  .rename_i A v hx H
   obtain⟨w',S,g⟩:=G3 h;exact .inr (.inl ⟨w',by simp[execOp,j,av.ev hx,av.ev H,S],g⟩)
  .exact h.elim
 case h_4 op T x y ab j=>
  split at h
  .rename_i D Q hx H
   by_cases N:Ct P T y=true
   .rw[N]at h
    simp only[cond_true]at h;obtain⟨b,z,g⟩:=h;exact .inl ⟨_,w,by
     simp only[execOp,j,av.ev hx,av.ev H];have G:=z w;simp only[Sem.run_bind]at G⊢;rw[G];rfl,g⟩
   simp only[fG]at N;rw[N]at h;simp only[cond_false]at h;by_cases I:qZ y Q=true
   .rw[I]at h
    simp only[cond_true]at h;have U:Q=.nilIface->∃c,y=.const c:=by
     intro B;subst B
     cases y<;>simp[qZ]at I⊢
    rcases Ci (jG:=x) (qY:=y) U h with hg|⟨v,B,g⟩
    .exact pv av (by rw[j];rfl) hg
    .exact .inl ⟨v,w,by
      simp only[execOp,j,av.ev hx,av.ev H];have G:=B w;simp only[Sem.run_bind]at G⊢;rw[G];rfl,g⟩
   .simp only[fG]at I;rw[I]at h;exact h.elim
  .exact h.elim
 case h_5 T x i j=>
  split at h
  .rename_i D L hx hi
   obtain⟨v,B,g⟩:=Ck h;exact .inl ⟨v,w,by simp[execOp,j,av.ev hx,av.ev hi,B],g⟩
  .exact h.elim
 case h_6 T x i j=>
  split at h
  .rename_i D L hx hi
   obtain⟨v,B,g⟩:=Cm h;exact .inl ⟨v,w,by simp[execOp,j,av.ev hx,av.ev hi,B],g⟩
  .exact h.elim
 case h_7 T x i j=>
  split at h
  .rename_i D hx
   obtain⟨v,B,g⟩:=Cn h;exact .inl ⟨v,w,by simp[execOp,j,av.ev hx,B],g⟩
  .exact h.elim
 case h_8 T j=>exact zb av (by rw[j];rfl) h
 case h_9 T x j=>exact zb av (by rw[j];rfl) h
 case h_10 T n ps j=>
  cases R:Cr (Cq P tk T) with
  |true=>
   rw[R]at h;simp only[cond_true]at h;by_cases u:known e o.op.operands=true
   .rw[u]at h
    simp only[cond_true]at h;have hc:=lz av (by rw[j];rfl) u;obtain⟨r,w1,q,g⟩:=jn h;exact .inl ⟨r,w1,by rw[hc];simp[execOp,j];rw[q];rfl,g⟩
   .simp only[fG]at u;rw[u]at h;exact h.elim
  |false=>
   rw[R]at h;exact zb av (by rw[j];rfl) h
 case h_11 T x lo hi ac j=>
  by_cases u:known e o.op.operands=true
  .rw[u]at h
   simp only[cond_true]at h;have hc:=lz av (by rw[j];rfl) u;obtain⟨v,B,g⟩:=Co h;exact .inl ⟨v,w,by rw[hc];simp[execOp,j,B],g⟩
  .simp only[fG]at u;rw[u]at h;exact h.elim
 case h_12 T l c j=>
  split at h
  .rename_i ad ae V hc
   obtain⟨v,w',B,g⟩:=GZ h;exact .inl ⟨v,w',by simp[execOp,j,av.ev V,av.ev hc,B],g⟩
  .exact h.elim
 case h_13 s d x j=>
  split at h
  .rename_i k n hx
   by_cases hs:(P.underlying s).isSome=true
   .rw[hs]at h
    simp only[cond_true]at h;obtain⟨ds,W⟩:=kV _ hs;split at h
    .rename_i af hd
     exact .inl ⟨_,_,by simp[execOp,j,av.ev hx,convert,di W,di hd,Conv.intToInt],h⟩
    .obtain⟨r,w1,q,g⟩:=jn h
     exact .inl ⟨r,w1,by simp[execOp,j,av.ev hx,q],g⟩
   .simp only[fG]at hs;rw[hs]at h;exact h.elim
  .rename_i v _ hx
   obtain⟨r,w1,q,g⟩:=jn h;exact .inl ⟨r,w1,by simp[execOp,j,av.ev hx,q],g⟩
  .exact h.elim
 case h_14 t ps j=>
  split at h
  .exact pv av (by rw[j];rfl) h
  .by_cases u:known e o.op.operands=true
   .rw[u]at h
    simp only[cond_true]at h;have hc:=lz av (by rw[j];rfl) u;obtain⟨cs,q,g⟩:=h;exact .inl ⟨_,_,by rw[hc];simp[execOp,j];rw[q];rfl,g⟩
   .simp only[fG]at u;rw[u]at h;exact h.elim
 case h_15 T m i ok j=>
  split at h
  .rename_i j0 L F hi
   obtain⟨r,w1,q,g⟩:=jn h;exact .inl ⟨r,w1,by simp[execOp,j,av.ev F,av.ev hi,q],g⟩
  .exact h.elim
 case h_16 T m i x j=>
  split at h
  .rename_i j0 L D F hi hx
   obtain⟨w1,q,g⟩:=h;exact .inr (.inl ⟨w1,by simp[execOp,j,av.ev F,av.ev hi,av.ev hx,q],g⟩)
  .exact h.elim
 case h_17 T r j=>
  by_cases u:known e o.op.operands=true
  .rw[u]at h
   simp only[cond_true]at h;have hc:=lz av (by rw[j];rfl) u;obtain⟨v,w1,q,g⟩:=jn h;exact .inl ⟨v,w1,by rw[hc];simp[execOp,j,q],g⟩
  .simp only[fG]at u;rw[u]at h;exact h.elim
 case h_18 T x j=>
  split at h
  .rename_i D hx
   obtain⟨v,w1,q,g⟩:=h;exact .inl ⟨v,w1,by simp[execOp,j,av.ev hx,q],g⟩
  .exact h.elim
 case h_19 it Y j=>
  split at h
  .rename_i D hx
   obtain h|⟨w1,q,g⟩:=h
   .cases Y with
    |true=>
     obtain⟨n,c,w1,q,g⟩:=h;exact .inl ⟨_,w1,by simp[execOp,j,av.ev hx,q],g⟩
    |false=>
     obtain⟨k,v,w1,q,g⟩:=h;exact .inl ⟨_,w1,by simp[execOp,j,av.ev hx,q],g⟩
   .exact .inl ⟨_,w1,by simp[execOp,j,av.ev hx,q],g⟩
  .exact h.elim
 case h_20 c j=>
  have E:∀ (b:Builtin) (r:aa) (w1:J),c.callee=.builtin b->known e o.op.operands=true->
   (∀cs,(Go.builtin b c.argTypes o.type cs (c.args.map (ro e))).run P w=.ok (.value r) w1)->K r w1->nc P o a w K:=by
   intro b r w1 z u q g;have hc:=lz av (by rw[j];rfl) u;exact .inl ⟨r,w1,by rw[hc];simp[execOp,j,resolve,z,invoke,q],g⟩
  have C:∀ {X:Prop},(bif known e o.op.operands then X else False)->known e o.op.operands=true/\X:=by
   intro X M;by_cases u:known e o.op.operands=true
   .rw[u]at M;exact⟨u,M⟩
   .simp only[fG]at u;rw[u]at M;exact M.elim
  split at h
  .rename_i k z
   split at h
   .rename_i f pre cap hg
    obtain⟨u,Z,h⟩:=C h;have hc:=lz av (by rw[j];rfl) u;refine .inr (.inr ⟨f,pre++c.args.map (ro e)++cap,w,?_,h.mono λag w1 h1=>?_⟩)
    .have O:ro e (.tmp k)=.func (.func f) pre cap:=by simp[ro,ev,hg]
     rw[hc];simp[execOp,j,resolve,z,O,Deferred.ofValue,invoke,Cs Z]
    .obtain⟨v,B,g⟩:=jn h1
     exact⟨v,B,g⟩
   .exact pv av (by rw[j];rfl) h
  .rename_i z
   obtain⟨u,h⟩:=C h;obtain⟨r,w1,q,g⟩:=jn h;exact E _ r w1 z u (λ_=>by simp[Go.builtin,q]) g
  .rename_i z
   obtain⟨u,h⟩:=C h;obtain⟨r,w1,q,g⟩:=jn h;exact E _ r w1 z u (λ_=>by simp[Go.builtin,q]) g
  .rename_i z
   obtain⟨u,h⟩:=C h;obtain⟨r,w1,q,g⟩:=jn h;exact E _ r w1 z u (λ_=>by simp[Go.builtin,q]) g
  .rename_i z
   obtain⟨u,h⟩:=C h;obtain⟨r,w1,q,g⟩:=jn h;exact E _ r w1 z u (λ_=>by simp[Go.builtin,q]) g
  .rename_i z
   obtain⟨u,r,w1,q,g⟩:=C h;exact E _ r w1 z u (λ_=>by simp[Go.builtin,q]) g
  .rename_i f z
   split at h
   .rename_i fn ah
    split at h
    .exact pv av (by rw[j];rfl) h
    .obtain⟨u,h⟩:=C h
     obtain⟨r,w1,q,g⟩:=jn h;have hc:=lz av (by rw[j];rfl) u;refine .inl ⟨r,w1,?_,g⟩;rw[hc];have O:ro e (.func f)=.func (.func f) #[] #[]:=by simp[ro,ev]
     simp[execOp,j,resolve,z,O,Deferred.ofValue,invoke,q]
   .exact h.elim
  .rename_i z
   obtain⟨u,h⟩:=C h;obtain⟨r,w1,q,g⟩:=jn h;exact E _ r w1 z u (λ_=>by simp[Go.builtin,q]) g
  .rename_i z
   obtain⟨u,h⟩:=C h;obtain⟨r,w1,q,g⟩:=jn h;exact E _ r w1 z u (λ_=>by simp[Go.builtin,q]) g
  .rename_i z
   obtain⟨u,r,w1,q,g⟩:=C h;exact E _ r w1 z u (λ_=>by simp[Go.builtin,q]) g
  .rename_i z
   split at h
   .obtain⟨u,h⟩:=C h
    obtain⟨r,w1,q,g⟩:=jn h;exact E _ r w1 z u (λ_=>by simp[Go.builtin,q]) g
   .exact pv av (by rw[j];rfl) h
  .exact pv av (by rw[j];rfl) h
 case h_21 T x j=>
  split at h
  .rename_i D hx
   obtain⟨v,B,g⟩:=Cj h;exact .inl ⟨v,w,by simp[execOp,j,av.ev hx,B],g⟩
  .exact h.elim
 case h_22 T m i j=>
  split at h
  .rename_i j0 L F hi
   obtain⟨v0,st,w1,q,g⟩:=h;exact .inl ⟨_,w1,by simp[execOp,j,av.ev F,av.ev hi,q],g⟩
  .exact h.elim
 case h_23 T m s x j=>
  split at h
  .rename_i j0 vs D F hs hx
   obtain⟨w1,q,g⟩:=h;exact .inr (.inl ⟨w1,by simp[execOp,j,av.ev F,av.ev hs,av.ev hx,q],g⟩)
  .exact h.elim
 case h_24 it j=>
  split at h
  .rename_i D hx
   obtain⟨v,w1,q,g⟩:=jn h;exact .inl ⟨v,w1,by simp[execOp,j,av.ev hx,q],g⟩
  .exact h.elim
 case h_25=>exact h.elim
 case h_26=>
  refine pv av ?_ h
  cases j:o.op<;>first|rfl|simp_all
end
end aS
namespace aS
open Go
inductive lA where
 |run
 |split (n:Nat)
 |pure (n:Nat)
 |vt (ks:O Kd)
def fj(P:Program)(o:Oper)(e:Env):au aa:=
 match o.op with
 | .move x=>ev e x
 | .assign x=>ev e x
 | .unOp .not _ x=>match ev e x with
  |some (.bool b)=>some (.bool (!b))
  |_=>none
 | .binOp op T x y _=>match ev e y with
  |some (.int f b)=>match ev e x with
   |some (.int k a)=>bif kU k f then
    match op with
    | .add=>some (.int k (k.wrap (a+b)))
    | .sub=>some (.int k (k.wrap (a-b)))
    | .mul=>some (.int k (k.wrap (a*b)))
    | .quo=>match b with
     | .ofNat (.succ m)=>some (.int k (k.wrap (a.tdiv (.ofNat (.succ m)))))
     |_=>none
    | .rem=>match b with
     | .ofNat (.succ m)=>some (.int k (a.tmod (.ofNat (.succ m))))
     |_=>none
    | .and=>some (.int k (k.wrap (BitVec.ofInt k.bits a&&&BitVec.ofInt k.bits b).toNat))
    | .or=>some (.int k (k.wrap (BitVec.ofInt k.bits a|||BitVec.ofInt k.bits b).toNat))
    | .xor=>some (.int k (k.wrap (BitVec.ofInt k.bits a^^^BitVec.ofInt k.bits b).toNat))
    | .eql=>some (.bool (a==b))
    | .neq=>some (.bool (a !=b))
    | .lss=>some (.bool (a<b))
    | .leq=>some (.bool (a<=b))
    | .gtr=>some (.bool (a>b))
    | .geq=>some (.bool (a>=b))
    |_=>none
    else none
   |_=>none
  |some (.bool b)=>match ev e x with
   |some (.bool a)=>match P.underlying T with
    |some .bool=>match op with
     | .eql=>some (.bool (a==b))
     | .neq=>some (.bool (!(a==b)))
     |_=>none
    |_=>none
   |_=>none
  |some (.string b)=>match ev e x with
   |some (.string a)=>match op with
    | .eql=>some (.bool (a.toList==b.toList))
    | .neq=>some (.bool (!(a.toList==b.toList)))
    |_=>none
   |_=>none
  |some (.pointer none)=>match ev e x with
   |some (.pointer p)=>bif na (P.underlying T) then match op with
    | .eql=>some (.bool p.isNone)
    | .neq=>some (.bool (!p.isNone))
    |_=>none
    else none
   |_=>none
  |some (.slice none _ _)=>match ev e x with
   |some (.slice p _ _)=>bif n_ (P.underlying T) then match op with
    | .eql=>some (.bool p.isNone)
    | .neq=>some (.bool (!p.isNone))
    |_=>none
    else none
   |_=>none
  |_=>none
 | .convert s d x=>match ev e x with
  |some (.int _ n)=>match P.underlying d with
   |some (.int k)=>bif (P.underlying s).isSome then some (.int k (k.wrap n)) else none
   |_=>none
  |_=>none
 | .call {callee:=.builtin .len,args:=args,argTypes:=gT}=>match args[0]?,gT[0]? with
  |some x,some T=>match ev e x,P.underlying T with
   |some (.slice _ n _),some (.slice _)=>some (.int .i64 n)
   |some (.string s),some .string=>some (.int .i64 s.size)
   |_,_=>none
  |_,_=>none
 | .call {callee:=.builtin .cap,args:=args,argTypes:=gT}=>match args[0]?,gT[0]? with
  |some x,some T=>match ev e x,P.underlying T with
   |some (.slice _ _ c),some (.slice _)=>some (.int .i64 c)
   |_,_=>none
  |_,_=>none
 |_=>none
def sX(ops:Array Oper)(e:Env)(j:Nat):au aa:=((ops[j]?).bind (·.dst)).bind e.get
def G4(ops:Array Oper)(j:Nat):au Nat:=(ops[j]?).bind (·.dst)
def NS(o:Oper)(e:Env)(K:ao->Prop):Prop:=
 match o.guard with
 |none=>match o.op with
  | .pick x y z=>match ev e x with
   |some (.bool b)=>match ev e (bif b then y else z) with
    |some (.bool r)=>K r
    |_=>False
   |_=>False
  |_=>False
 |some _=>False
def hZ(ops:Array Oper)(o:Oper)(e:Env)(run skip:Prop):Prop:=
 match o.guard with
 |none=>run
 |some (j,want)=>match sX ops e j with
  |none=>False
  |some (.bool b)=>bif Bool.xor b want then skip else run
  |some _=>skip
def mA{α:Type}(ops:Array Oper)(o:Oper)(e:Env)(run skip:au α):au α:=
 match o.guard with
 |none=>run
 |some (j,want)=>match sX ops e j with
  |none=>none
  |some (.bool b)=>bif Bool.xor b want then skip else run
  |some _=>skip
def lX(o:Oper)(e:Env):au ao:=
 match o.op with
 | .pick x y z=>match ev e x with
  |some (.bool b)=>match ev e (bif b then y else z) with
   |some (.bool r)=>some r
   |_=>none
  |_=>none
 |_=>none
def sY(ops:Array Oper)(o:Oper)(e:Env):au (Nat×ao):=
 match o.guard with
 |none=>none
 |some (j,_)=>match G4 ops j with
  |none=>none
  |some s=>match e.get s with
   |some (.bool c)=>some (s,c)
   |_=>none
def nd(ops:Array Oper)(o:Oper)(e:Env):ao:=
 match o.guard with
 |none=>true
 |some (j,want)=>match sX ops e j with
  |some (.bool b)=> !(Bool.xor b want)
  |_=>false
def ob(e:Env)(ds:O Nat):ao:=e.all λp=> !(ds.any λd=>Nat.beq d p.1)
def b3(l:O Oper):O Nat:=l.filterMap (·.dst)
def jH(P:Program)(ops:Array Oper):Nat->O Oper->O lA->Env->au Env
 |0,_,_,_=>none
 |_+1,[],_,e=>some e
 |n+1,o::rest,.pure m::as,e=>
  match sY ops o e,rest.drop (m-1) with
  |none,_=>
   match mA ops o e none (some undef) with
   |some v=>jH P ops n rest as (dC o.dst v e)
   |none=>none
  |some (s,c),a::b=>
   match jH P ops n (o::rest.take (m-1)) (.run::as.take (m-1)) ((s,.bool true)::e),jH P ops n (o::rest.take (m-1)) (.run::as.take (m-1)) ((s,.bool false)::e) with
   |some d,some f=>
    match lX a d,lX a f with
    |some r1,some cq=>bif nd ops a e&&ob e (b3 (o::rest.take (m-1))) then jH P ops n b (as.drop m) (dC a.dst (.bool (cond c r1 cq)) e) else none
    |_,_=>none
   |_,_=>none
  |_,_=>none
 |n+1,o::rest,_::as,e=>
  match mA ops o e (fj P o e) (some undef) with
  |some v=>jH P ops n rest as (dC o.dst v e)
  |none=>none
 |n+1,o::rest,[],e=>
  match mA ops o e (fj P o e) (some undef) with
  |some v=>jH P ops n rest [] (dC o.dst v e)
  |none=>none
inductive bz {α:Type} (B:α->Prop) (k:α):Prop where
 |mk (h:B k)
theorem bz.out{α:Type}{B:α->Prop}{k:α}(h:bz B k):B k:=by cases h with|mk h=>exact h
def vu(P:Program)(ks:O Kd)(o:Oper)(K:U0)(e:Env)(w:J):Prop:=
 match o.op with
 | .entry it=>match ev e it with
  |some a=>vh ks λvs=>∃w1,(Instr.entry a).run P w=.ok (.tuple vs.toArray) w1/\K (.tuple vs.toArray) w1
  |_=>False
 |_=>False
theorem G5{P:Program}{ks:O Kd}{o:Oper}{K:U0}{e:Env}{w:J}{a:Act}(av:dG e a)(h:vu P ks o K e w):nc P o a w K:=by
 unfold vu at h;split at h
 .rename_i it b
  split at h
  .rename_i f hx
   obtain⟨v,w1,c,d⟩:=y4 h;exact .inl ⟨_,w1,by simp[execOp,b,av.ev hx,c],d⟩
  .exact h.elim
 .exact h.elim
def gj(P:Program)(tk:TypeId->ei)(ops:Array Oper):Nat->O Oper->O lA->(Env->U2)->Env->U2
 |0,_,_,_,_,_=>False
 |_+1,[],_,K,e,w=>K e w
 |n+1,o::rest,.vt ks::as,K,e,w=>
  hZ ops o e (vu P ks o (λv w'=>gj P tk ops n rest as K (dC o.dst v e) w') e w) (gj P tk ops n rest as K (dC o.dst undef e) w)
 |n+1,o::rest,.pure m::as,K,e,w=>
  match sY ops o e,rest.drop (m-1) with
  |none,_=>hZ ops o e False (gj P tk ops n rest as K (dC o.dst undef e) w)
  |some (s,c),a::b=>
   match jH P ops n (o::rest.take (m-1)) (.run::as.take (m-1)) ((s,.bool true)::e),jH P ops n (o::rest.take (m-1)) (.run::as.take (m-1)) ((s,.bool false)::e) with
   |some f,some g=>
    match lX a f,lX a g with
    |some r1,some cq=>bif nd ops a e&&ob e (b3 (o::rest.take (m-1))) then gj P tk ops n b (as.drop m) K (dC a.dst (.bool (cond c r1 cq)) e) w else False
    |_,_=>False
   |_,_=>False
  |_,_=>False
 |n+1,o::rest,.split m::as,K,e,w=>
  match sY ops o e,rest.drop (m-1) with
  |none,_=>hZ ops o e False (gj P tk ops n rest as K (dC o.dst undef e) w)
  |some (s,c),a::b=>
   bif nd ops a e&&ob e (b3 (o::rest.take (m-1))) then
    bz (λk:ao->U2=>
     (c=true->gj P tk ops n (o::rest.take (m-1)) (.run::as.take (m-1)) (λd w'=>match lX a d with|some r=>k r w'|none=>False) ((s,.bool true)::e) w)/\
     (c=false->gj P tk ops n (o::rest.take (m-1)) (.run::as.take (m-1)) (λd w'=>match lX a d with|some r=>k r w'|none=>False) ((s,.bool false)::e) w))
     (λr w'=>gj P tk ops n b (as.drop m) K (dC a.dst (.bool r) e) w')
   else False
  |_,_=>False
 |n+1,o::rest,_::as,K,e,w=>
  hZ ops o e (ku P tk o (λv w'=>gj P tk ops n rest as K (dC o.dst v e) w') e w) (gj P tk ops n rest as K (dC o.dst undef e) w)
 |n+1,o::rest,[],K,e,w=>
  hZ ops o e (ku P tk o (λv w'=>gj P tk ops n rest [] K (dC o.dst v e) w') e w) (gj P tk ops n rest [] K (dC o.dst undef e) w)
structure ew(ds:O Nat)(a b:Act):Prop where
 defers:b.defers=a.defers
 size:b.tmps.size=a.tmps.size
 same:∀s,s∉ds->b.tmps[s]? =a.tmps[s]?
theorem ew.refl(ds:O Nat)(a:Act):ew ds a a:=⟨rfl,rfl,λ_ _=>rfl⟩
theorem ew.trans{ds:O Nat}{a b c:Act}(h:ew ds a b)(k:ew ds b c):ew ds a c:=
 ⟨k.defers.trans h.defers,k.size.trans h.size,λs hs=>(k.same s hs).trans (h.same s hs)⟩
theorem ew.mono{ds es:O Nat}{a b:Act}(h:ew ds a b)(hs:∀s,s∈ds->s∈es):ew es a b:=
 ⟨h.defers,h.size,λs c=>h.same s λd=>c (hs s d)⟩
theorem ew.put{a:Act}{d:au Nat}{v:aa}{ds:O Nat}(hd:∀k,d=some k->k∈ds):ew ds a (a.put d v):=by
 cases d with
 |none=>exact .refl _ _
 |some d=>exact⟨rfl,by simp[Act.put],λs hs=>by
  have:d≠s:=λh=>hs (h▸hd d rfl);simp[Act.put,Array.getElem?_setIfInBounds_ne this]⟩
def g7(a:Act)(ds:O Nat)(K:Env->U2)(x:Exit)(b:Act)(w':J):Prop:=
 x=.normal/\ew ds a b/\∃c,dG c b/\K c w'
theorem jI{P:Program}{ops:Array Oper}{Q Q':Exit->Act->U2}(b:∀x a w,Q x a w->Q' x a w):
 ∀ (l:O Oper) (a:Act) (w:J),wpList P ops Q l a w->wpList P ops Q' l a w
 | [],_,_,h=>b _ _ _ h
 |o::l,a,w,h=>by
  simp only[wpList]at h⊢
  split
  .rename_i d
   rw[if_pos d]at h
   refine h.imp (λh=>?_) (λ⟨h1,f,w',h2⟩=>⟨h1,f,w',b _ _ _ h2⟩)
   have:=Oper.wp_mono (Q:=Q) (λa w=>jI b l a w) h
   unfold Oper.wp at this⊢
   revert this
   generalize (execOp a.eval o).run P w=r
   intro this
   cases r with
   |ok aT w'=>
    cases aT<;>simp only[Oper.upon]at this⊢<;>first
     |exact this
     |(exact Calls.mono this λe g he=>by
        cases e with
        |returned v=>exact he
        |panicked c=>exact b _ _ _ he
        |outgrown=>exact let ⟨f,w',h2⟩:=he;⟨f,w',b _ _ _ h2⟩)
   |halt x w'=>cases x<;>simp only[Oper.upon]at this⊢<;>first|exact b _ _ _ this|exact this
  .rename_i d
   rw[if_neg d]at h
   exact jI b l _ _ h
theorem sZ{P:Program}{ops:Array Oper}{Q:Exit->Act->U2}(b:O Oper):
 ∀ (jq:O Oper) (a:Act) (w:J),wpList P ops (λx a w=>x=.normal/\wpList P ops Q b a w) jq a w->wpList P ops Q (jq++b) a w
 | [],_,_,h=>h.2
 |o::l,a,w,h=>by
  simp only[m0,wpList]at h⊢
  split
  .rename_i d
   rw[if_pos d]at h
   obtain h|⟨_,f,w',h2,_⟩:=h
   .left
    have:=Oper.wp_mono (λa w=>sZ b l a w) h
    unfold Oper.wp at this⊢
    revert this
    generalize (execOp a.eval o).run P w=r
    intro this
    cases r with
    |ok aT w'=>
     cases aT<;>simp only[Oper.upon]at this⊢<;>first
      |exact this
      |(exact Calls.mono this λe g he=>by
         cases e with
         |returned v=>exact he
         |panicked c=>cases he.1
         |outgrown=>exact let ⟨f,w',h2⟩:=he;by cases h2.1)
    |halt x w'=>cases x<;>simp only[Oper.upon]at this⊢<;>first|(cases this.1;done)|exact this
   .cases h2
  .rename_i d
   rw[if_neg d]at h
   exact sZ b l _ _ h
section
variable {P:Program}{tk:TypeId->ei}{ops:Array Oper}
def nf:aa->au ao
 | .bool b=>some b
 |_=>none
theorem s0{e:Env}{a:Act}(av:dG e a){j:Nat}{v:aa}(h:sX ops e j=some v):
 yielded ops a.tmps j=nf v:=by
 unfold sX at h;unfold yielded
 cases hd:(ops[j]?).bind (·.dst) with
 |none=>rw[hd]at h;simp at h
 |some s=>
  rw[hd]at h;simp only[Option.bind_some]at h⊢;rw[av.get _ _ h]
  cases v<;>rfl
theorem s3{o:Oper}{e:Env}{a:Act}(av:dG e a){R S:Prop}(h:hZ ops o e R S):
 (Region.wanted o (yielded ops a.tmps)=true/\R)\/(Region.wanted o (yielded ops a.tmps)=false/\S):=by
 unfold hZ at h;unfold Region.wanted;split at h
 .rename_i hg;rw[hg];exact .inl ⟨rfl,h⟩
 .rename_i j want hg
  rw[hg];simp only;split at h
  .exact h.elim
  .rename_i b c
   rw[s0 av c]
   cases b<;>cases want<;>first|exact .inl ⟨rfl,h⟩|exact .inr ⟨rfl,h⟩
  .rename_i v d c
   rw[s0 av c]
   cases v<;>first|exact absurd rfl (d _)|exact .inr ⟨by cases want<;>rfl,h⟩
theorem Cv{o:Oper}{e:Env}{R R' S:Prop}(h:hZ ops o e R S)(a:R->R'):hZ ops o e R' S:=by
 unfold hZ at h⊢;split at h
 .exact a h
 .rename_i j want hg
  split at h
  .exact h
  .rename_i b d
   cases c:Bool.xor b want<;>rw[c]at h<;>first|exact a h|exact h
  .exact h
theorem G6{α:Type}{o:Oper}{e:Env}{R S:au α}{r:α}(h:mA ops o e none S=some r):mA ops o e R S=some r:=by
 unfold mA at h⊢;split at h
 .cases h
 .rename_i j want hg
  split at h
  .exact h
  .rename_i b c
   cases a:Bool.xor b want with
   |true=>rw[a]at h;exact h
   |false=>rw[a]at h;cases h
  .exact h
theorem G7{α:Type}{o:Oper}{e:Env}{a:Act}(av:dG e a){R S:au α}{r:α}(h:mA ops o e R S=some r):
 (Region.wanted o (yielded ops a.tmps)=true/\R=some r)\/(Region.wanted o (yielded ops a.tmps)=false/\S=some r):=by
 unfold mA at h;unfold Region.wanted;split at h
 .rename_i hg;rw[hg];exact .inl ⟨rfl,h⟩
 .rename_i j want hg
  rw[hg];simp only;split at h
  .cases h
  .rename_i b c
   rw[s0 av c]
   cases b<;>cases want<;>first|exact .inl ⟨rfl,h⟩|exact .inr ⟨rfl,h⟩
  .rename_i v d c
   rw[s0 av c]
   cases v<;>first|exact absurd rfl (d _)|exact .inr ⟨by cases want<;>rfl,h⟩
theorem Cw{o:Oper}{e:Env}{a:Act}(av:dG e a){v:aa}(h:fj P o e=some v)(w:J):(execOp a.eval o).run P w=.ok (.value v) w:=by
 unfold fj at h;split at h
 .rename_i x f
  simp[execOp,f,av.ev h]
 .rename_i x f
  simp[execOp,f,av.ev h]
 .rename_i t x f
  split at h
  .rename_i b hx
   cases h;simp[execOp,f,av.ev hx,Op.unary]
  .cases h
 .rename_i op T x y D f
  split at h
  .rename_i u b i
   split at h
   .rename_i k c hx
    by_cases z:k=u
    .subst z
     simp only[kU,decide_true,cond_true]at h;split at h
     case h_4=>
      split at h
      .cases h
       simp[execOp,f,av.ev hx,av.ev i,eqGuard,binOp,Op.intDiv];intro r;exfalso;revert r;simp;omega
      .cases h
     case h_5=>
      split at h
      .cases h
       simp[execOp,f,av.ev hx,av.ev i,eqGuard,binOp,Op.intDiv];intro r;exfalso;revert r;simp;omega
      .cases h
     all_goals first
      |(cases h;simp[execOp,f,av.ev hx,av.ev i,eqGuard,binOp,Op.intArith,Op.intBits,Op.intCmp];done)
      |cases h
    .simp[kU,z]at h
   .cases h
  .rename_i b i
   split at h
   .rename_i c hx
    split at h
    .rename_i g
     have j:∀ (d:Nat) (w:J),(Op.equalIn (d+1) T (.bool c) (.bool b)).run P w=.ok (c==b) w:=by
      intro d w;simp[Op.equalIn,di g]
     have A:∀w:J,(Op.equal T (.bool c) (.bool b)).run P w=.ok (c==b) w:=λw=>by rw[qX];exact j _ w
     split at h
     .cases h
      simp[execOp,f,av.ev hx,av.ev i,eqGuard,binOp,A]
     .cases h
      simp[execOp,f,av.ev hx,av.ev i,eqGuard,binOp,A]
     .cases h
    .cases h
   .cases h
  .rename_i b i
   split at h
   .rename_i c hx
    split at h
    .cases h
     have j:(binOp .eql T (.string c) (.string b)).run P w=.ok (.bool (c.toList==b.toList)) w:=rfl;simp only[execOp,f,av.ev hx,av.ev i];simp[eqGuard,j]
    .cases h
     have j:(binOp .neq T (.string c) (.string b)).run P w=.ok (.bool (!(c.toList==b.toList))) w:=rfl;simp only[execOp,f,av.ev hx,av.ev i];simp[eqGuard,j]
    .cases h
   .cases h
  .rename_i i
   split at h
   .rename_i p hx
    by_cases g:na (P.underlying T)=true
    .rw[g]at h
     simp only[cond_true]at h;split at h
     .cases h;simp[execOp,f,av.ev hx,av.ev i,eqGuard,binOp,vk (P:=P) g]
     .cases h;simp[execOp,f,av.ev hx,av.ev i,eqGuard,binOp,vk (P:=P) g]
     .cases h
    .simp only[fG]at g;rw[g]at h;cases h
   .cases h
  .rename_i l c i
   split at h
   .rename_i p _ _ hx
    by_cases g:n_ (P.underlying T)=true
    .rw[g]at h
     simp only[cond_true]at h;split at h
     .cases h;simp[execOp,f,av.ev hx,av.ev i,eqGuard,binOp,vl (P:=P) g]
     .cases h;simp[execOp,f,av.ev hx,av.ev i,eqGuard,binOp,vl (P:=P) g]
     .cases h
    .simp only[fG]at g;rw[g]at h;cases h
   .cases h
  .cases h
 .rename_i s d x f
  split at h
  .rename_i k n hx
   split at h
   .rename_i u hd
    by_cases hs:(P.underlying s).isSome=true
    .rw[hs]at h
     cases h;obtain⟨ds,B⟩:=kV _ hs;simp[execOp,f,av.ev hx,convert,di B,di hd,Conv.intToInt]
    .simp only[fG]at hs;rw[hs]at h;cases h
   .cases h
  .cases h
 .rename_i args gT f
  split at h
  .rename_i x T m q
   split at h
   .rename_i p n c C hx g
    cases h;simp[execOp,f,resolve,invoke,Go.builtin,Builtin.len_,q,m,di g,av.ev hx,goInt]
   .rename_i s hx g
    cases h;simp[execOp,f,resolve,invoke,Go.builtin,Builtin.len_,q,m,di g,av.ev hx,goInt]
   .cases h
  .cases h
 .rename_i args gT f
  split at h
  .rename_i x T m q
   split at h
   .rename_i p n c C hx g
    cases h;simp[execOp,f,resolve,invoke,Go.builtin,Builtin.cap_,q,m,di g,av.ev hx,goInt]
   .cases h
  .cases h
 .cases h
theorem ze{e:Env}{ds:O Nat}{a b:Act}(av:dG e a)(hd:ob e ds=true)(d:ew ds a b):dG e b:=by
 constructor;intro s v hs;have f:∃u,(s,u)∈e:=by
  clear hd av
  induction e with
  |nil=>cases hs
  |cons p e g=>
   obtain⟨k,u⟩:=p;rw[po]at hs;by_cases c:k=s
   .subst c;exact⟨u,by simp⟩
   .rw[if_neg c]at hs
    obtain⟨u,hu⟩:=g hs;exact⟨u,by simp[hu]⟩
 obtain⟨u,hu⟩:=f;have h1:=nV.1 hd _ hu;simp only[jD,qG]at h1;rw[d.same s λh=>h1 s h (Nat.beq_refl s)];exact av.get s v hs
theorem zf{d:Oper}{e:Env}{a:Act}(av:dG e a){r:ao}(h:lX d e=some r)(w:J):
 (execOp a.eval d).run P w=.ok (.value (.bool r)) w:=by
 unfold lX at h;split at h
 .rename_i x y z f
  split at h
  .rename_i b g
   split at h
   .rename_i i c
    cases h;simp only[execOp,f,av.ev g]
    cases b
    .simp only[cond_false]at c
     simp[asBool,av.ev c]
    .simp only[cond_true]at c
     simp[asBool,av.ev c]
   .cases h
  .cases h
 .cases h
theorem zg{c:Oper}{e:Env}{a:Act}(av:dG e a)(h:nd ops c e=true):Region.wanted c (yielded ops a.tmps)=true:=by
 unfold nd at h;unfold Region.wanted;split at h
 .rename_i hg;rw[hg]
 .rename_i j want hg
  rw[hg];simp only;split at h
  .rename_i b d
   rw[s0 av d]
   cases b<;>cases want<;>first|rfl|cases h
  .cases h
theorem zh{o:Oper}{e:Env}{s:Nat}{c:ao}(h:sY ops o e=some (s,c)):e.get s=some (.bool c):=by
 unfold sY at h;split at h
 .cases h
 .split at h
  .cases h
  .split at h
   .rename_i hs;cases h;exact hs
   .cases h
theorem dG.lit{e:Env}{a:Act}(av:dG e a){s:Nat}{v:aa}(h:e.get s=some v):dG ((s,v)::e) a:=by
 constructor;intro t u ht;rw[po]at ht;by_cases b:s=t
 .subst b
  rw[if_pos rfl]at ht
  cases ht;exact av.get _ _ h
 .rw[if_neg b]at ht
  exact av.get _ _ ht
theorem zi{α:Type}(o:α)(rest:O α)(m:Nat){a:α}{b:O α}(h:rest.drop m=a::b):
 o::rest=(o::rest.take m)++(a::b):=by
 rw[←h];simp
theorem G8{b c:ao}{α:Type}{x y z:α}(h:(bif b&&c then x else y)=z)(a:y≠z):b=true/\c=true/\x=z:=by
 cases b<;>cases c<;>first|exact absurd h a|exact⟨rfl,rfl,h⟩
theorem Cx:∀ (n:Nat) (l:O Oper) (as:O lA) (e j:Env) (a:Act) (w:J),dG e a->(∀d∈b3 l,d<a.tmps.size)->
 jH P ops n l as e=some j->wpList P ops (λx f w'=>x=.normal/\ew (b3 l) a f/\dG j f/\w'=w) l a w:=by
 intro n
 induction n with
 |zero=>intro l as e j a w _ _ h;cases h
 |succ n A=>
  intro l as e j a w av g h;have one:∀ (o:Oper) (rest:O Oper) (D:O lA),(∀d∈b3 (o::rest),d<a.tmps.size)->
   (match mA ops o e (fj P o e) (some undef) with|some v=>jH P ops n rest D (dC o.dst v e)|none=>none)=some j->
   wpList P ops (λx f w'=>x=.normal/\ew (b3 (o::rest)) a f/\dG j f/\w'=w) (o::rest) a w:=by
   intro o rest D g h;have H:∀k,o.dst=some k->k∈b3 (o::rest):=λk b=>by simp[b3,b]
   have q:∀k,k∈b3 rest->k∈b3 (o::rest):=λk b=>by
    simp only[b3,sI];split
    .exact b
    .exact jQ _ b
   split at h
   .rename_i v t
    have next:∀ (f:Act),f=a.put o.dst v->wpList P ops (λx f w'=>x=.normal/\ew (b3 (o::rest)) a f/\dG j f/\w'=w) rest f w:=by
     intro f R;subst R;have b:ew (b3 (o::rest)) a (a.put o.dst v):=ew.put H;have:=A rest D (dC o.dst v e) j (a.put o.dst v) w (av.put λk b=>g k (H k b)) (λd hd=>by rw[b.size];exact g d (q d hd)) h;exact jI (λx f w' ⟨h1,h2,S,T⟩=>⟨h1,b.trans (h2.mono q),S,T⟩) _ _ _ this
    rcases G7 av t with ⟨E,u⟩|⟨E,u⟩
    .simp only[wpList,E,if_true]
     left;unfold Oper.wp;rw[Cw av u w];exact next _ rfl
    .simp only[wpList,E,gv,if_false]
     cases u;exact next _ rfl
   .cases h
  cases l with
  |nil=>
   simp only[jH,Option.some.injEq]at h;subst h;exact⟨rfl,.refl _ _,av,rfl⟩
  |cons o rest=>
   cases as with
   |nil=>exact one o rest [] g (by simpa only[jH] using h)
   |cons U as=>
    cases U with
    |run=>exact one o rest as g (by simpa only[jH] using h)
    |split m=>exact one o rest as g (by simpa only[jH] using h)
    |vt ks=>exact one o rest as g (by simpa only[jH] using h)
    |pure m=>
     simp only[jH]at h;split at h
     .refine one o rest as g ?_
      cases t:mA ops o e none (some undef) with
      |none=>rw[t]at h;cases h
      |some v=>rw[t]at h;rw[G6 t];exact h
     .rename_i s c i p hg hd
      split at h
      .rename_i I K h1 h2
       split at h
       .rename_i r1 cq V W
        obtain⟨X,Y,h⟩:=G8 h U9;rw[zi o rest (m-1) hd]at g⊢;have L:=zh hg;refine sZ _ _ _ _ ?_;have F:∀k,k∈b3 (o::rest.take (m-1))->k∈b3 ((o::rest.take (m-1))++(i::p)):=λk b=>by
         simp only[b3,sJ,cR];exact .inl b
        have B:∀k,k∈b3 (i::p)->k∈b3 ((o::rest.take (m-1))++(i::p)):=λk b=>by
         simp only[b3,sJ,cR];exact .inr b
        have M:∀k,i.dst=some k->k∈b3 (i::p):=λk b=>by simp[b3,b]
        have q:∀k,k∈b3 p->k∈b3 (i::p):=λk b=>by
         simp only[b3,sI];split
         .exact b
         .exact jQ _ b
        have fin:∀ (G:Env) (r:ao) (a1:Act),ew (b3 (o::rest.take (m-1))) a a1->dG G a1->lX i G=some r->r=cond c r1 cq->
         wpList P ops (λx f w'=>x=.normal/\ew (b3 ((o::rest.take (m-1))++(i::p))) a f/\dG j f/\w'=w) (i::p) a1 w:=by
         intro G r a1 C Z u aa;have N:=ze av Y C;simp only[wpList,zg N X,if_true];left;unfold Oper.wp;rw[zf Z u w];simp only[Oper.upon];have Q:ew (b3 (i::p)) a1 (a1.put i.dst (.bool r)):=ew.put M;have:=A p (as.drop m) (dC i.dst (.bool (cond c r1 cq)) e) j (a1.put i.dst (.bool r)) w
          (by rw[aa];exact N.put λk b=>by rw[C.size];exact g k (B k (M k b)))
          (λd hd=>by rw[Q.size,C.size];exact g d (B d (q d hd))) h
         refine jI (λx f w' ⟨ay,az,y,z⟩=>⟨ay,(C.mono F).trans ((Q.mono B).trans (az.mono λk b=>B k (q k b))),y,z⟩) _ _ _ this
        cases c with
        |true=>
         have:=A _ _ _ I a w (av.lit L) (λd hd=>g d (F d hd)) h1;exact jI (λx f w' ⟨ay,az,y,z⟩=>⟨ay,by subst z;exact fin I r1 f az y V rfl⟩) _ _ _ this
        |false=>
         have:=A _ _ _ K a w (av.lit L) (λd hd=>g d (F d hd)) h2;exact jI (λx f w' ⟨ay,az,y,z⟩=>⟨ay,by subst z;exact fin K cq f az y W rfl⟩) _ _ _ this
       .cases h
      .cases h
     .cases h
theorem Cy:∀ (n:Nat) (l:O Oper) (as:O lA) (K:Env->U2) (e:Env) (a:Act) (w:J),dG e a->(∀d∈b3 l,d<a.tmps.size)->
 gj P tk ops n l as K e w->wpList P ops (g7 a (b3 l) K) l a w:=by
 intro n
 induction n with
 |zero=>intro l as K e a w _ _ h;cases h
 |succ n C=>
  intro l as K e a w av i h;have one:∀ (o:Oper) (rest:O Oper) (j:O lA),(∀d∈b3 (o::rest),d<a.tmps.size)->
   hZ ops o e (ku P tk o (λv w'=>gj P tk ops n rest j K (dC o.dst v e) w') e w) (gj P tk ops n rest j K (dC o.dst undef e) w)->
   wpList P ops (g7 a (b3 (o::rest)) K) (o::rest) a w:=by
   intro o rest j i h;have D:∀k,o.dst=some k->k∈b3 (o::rest):=λk b=>by simp[b3,b]
   have p:∀k,k∈b3 rest->k∈b3 (o::rest):=λk b=>by
    simp only[b3,sI];split
    .exact b
    .exact jQ _ b
   have next:∀ (v:aa) (w':J),gj P tk ops n rest j K (dC o.dst v e) w'->wpList P ops (g7 a (b3 (o::rest)) K) rest (a.put o.dst v) w':=by
    intro v w' h;have b:ew (b3 (o::rest)) a (a.put o.dst v):=ew.put D;have:=C rest j K (dC o.dst v e) (a.put o.dst v) w' (av.put λk b=>i k (D k b)) (λd hd=>by rw[b.size];exact i d (p d hd)) h;exact jI (λx y w' ⟨h1,h2,L⟩=>⟨h1,b.trans (h2.mono p),L⟩) _ _ _ this
   rcases s3 av h with ⟨z,q⟩|⟨z,q⟩
   .simp only[wpList,z,if_true]
    exact .inl ((vr av q).wp next)
   .simp only[wpList,z,gv,if_false]
    exact next _ _ q
  have U:∀ (o:Oper) (rest:O Oper) (ks:O Kd) (j:O lA),(∀d∈b3 (o::rest),d<a.tmps.size)->
   hZ ops o e (vu P ks o (λv w'=>gj P tk ops n rest j K (dC o.dst v e) w') e w) (gj P tk ops n rest j K (dC o.dst undef e) w)->
   wpList P ops (g7 a (b3 (o::rest)) K) (o::rest) a w:=by
   intro o rest ks j i h;have D:∀k,o.dst=some k->k∈b3 (o::rest):=λk b=>by simp[b3,b]
   have p:∀k,k∈b3 rest->k∈b3 (o::rest):=λk b=>by
    simp only[b3,sI];split
    .exact b
    .exact jQ _ b
   have next:∀ (v:aa) (w':J),gj P tk ops n rest j K (dC o.dst v e) w'->wpList P ops (g7 a (b3 (o::rest)) K) rest (a.put o.dst v) w':=by
    intro v w' h;have b:ew (b3 (o::rest)) a (a.put o.dst v):=ew.put D;have:=C rest j K (dC o.dst v e) (a.put o.dst v) w' (av.put λk b=>i k (D k b)) (λd hd=>by rw[b.size];exact i d (p d hd)) h;exact jI (λx y w' ⟨h1,h2,L⟩=>⟨h1,b.trans (h2.mono p),L⟩) _ _ _ this
   rcases s3 av h with ⟨z,q⟩|⟨z,q⟩
   .simp only[wpList,z,if_true]
    exact .inl ((G5 av q).wp next)
   .simp only[wpList,z,gv,if_false]
    exact next _ _ q
  cases l with
  |nil=>exact⟨rfl,.refl _ _,e,av,h⟩
  |cons o rest=>
   cases as with
   |nil=>exact one o rest [] i (by simpa only[gj] using h)
   |cons V as=>
    cases V with
    |run=>exact one o rest as i (by simpa only[gj] using h)
    |vt ks=>exact U o rest ks as i (by simpa only[gj] using h)
    |split m=>
     simp only[gj]at h;split at h
     .exact one o rest as i (Cv h False.elim)
     .rename_i s c f g hg hd
      obtain⟨M,N,h⟩:nd ops f e=true/\ob e (b3 (o::rest.take (m-1)))=true/\_:=by
       cases h1:nd ops f e<;>cases h2:ob e (b3 (o::rest.take (m-1)))<;>rw[h1,h2]at h<;>first|exact h.elim|exact⟨rfl,rfl,h⟩
      rw[zi o rest (m-1) hd]at i⊢;have E:=zh hg;refine sZ _ _ _ _ ?_;have A:∀k,k∈b3 (o::rest.take (m-1))->k∈b3 ((o::rest.take (m-1))++(f::g)):=λk b=>by
       simp only[b3,sJ,cR];exact .inl b
      have t:∀k,k∈b3 (f::g)->k∈b3 ((o::rest.take (m-1))++(f::g)):=λk b=>by
       simp only[b3,sJ,cR];exact .inr b
      have F:∀k,f.dst=some k->k∈b3 (f::g):=λk b=>by simp[b3,b]
      have p:∀k,k∈b3 g->k∈b3 (f::g):=λk b=>by
       simp only[b3,sI];split
       .exact b
       .exact jQ _ b
      have fin:∀ (x:Exit) (a1:Act) (w1:J),g7 a (b3 (o::rest.take (m-1)))
       (λW w'=>match lX f W with|some r=>gj P tk ops n g (as.drop m) K (dC f.dst (.bool r) e) w'|none=>False) x a1 w1->
       x=.normal/\wpList P ops (g7 a (b3 ((o::rest.take (m-1))++(f::g))) K) (f::g) a1 w1:=by
       rintro x a1 w1 ⟨hx,u,I,Q,h⟩;refine⟨hx,?_⟩;have G:=ze av N u;split at h
       .rename_i r q
        simp only[wpList,zg G M,if_true];left;unfold Oper.wp;rw[zf Q q w1];simp only[Oper.upon];have H:ew (b3 (f::g)) a1 (a1.put f.dst (.bool r)):=ew.put F;have:=C g (as.drop m) K (dC f.dst (.bool r) e) (a1.put f.dst (.bool r)) w1
         (G.put λk b=>by rw[u.size];exact i k (t k (F k b)))
         (λd hd=>by rw[H.size,u.size];exact i d (t d (p d hd))) h
        refine jI (λx y w' ⟨ay,az,B⟩=>⟨ay,(u.mono A).trans ((H.mono t).trans (az.mono λk b=>t k (p k b))),B⟩) _ _ _ this
       .exact h.elim
      have h:=h.out
      cases c with
      |true=>
       have:=C _ _ _ _ a w (av.lit E) (λd hd=>i d (A d hd)) (h.1 rfl);exact jI fin _ _ _ this
      |false=>
       have:=C _ _ _ _ a w (av.lit E) (λd hd=>i d (A d hd)) (h.2 rfl);exact jI fin _ _ _ this
     .exact h.elim
    |pure m=>
     simp only[gj]at h;split at h
     .exact one o rest as i (Cv h False.elim)
     .rename_i s c f g hg hd
      split at h
      .rename_i S T h1 h2
       split at h
       .rename_i r1 cq X Y
        obtain⟨M,N,h⟩:nd ops f e=true/\ob e (b3 (o::rest.take (m-1)))=true/\_:=by
         cases ay:nd ops f e<;>cases az:ob e (b3 (o::rest.take (m-1)))<;>rw[ay,az]at h<;>first|exact h.elim|exact⟨rfl,rfl,h⟩
        rw[zi o rest (m-1) hd]at i⊢;have E:=zh hg;refine sZ _ _ _ _ ?_;have A:∀k,k∈b3 (o::rest.take (m-1))->k∈b3 ((o::rest.take (m-1))++(f::g)):=λk b=>by
         simp only[b3,sJ,cR];exact .inl b
        have t:∀k,k∈b3 (f::g)->k∈b3 ((o::rest.take (m-1))++(f::g)):=λk b=>by
         simp only[b3,sJ,cR];exact .inr b
        have F:∀k,f.dst=some k->k∈b3 (f::g):=λk b=>by simp[b3,b]
        have p:∀k,k∈b3 g->k∈b3 (f::g):=λk b=>by
         simp only[b3,sI];split
         .exact b
         .exact jQ _ b
        have fin:∀ (I:Env) (r:ao) (a1:Act),ew (b3 (o::rest.take (m-1))) a a1->dG I a1->lX f I=some r->r=cond c r1 cq->
         wpList P ops (g7 a (b3 ((o::rest.take (m-1))++(f::g))) K) (f::g) a1 w:=by
         intro I r a1 u Q q Z;have G:=ze av N u;simp only[wpList,zg G M,if_true];left;unfold Oper.wp;rw[zf Q q w];simp only[Oper.upon];have H:ew (b3 (f::g)) a1 (a1.put f.dst (.bool r)):=ew.put F;have:=C g (as.drop m) K (dC f.dst (.bool (cond c r1 cq)) e) (a1.put f.dst (.bool r)) w
          (by rw[Z];exact G.put λk b=>by rw[u.size];exact i k (t k (F k b)))
          (λd hd=>by rw[H.size,u.size];exact i d (t d (p d hd))) h
         refine jI (λx y w' ⟨ay,az,B⟩=>⟨ay,(u.mono A).trans ((H.mono t).trans (az.mono λk b=>t k (p k b))),B⟩) _ _ _ this
        cases c with
        |true=>
         have:=Cx n _ _ _ S a w (av.lit E) (λd hd=>i d (A d hd)) h1;exact jI (λx y w' ⟨ay,az,B,R⟩=>⟨ay,by subst R;exact fin S r1 y az B X rfl⟩) _ _ _ this
        |false=>
         have:=Cx n _ _ _ T a w (av.lit E) (λd hd=>i d (A d hd)) h2;exact jI (λx y w' ⟨ay,az,B,R⟩=>⟨ay,by subst R;exact fin T cq y az B Y rfl⟩) _ _ _ this
       .exact h.elim
      .exact h.elim
     .exact h.elim
end
end aS
namespace aS
open Go
structure ag(W:U1)(w w':J):Prop where
 os:w'.os=w.os
 tape:w'.tape=w.tape
 output:w'.output=w.output
 size:w.heap.size<=w'.heap.size
 block:∀k,k<w.heap.size->¬W k->w'.heap[k]? =w.heap[k]?
theorem ag.refl(W:U1)(w:J):ag W w w:=⟨rfl,rfl,rfl,bk _,λ_ _ _=>rfl⟩
theorem ag.trans{W:U1}{a b c:J}(h:ag W a b)(k:ag W b c):ag W a c:=
 ⟨k.os.trans h.os,k.tape.trans h.tape,k.output.trans h.output,eO h.size k.size,λi hi d=>(k.block i (fO hi h.size) d).trans (h.block i hi d)⟩
theorem ag.mono{W V:U1}{a b:J}(h:ag W a b)(c:∀k,k<a.heap.size->W k->V k):ag V a b:=
 ⟨h.os,h.tape,h.output,h.size,λi hi d=>h.block i hi λcv=>d (c i hi cv)⟩
theorem ag.cell{W:U1}{w w':J}(h:ag W w w'){A:af}(cv:¬W A.block){v:aa}(a:w.cell? A=some v):w'.cell? A=some v:=by
 have b:A.block<w.heap.size:=by
  rcases dV A.block w.heap.size with h1|h1
  .exact h1
  .simp[World.cell?,Array.getElem?_eq_none h1]at a
 unfold World.cell? at a⊢;rw[h.block _ b cv];exact a
theorem ag.bf{W:U1}{w w':J}(h:ag W w w'){A:af}(cv:¬W A.block):∀ (n i:Nat) (vs:O aa),bf w A i n=some vs->bf w' A i n=some vs
 |0,_,_,a=>a
 |n+1,i,vs,a=>by
  simp only[aS.bf]at a⊢
  have b:(A.add i).block=A.block:=by unfold Addr.add;split<;>rfl
  cases h1:w.cell? (A.add i) with
  |none=>simp[h1]at a
  |some v=>
   cases h2:aS.bf w A (i+1) n with
   |none=>simp[h1,h2]at a
   |some us=>
    simp only[h1,h2]at a
    rw[h.cell (b▸cv) h1,ag.bf h cv n (i+1) us h2]
    exact a
def gk{α:Type}:Sem α->Prop
 | .pure _=>True
 | .program k=>∀p,gk (k p)
 | .halt _=>True
 |_=>False
theorem gk.bind{α β:Type}:∀ {s:Sem α}{f:α->Sem β},gk s->(∀a,gk (f a))->gk (s>>=f)
 | .pure a,_,_,hf=>hf a
 | .program _,_,h,hf=> λp=>gk.bind (h p) hf
 | .halt _,_,_,_=>trivial
 | .load ..,_,h,_=>h.elim
 | .store ..,_,h,_=>h.elim
 | .new ..,_,h,_=>h.elim
 | .shape ..,_,h,_=>h.elim
 | .freeze ..,_,h,_=>h.elim
 | .frozen ..,_,h,_=>h.elim
 | .getObj ..,_,h,_=>h.elim
 | .setObj ..,_,h,_=>h.elim
 | .choose ..,_,h,_=>h.elim
 | .sys ..,_,h,_=>h.elim
 | .mark ..,_,h,_=>h.elim
theorem gk.run{α:Type}{P:Program}:∀ {s:Sem α}{w w':J}{v:α},gk s->s.run P w=.ok v w'->∀u,s.run P u=.ok v u
 | .pure a,w,w',v,_,h,u=>by
  simp only[Sem.run,Result.ok.injEq]at h⊢
  exact⟨h.1,trivial⟩
 | .program k,w,w',v,hf,h,u=>gk.run (hf P) h u
 | .halt _,w,w',v,_,h,_=>by simp[Sem.run]at h
 | .load ..,_,_,_,h,_,_=>h.elim
 | .store ..,_,_,_,h,_,_=>h.elim
 | .new ..,_,_,_,h,_,_=>h.elim
 | .shape ..,_,_,_,h,_,_=>h.elim
 | .freeze ..,_,_,_,h,_,_=>h.elim
 | .frozen ..,_,_,_,h,_,_=>h.elim
 | .getObj ..,_,_,_,h,_,_=>h.elim
 | .setObj ..,_,_,_,h,_,_=>h.elim
 | .choose ..,_,_,_,h,_,_=>h.elim
 | .sys ..,_,_,_,h,_,_=>h.elim
 | .mark ..,_,_,_,h,_,_=>h.elim
theorem Cz:gk program:=λ_=>trivial
theorem CA(t:TypeId):gk (underlying t):=by
 unfold underlying;refine gk.bind Cz λp=>?_;split<;>trivial
theorem G9(t:TypeId):gk (typeInfo t):=by
 unfold typeInfo;refine gk.bind Cz λp=>?_;split<;>trivial
theorem G_(t:TypeId):gk (Go.sizeOf t):=gk.bind (G9 t) λ_=>trivial
theorem Ha(t:TypeId):gk (isAgg t):=by
 unfold isAgg;refine gk.bind (CA t) λd=>?_;split<;>trivial
theorem Hb(t:TypeId)(cs:Array aa)(off:Nat):gk (part t cs off):=by
 unfold part;refine gk.bind (Ha t) λd=>?_;split
 .exact gk.bind (G_ t) λ_=>trivial
 .split<;>trivial
theorem Hc(t:TypeId)(x:aa)(i:Nat):gk (Instr.field t x i):=by
 unfold Instr.field;refine gk.bind (CA t) λd=>?_;split
 .split
  .refine gk.bind ?_ λ_=>Hb _ _ _
   unfold asAgg;split<;>trivial
  .trivial
 .trivial
def CB:Op->ao
 | .move _=>true
 | .assign _=>true
 | .pick _ _ _=>true
 | .field _ _ _=>true
 |_=>false
def s4(P:Program)(o:Oper)(K:aa->Prop)(e:Env)(w:J):Prop:=
 bif CB o.op&&known e o.op.operands then
  match (execOp (ro e) o).run P w with
  | .ok (.value v) _=>K v
  |_=>False
 else False
def q0(P:Program)(o:Oper)(K:aa->Prop)(e:Env):Prop:=
 match fj P o e with
 |some v=>K v
 |none=>False
def CC(P:Program)(T:TypeId)(x:aa)(i:Nat)(K:aa->Prop):Prop:=
 match P.underlying T with
 |some (.struct fs)=>match fs[i]? with
  |some f=>match x with
   | .pointer (some A)=>match P.underlying f.type with
    |some _=>bif Nat.beq (P.cellsOf f.type) 0 then False else K (.pointer (some (A.add f.offset)))
    |none=>False
   |_=>False
  |none=>False
 |_=>False
def CD(x:aa)(i:Nat)(K:aa->Prop):Prop:=
 match x with
 | .tuple vs=>match vs[i]? with
  |some v=>K v
  |none=>False
 |_=>False
def kx(o:Oper):ao:=
 match o.op with
 | .load _ _=>true
 | .convert _ _ _=>true
 |_=>false
def lY:Nat->O Oper->Nat
 |_,[]=>0
 |i,o::l=>bif kx o then 2^i|||lY (i+1) l else lY (i+1) l
def zj(P:Program)(tk:TypeId->ei)(W:U1)(w:J)(o:Oper)(K:aa->Prop)(e:Env):Prop:=
 match o.op with
 | .nilCheck x=>match ev e x with
  |some (.pointer p)=>∃A,p=some A/\K (.pointer (some A))
  |_=>False
 | .load T x=>match ev e x with
  |some (.pointer (some A))=>¬W A.block/\qV P tk T A w K
  |_=>False
 | .binOp op T x y _=>match ev e x,ev e y with
  |some a,some c=>bif qZ y c then vj P op T a c K (q0 P o K e) else False
  |_,_=>False
 | .indexAddr T x i=>match ev e x,ev e i with
  |some a,some b=>vn P T a b K
  |_,_=>False
 | .index T x i=>match ev e x,ev e i with
  |some a,some b=>vo P tk T a b K
  |_,_=>False
 | .field T x i=>match ev e x with
  |some a=>vp P tk T a i K
  |_=>False
 | .fieldAddr T x i=>match ev e x with
  |some a=>CC P T a i K
  |_=>False
 | .extract x i=>match ev e x with
  |some a=>CD a i K
  |_=>False
 | .slice T x lo hi f=>bif known e o.op.operands then
  vq P T (ro e x) (lo.map (ro e)) (hi.map (ro e)) (f.map (ro e)) K
  else False
 | .convert s d x=>match ev e x with
  |some (.int _ _)=>q0 P o K e
  |some v=>iZ (tk o.type) λr=>(∀w',ag W w w'->(convert s d v).run P w'=.ok r w')/\K r
  |none=>False
 | .build t ps=>bif known e o.op.operands then
  ∃cs:Array aa,(∀w',(Instr.build t (ps.map λp=>(p.1,ro e p.2))).run P w'=.ok (.agg cs) w')/\K (.agg cs)
  else False
 | .unOp _ _ _=>q0 P o K e
 | .call _=>q0 P o K e
 | .move _=>s4 P o K e w
 | .assign _=>s4 P o K e w
 | .pick _ _ _=>s4 P o K e w
 | .sliceToArrayPointer T x=>match ev e x with
  |some a=>vm P T a K
  |_=>False
 |_=>False
section
variable {P:Program}{tk:TypeId->ei}{W:U1}{o:Oper}{K:aa->Prop}{e:Env}{a:Act}{w:J}
theorem zk(av:dG e a)(h:s4 P o K e w):∃v,(∀w',(execOp a.eval o).run P w'=.ok (.value v) w')/\K v:=by
 unfold s4 at h
 cases hf:CB o.op with
 |false=>rw[hf]at h;exact h.elim
 |true=>
  cases c:known e o.op.operands with
  |false=>rw[hf,c]at h;exact h.elim
  |true=>
   rw[hf,c]at h;simp only[Bool.and_self,cond_true]at h;have hc:=lz av (by cases b:o.op<;>rw[b]at hf<;>first|rfl|cases hf) c;rw[hc];split at h
   .rename_i v w' d
    refine⟨v,λu=>gk.run ?_ d u,h⟩
    cases b:o.op<;>rw[b]at hf<;>first|(cases hf;done)|skip
    .simp only[execOp,b];trivial
    .simp only[execOp,b];trivial
    .simp only[execOp,b]
     refine gk.bind ?_ λ_=>trivial;unfold asBool;split<;>trivial
    .simp only[execOp,b]
     exact gk.bind (Hc _ _ _) λ_=>trivial
   .exact h.elim
theorem vv(av:dG e a)(h:q0 P o K e):∃v,(∀w',(execOp a.eval o).run P w'=.ok (.value v) w')/\K v:=by
 unfold q0 at h;split at h
 .rename_i v b
  exact⟨v,Cw av b,h⟩
 .exact h.elim
theorem Hd(av:dG e a)(h:zj P tk W w o K e):∃v,(∀w',(kx o=true->ag W w w')->(execOp a.eval o).run P w'=.ok (.value v) w')/\K v:=by
 have bg:(∃v,(∀w',(execOp a.eval o).run P w'=.ok (.value v) w')/\K v)->∃v,(∀w',(kx o=true->ag W w w')->(execOp a.eval o).run P w'=.ok (.value v) w')/\K v:=
  λ⟨v,h1,h2⟩=>⟨v,λw' _=>h1 w',h2⟩
 unfold zj at h;split at h
 case h_1 x b=>
  split at h
  .rename_i p hx
   obtain⟨A,rfl,g⟩:=h;exact⟨_,λw' _=>by simp[execOp,b,av.ev hx],g⟩
  .exact h.elim
 case h_2 T x b=>
  split at h
  .rename_i A hx
   obtain⟨cv,h⟩:=h;have key:∃v,(∀w',ag W w w'->(Instr.loadAt T (.pointer (some A))).run P w'=.ok v w')/\K v:=by
    have z:∀w',(Instr.loadAt T (.pointer (some A))).run P w'=(loadVar T A).run P w':=λw'=>by simp[Instr.loadAt,Instr.sureAddr]
    unfold qV at h;split at h
    .exact h.elim
    .rename_i d m
     cases hd:iz d with
     |true=>
      rw[hd]at h;simp only[cond_true]at h;split at h
      .rename_i ls _
       by_cases n:Nat.beq (P.cellsOf T) ls.length=true
       .rw[n]at h
        simp only[cond_true]at h;obtain⟨vs,C,h⟩:=zc h;rw[←jm n]at C;exact⟨_,λw' hc=>by rw[z,vi m hd (hc.bf cv _ _ _ C)],h⟩
       .simp only[fG]at n;rw[n]at h;exact h.elim
      .obtain⟨cs,F,h⟩:=h
       exact⟨_,λw' hc=>by rw[z,vi m hd (hc.bf cv _ _ _ F)],h⟩
     |false=>
      rw[hd]at h;simp only[cond_false]at h;split at h
      .obtain⟨v,j,h⟩:=qS h
       exact⟨v,λw' hc=>by rw[z,Cc m hd (hc.cell cv j)],h⟩
      .exact h.elim
   obtain⟨v,j,g⟩:=key;exact⟨v,λw' hc=>by simp[execOp,b,av.ev hx,j w' (hc (by unfold kx;rw[b]))],g⟩
  .exact h.elim
 case h_3 op T x y L b=>
  split at h
  .rename_i l D hx G
   by_cases q:qZ y D=true
   .rw[q]at h
    simp only[cond_true]at h;have H:D=.nilIface->∃c,y=.const c:=by
     intro j;subst j
     cases y<;>simp[qZ]at q⊢
    rcases Ci (jG:=x) (qY:=y) H h with hg|⟨v,j,g⟩
    .exact bg (vv av hg)
    .exact⟨v,λw' _=>by
      simp only[execOp,b,av.ev hx,av.ev G];have E:=j w';simp only[Sem.run_bind]at E⊢;rw[E];rfl,g⟩
   .simp only[fG]at q;rw[q]at h;exact h.elim
  .exact h.elim
 case h_4 T x i b=>
  split at h
  .rename_i l I hx hi
   obtain⟨v,j,g⟩:=Ck h;exact⟨v,λw' _=>by simp[execOp,b,av.ev hx,av.ev hi,j],g⟩
  .exact h.elim
 case h_5 T x i b=>
  split at h
  .rename_i l I hx hi
   obtain⟨v,j,g⟩:=Cm h;exact⟨v,λw' _=>by simp[execOp,b,av.ev hx,av.ev hi,j],g⟩
  .exact h.elim
 case h_6 T x i b=>
  split at h
  .rename_i l hx
   obtain⟨v,j,g⟩:=Cn h;exact⟨v,λw' _=>by simp[execOp,b,av.ev hx,j],g⟩
  .exact h.elim
 case h_7 T x i b=>
  split at h
  .rename_i l hx
   unfold CC at h;split at h
   .rename_i fs m
    split at h
    .rename_i f hf
     split at h
     .rename_i A
      split at h
      .rename_i d hd
       cases u:Nat.beq (P.cellsOf f.type) 0 with
       |true=>rw[u]at h;exact h.elim
       |false=>
        rw[u]at h;have J:¬P.cellsOf f.type=0:=λh0=>by rw[h0]at u;cases u
        exact⟨_,λw' _=>by simp[execOp,b,av.ev hx,Instr.fieldAt,di m,hf,Instr.sureAddr,fieldPlace,iA hd,J],h⟩
      .exact h.elim
     .exact h.elim
    .exact h.elim
   .exact h.elim
  .exact h.elim
 case h_8 x i b=>
  split at h
  .rename_i l hx
   unfold CD at h;split at h
   .rename_i vs
    split at h
    .rename_i v j
     exact⟨v,λw' _=>by simp[execOp,b,av.ev hx,Instr.extract,j],h⟩
    .exact h.elim
   .exact h.elim
  .exact h.elim
 case h_9 T x lo hi M b=>
  by_cases k:known e o.op.operands=true
  .rw[k]at h
   simp only[cond_true]at h;have hc:=lz av (by rw[b];rfl) k;obtain⟨v,j,g⟩:=Co h;exact⟨v,λw' _=>by rw[hc];simp[execOp,b,j],g⟩
  .simp only[fG]at k;rw[k]at h;exact h.elim
 case h_10 s d x b=>
  split at h
  .exact bg (vv av h)
  .rename_i v _ hx
   obtain⟨r,B,g⟩:=jn h;exact⟨r,λw' hc=>by simp[execOp,b,av.ev hx,B w' (hc (by unfold kx;rw[b]))],g⟩
  .exact h.elim
 case h_11 t ps b=>
  by_cases k:known e o.op.operands=true
  .rw[k]at h
   simp only[cond_true]at h;have hc:=lz av (by rw[b];rfl) k;obtain⟨cs,B,g⟩:=h;exact⟨_,λw' _=>by rw[hc];simp[execOp,b];rw[B];rfl,g⟩
  .simp only[fG]at k;rw[k]at h;exact h.elim
 case h_12=>exact bg (vv av h)
 case h_13=>exact bg (vv av h)
 case h_14=>exact bg (zk av h)
 case h_15=>exact bg (zk av h)
 case h_16=>exact bg (zk av h)
 case h_17 T x b=>
  split at h
  .rename_i l hx
   obtain⟨v,j,g⟩:=Cj h;exact⟨v,λw' _=>by simp[execOp,b,av.ev hx,j],g⟩
  .exact h.elim
 case h_18=>exact h.elim
end
inductive aN where
 |take (i:Nat) (t:aN)
 |bR (i:Nat) (t:aN)
 |out (i:Nat) (b:ao) (t:aN)
 |two (i:Nat) (t:aN) (j:Nat) (u:aN)
 |three (i:Nat) (t:aN) (j:Nat) (u:aN) (k:Nat) (v:aN)
 |sp (s:Nat) (t u:aN)
 |fin
 |tail (as:O lA)
def i_:O Nat->Nat
 | []=>0
 |d::l=>2^d|||i_ l
theorem ng:∀ (l:O Nat) (k:Nat),(i_ l).testBit k=decide (k∈l)
 | [],k=>by simp[i_]
 |d::l,k=>by
  simp only[i_,nW,ng l k,sK]
  by_cases h:d=k
  .subst h;simp
  .have:¬k=d:=λa=>h a.symm
   simp[h,this]
def oc(o:Oper):O Nat:=(o.after.toList.filter λe=>Region.binds .any e).map (·.on)
structure lB where
 M:O Nat
 A:O Nat
def lC(l:O Nat)(i:Nat):Nat:=l.getD i 0
def lD(cj:lB)(m i:Nat):ao:= !(m.testBit i)&&Nat.beq (lC cj.M i&&&m) (lC cj.M i)
def CE(cj:lB)(N m i:Nat):ao:=Nat.beq (lC cj.A i&&&((2^N-1)^^^m)) 0
def lZ(cj:lB)(m:Nat)(is:O Nat):Nat->ao
 |0=>true
 |k+1=>(is.any (Nat.beq k)|| !(lD cj m k))&&lZ cj m is k
def s5(cj:lB):Nat->O Oper->ao
 |_,[]=>true
 |i,o::l=>Nat.beq (i_ (oc o)) (lC cj.M i)&&s5 cj (i+1) l
def s6(M:O Nat)(a i b c:Nat):Nat->O Nat->O Nat->O Nat->ao
 |j,e::f,d::g,h::k=>(a.testBit j||(Nat.beq i j||(e.testBit i||(Nat.beq (b&&&(h|||d)) 0&&Nat.beq (d&&&c) 0))))&&s6 M a i b c (j+1) f g k
 |_,_,_,_=>true
def vw(cj:lB)(D K:O Nat):Nat->O Nat->O Nat->ao
 |i,d::a,k::b=>s6 cj.M (lC cj.A i) i d k 0 cj.M D K&&vw cj D K (i+1) a b
 |_,_,_=>true
def CF(ops:O Oper):O Nat:=ops.map λo=>i_ o.dst.toList
def CG(a:Array Oper)(ops:O Oper):O Nat:=ops.map λo=>i_ (o.looksAt a)
def s7:O Nat->O Nat->ao
 | [],[]=>true
 |a::l,b::r=>Nat.beq a b&&s7 l r
 |_,_=>false
theorem zl:∀ {l r:O Nat},s7 l r=true->l=r
 | [],[],_=>rfl
 |a::l,b::r,h=>by
  simp only[s7,dg]at h
  rw[jm h.1,zl h.2]
def mB(cj:lB)(D K:O Nat)(a:Array Oper):ao:=
 Nat.beq cj.M.length a.size&&(s5 cj 0 a.toList&&(s7 (CF a.toList) D&&(s7 (CG a a.toList) K&&vw cj D K 0 D K)))
def s8(cj:lB):Nat->Nat->Nat->Nat->ao
 |0,_,N,m=>lZ cj m [] N
 |g+1,k,N,m=>(lD cj m k&&lZ cj m [k] N)&&s8 cj g (k+1) N (m|||2^k)
def en(P:Program)(tk:TypeId->ei)(ops:Array Oper)(n:Nat)(cj:lB)(W:U1):aN->Nat->Nat->(Env->U2)->Env->U2
 | .take i t,f+1,m,K,e,w=>
  bif lD cj m i&&(CE cj ops.size m i&&Nat.blt i n) then
   match ops[i]? with
   |some o=>hZ ops o e (zj P tk W w o (λv=>en P tk ops n cj W t f (m|||2^i) K (dC o.dst v e) w) e) (en P tk ops n cj W t f (m|||2^i) K (dC o.dst undef e) w)
   |none=>False
  else False
 | .bR i t,f+1,m,K,e,w=>
  bif (lD cj m i&&lZ cj m [i] ops.size)&&Nat.blt i n then
   match ops[i]? with
   |some o=>hZ ops o e (ku P tk o (λv w'=>ag W w w'/\en P tk ops n cj W t f (m|||2^i) K (dC o.dst v e) w') e w) (en P tk ops n cj W t f (m|||2^i) K (dC o.dst undef e) w)
   |none=>False
  else False
 | .out i b t,f+1,m,K,e,w=>
  bif (lD cj m i&&lZ cj m [i] ops.size)&&(Nat.blt i n&&Nat.beq ((lY 0 ops.toList&&&m)&&&lC cj.M i) (lY 0 ops.toList&&&m)) then
   match ops[i]? with
   |some o=>hZ ops o e (ku P tk o (λv w'=>bif b then ∃V:U1,en P tk ops n cj V t f (m|||2^i) K (dC o.dst v e) w' else en P tk ops n cj W t f (m|||2^i) K (dC o.dst v e) w') e w) (en P tk ops n cj W t f (m|||2^i) K (dC o.dst undef e) w)
   |none=>False
  else False
 | .two i t j u,f+1,m,K,e,w=>
  bif (lD cj m i&&lZ cj m [i,j] ops.size)&&(Nat.blt i n&&Nat.blt j n) then
   match ops[i]?,ops[j]? with
   |some o,some q=>
    hZ ops o e (ku P tk o (λv w'=>ag W w w'/\en P tk ops n cj W t f (m|||2^i) K (dC o.dst v e) w') e w) (en P tk ops n cj W t f (m|||2^i) K (dC o.dst undef e) w)/\
    hZ ops q e (ku P tk q (λv w'=>ag W w w'/\en P tk ops n cj W u f (m|||2^j) K (dC q.dst v e) w') e w) (en P tk ops n cj W u f (m|||2^j) K (dC q.dst undef e) w)
   |_,_=>False
  else False
 | .three i t j u k x,f+1,m,K,e,w=>
  bif (lD cj m i&&lZ cj m [i,j,k] ops.size)&&(Nat.blt i n&&(Nat.blt j n&&Nat.blt k n)) then
   match ops[i]?,ops[j]?,ops[k]? with
   |some o,some q,some r=>
    hZ ops o e (ku P tk o (λv w'=>ag W w w'/\en P tk ops n cj W t f (m|||2^i) K (dC o.dst v e) w') e w) (en P tk ops n cj W t f (m|||2^i) K (dC o.dst undef e) w)/\
    hZ ops q e (ku P tk q (λv w'=>ag W w w'/\en P tk ops n cj W u f (m|||2^j) K (dC q.dst v e) w') e w) (en P tk ops n cj W u f (m|||2^j) K (dC q.dst undef e) w)/\
    hZ ops r e (ku P tk r (λv w'=>ag W w w'/\en P tk ops n cj W x f (m|||2^k) K (dC r.dst v e) w') e w) (en P tk ops n cj W x f (m|||2^k) K (dC r.dst undef e) w)
   |_,_,_=>False
  else False
 | .sp s t u,f,m,K,e,w=>
  match e.get s with
  |some (.bool c)=>(c=true->en P tk ops n cj W t f m K ((s,.bool true)::e) w)/\(c=false->en P tk ops n cj W u f m K ((s,.bool false)::e) w)
  |_=>False
 | .fin,0,m,K,e,w=>bif lZ cj m [] ops.size&&Nat.beq n ops.size then K e w else False
 | .tail as,0,m,K,e,w=>bif s8 cj (ops.size-n) n ops.size m&&Nat.blt n ops.size then gj P tk ops (ops.size-n+1) (ops.toList.drop n) as K e w else False
 |_,_,_,_,_,_=>False
def eT(N m:Nat):Array ao:=(Array.range N).map λi=>m.testBit i
theorem q1{N m i:Nat}{d:ao}(h:i<N):(eT N m).getD i d=m.testBit i:=by
 simp[eT,h]
theorem He{N m i:Nat}{d:ao}(h:N<=i):(eT N m).getD i d=d:=by
 simp[eT,h]
theorem vx(N m i:Nat):(eT N m).setIfInBounds i true=eT N (m|||2^i):=by
 apply Array.ext
 .simp[eT]
 .intro j h1 h2
  have b:j<N:=by simpa[eT] using h2
  have c:j<(eT N m).size:=by simpa[eT] using b
  rw[Array.getElem_setIfInBounds c];simp only[eT,Array.getElem_map,Array.getElem_range,nW,sK];by_cases a:i=j
  .subst a;simp
  .simp[a]
theorem CH(N:Nat):eT N 0=Array.replicate N false:=by
 apply Array.ext
 .simp[eT]
 .intro j h1 h2
  simp[eT]
section
variable {ops:Array Oper}{cj:lB}{D K:O Nat}
theorem CI:∀ (l:O Oper) (i k:Nat) (o:Oper),s5 cj i l=true->l[k]? =some o->lC cj.M (i+k)=i_ (oc o)
 | [],_,_,_,_,h=>by simp at h
 |p::l,i,0,o,hc,h=>by
  simp only[s5,dg]at hc
  simp only[nX,Option.some.injEq]at h
  subst h
  exact(jm hc.1).symm
 |p::l,i,k+1,o,hc,h=>by
  simp only[s5,dg]at hc
  have:=CI l (i+1) k o hc.2 (by simpa using h)
  rw[show i+(k+1)=i+1+k from I]
  exact this
theorem vy(h:mB cj D K ops=true){i:Nat}{o:Oper}(a:ops[i]? =some o):lC cj.M i=i_ (oc o):=by
 simp only[mB,dg]at h;have:=CI ops.toList 0 i o h.2.1 (by simpa using a);simpa using this
theorem CJ{a b:Nat}(h:a&&&b=a){k:Nat}(c:a.testBit k=true):b.testBit k=true:=by
 have:=congrArg (λx=>x.testBit k) h;simp only[Nat.testBit_and,c,hX]at this;exact this
theorem CK:∀ (l:O Oper) (i k:Nat) (o:Oper),l[k]? =some o->(lY i l).testBit (i+k)=kx o
 | [],_,_,_,h=>by simp at h
 |p::l,i,0,o,h=>by
  simp only[nX,Option.some.injEq]at h
  subst h
  have low:∀ (l:O Oper) (i k:Nat),k<i->(lY i l).testBit k=false:=by
   intro l
   induction l with
   |nil=>intro i k _;simp[lY]
   |cons q l a=>
    intro i k b;simp only[lY]
    cases kx q
    .exact a (i+1) k I
    .simp only[cond_true,nW,sK,a (i+1) k I,Bool.or_false,ko]
     omega
  simp only[lY,lU]
  cases kx p
  .exact low l (i+1) i I
  .simp[nW]
 |p::l,i,k+1,o,h=>by
  have:=CK l (i+1) k o (by simpa using h);rw[show i+1+k=i+(k+1) from I]at this;simp only[lY]
  cases kx p
  .exact this
  .simp only[cond_true,nW,sK,this]
   simp
theorem vz{o:Oper}{k:Nat}:k∈oc o↔∃e∈o.after,Region.binds .any e=true/\e.on=k:=by
 simp only[oc,eJ,gw,Array.mem_toList_iff];constructor
 .rintro⟨e,⟨h1,h2⟩,a⟩;exact⟨e,h1,h2,a⟩
 .rintro⟨e,h1,h2,a⟩;exact⟨e,⟨h1,h2⟩,a⟩
def Small(N m:Nat):Prop:=∀k,N<=k->m.testBit k=false
theorem Hf(N:Nat):Small N 0:=λk _=>by simp
theorem vA{N m i:Nat}(h:Small N m)(hi:i<N):Small N (m|||2^i):=λk a=>by
 simp only[nW,h k a,sK,jR,ko]
 omega
theorem vB(hc:mB cj D K ops=true){m i:Nat}(f:Small ops.size m):i∈Region.ready .any ops (eT ops.size m)↔i<ops.size/\lD cj m i=true:=by
 rw[mem_ready];constructor
 .rintro⟨h1,o,a,g⟩
  have hi:i<ops.size:=(mn.1 a).1;refine⟨hi,?_⟩;rw[q1 hi]at h1;simp only[lD,h1,Bool.not_false,hX];rw[vy hc a];have:i_ (oc o)&&&m=i_ (oc o):=by
   apply Nat.eq_of_testBit_eq;intro k;simp only[Nat.testBit_and,ng];by_cases b:k∈oc o
   .obtain⟨e,he,c,j⟩:=vz.1 b
    have h2:=g e he c;rw[j]at h2;rcases dV k ops.size with aI|l
    .rw[q1 aI]at h2;simp[b,h2]
    .rw[He l]at h2;cases h2
   .simp[b]
  rw[this];exact Nat.beq_refl _
 .rintro⟨hi,h⟩
  simp only[lD,dg,jD]at h;have a:ops[i]? =some ops[i]:=by simp[hi]
  refine⟨by rw[q1 hi];exact h.1,ops[i],a,λe he c=>?_⟩;have h2:=jm h.2;rw[vy hc a]at h2;have d:m.testBit e.on=true:=CJ h2 (by
   rw[ng];simp only[b8];exact vz.2 ⟨e,he,c,rfl⟩)
  have aI:e.on<ops.size:=by
   rcases dV e.on ops.size with h|h
   .exact h
   .rw[f _ h]at d;cases d
  rw[q1 aI];exact d
theorem CL:∀ (N:Nat) {m:Nat}{is:O Nat},lZ cj m is N=true->∀k,k<N->lD cj m k=true->k∈is
 |0,_,_,_,k,b,_=>by omega
 |N+1,m,is,h,k,b,a=>by
  simp only[lZ,dg,jE,jD]at h
  rcases dV k N with h1|h1
  .exact CL N h.2 k h1 a
  .have:k=N:=I
   subst this
   obtain h2|h2:=h.1
   .obtain⟨x,hx,c⟩:=List.any_eq_true.1 h2
    rw[jm c];exact hx
   .rw[a]at h2;cases h2
theorem pw(hc:mB cj D K ops=true){m:Nat}{is:O Nat}(a:Small ops.size m)(h:lZ cj m is ops.size=true):
 ∀k∈Region.ready .any ops (eT ops.size m),k∈is:=λk b=>
 let ⟨h1,h2⟩:=(vB hc a).1 b
 CL _ h k h1 h2
theorem CM:∀ (b c d:O Nat) (n:O Nat) (e i f g j k:Nat) (l a m:Nat),s6 n e i f g j b c d=true->b[k]? =some l->c[k]? =some a->d[k]? =some m->
 e.testBit (j+k)=true\/i=j+k\/l.testBit i=true\/(f&&&(m|||a)=0/\a&&&g=0)
 | [],_,_,_,_,_,_,_,_,_,_,_,_,_,h,_,_=>by simp at h
 |_::_,[],_,_,_,_,_,_,_,_,_,_,_,_,_,h,_=>by simp at h
 |_::_,_::_,[],_,_,_,_,_,_,_,_,_,_,_,_,_,h=>by simp at h
 |p::b,q::c,r::d,n,e,i,f,g,j,k,l,a,m,hc,h1,h2,o=>by
  simp only[s6,dg,jE]at hc
  cases k with
  |zero=>
   simp only[nX,Option.some.injEq]at h1 h2 o
   subst h1 h2 o
   obtain h|h|h|h:=hc.1
   .exact .inl h
   .exact .inr (.inl (jm h))
   .exact .inr (.inr (.inl h))
   .exact .inr (.inr (.inr ⟨jm h.1,jm h.2⟩))
  |succ k=>
   have:=CM b c d n e i f g (j+1) k l a m hc.2 (by simpa using h1) (by simpa using h2) (by simpa using o)
   rw[show j+(k+1)=j+1+k from I]
   exact this
theorem CN:∀ (a b:O Nat) (i k:Nat) (c e:Nat),vw cj D K i a b=true->a[k]? =some c->b[k]? =some e->
 s6 cj.M (lC cj.A (i+k)) (i+k) c e 0 cj.M D K=true
 | [],_,_,_,_,_,_,h,_=>by simp at h
 |_::_,[],_,_,_,_,_,_,h=>by simp at h
 |d::a,f::b,i,k,c,e,hc,h1,h2=>by
  simp only[vw,dg]at hc
  cases k with
  |zero=>
   simp only[nX,Option.some.injEq]at h1 h2
   subst h1 h2
   exact hc.1
  |succ k=>
   have:=CN a b (i+1) k c e hc.2 (by simpa using h1) (by simpa using h2)
   rw[show i+(k+1)=i+1+k from I]
   exact this
theorem zm{a b:Nat}(h:a&&&b=0){k:Nat}(c:a.testBit k=true):b.testBit k=false:=by
 have:=congrArg (λx=>x.testBit k) h;simp only[Nat.testBit_and,c,hX,Nat.zero_testBit]at this;exact this
theorem Hg{x y:Oper}(h1:i_ x.dst.toList&&&(i_ (y.looksAt ops)|||i_ y.dst.toList)=0)(h2:i_ y.dst.toList&&&i_ (x.looksAt ops)=0):
 x.apart ops y=true:=by
 unfold Oper.apart;simp only[dg];refine⟨?_,?_⟩
 .cases hx:x.dst with
  |none=>rfl
  |some d=>
   rw[hx]at h1;have a:=zm h1 (k:=d) (by rw[ng];simp);simp only[nW,ng,qH,ko]at a;simp only[dg,jD,bne_iff_ne,ne_eq];refine⟨by simpa using a.1,λh=>?_⟩;rw[h]at a;simp at a
 .cases b:y.dst with
  |none=>rfl
  |some d=>
   rw[b]at h2;have a:=zm h2 (k:=d) (by rw[ng];simp);simp only[ng,ko]at a;simpa using a
theorem Hh(hc:mB cj D K ops=true){m i:Nat}{d:Oper}(hi:ops[i]? =some d)(h:CE cj ops.size m i=true):
 ∀j a,ops[j]? =some a->j≠i->(eT ops.size m).getD j true=false->(∀e∈a.after,Region.binds .any e=true->e.on≠i)->d.apart ops a=true:=by
 intro j a b p f q;have r:=hc;simp only[mB,dg]at hc;obtain⟨hlen,B,s,t,av⟩:=hc;have C:=jm hlen;have u:=zl s;have v:=zl t;have g:j<ops.size:=(mn.1 b).1;have l:∀ {k:Nat}{o:Oper},ops[k]? =some o->D[k]? =some (i_ o.dst.toList):=λ{k o} c=>by
  rw[←u];simp[CF,c]
 have n:∀ {k:Nat}{o:Oper},ops[k]? =some o->K[k]? =some (i_ (o.looksAt ops)):=λ{k o} c=>by
  rw[←v];simp[CG,c]
 have w:=CN D K 0 i _ _ av (l hi) (n hi);have x:cj.M[j]? =some (lC cj.M j):=by
  unfold lC;have:j<cj.M.length:=I
  simp[List.getD,this]
 have:=CM cj.M D K cj.M _ _ _ _ 0 j _ _ _ w x (l b) (n b);simp only[cA]at this;obtain h1|h1|h1|h1:=this
 .exfalso
  have h2:=jm h;have y:=zm h2 h1;rw[q1 g]at f;simp[Nat.testBit_xor,Nat.testBit_two_pow_sub_one,g,f]at y
 .exact absurd h1.symm p
 .exfalso
  rw[vy r b,ng]at h1;simp only[b8]at h1;obtain⟨e,he,z,A⟩:=vz.1 h1;exact q e he z A
 .exact Hg h1.1 h1.2
end
def px(ops:Array Oper)(listed:Array ao)(j:Nat):Prop:=
 ∀k ok a,ops[k]? =some ok->ops[j]? =some a->kx ok=true->listed.getD k false=true->∃e∈a.after,Region.binds .any e=true/\e.on=k
def mC(P:Program)(ops:Array Oper)(Q:Exit->Act->U2)(n:Nat)(L:Array ao->Act->U2):Nat->(U2)->Array ao->Act->U2
 |0,_,listed,a,w=>L listed a w
 |f+1,S,listed,a,w=>Region.ready .any ops listed≠ []/\
  ∀i∈Region.ready .any ops listed,i<n/\wpOp P ops Q i (λb w'=>∃aE:U2,((∀x,aE x->S x)\/px ops listed i)/\aE w'/\mC P ops Q n L f aE (listed.setIfInBounds i true) b w') a w
def s9(ops:Array Oper)(n:Nat):Prop:=
 ∀listed,HeadInv .any ops n listed->∀i,i<n->listed.getD i true=false->∀t,n<=t->t∉Region.ready .any ops listed
theorem Hi(ops:Array Oper):s9 ops ops.size:=by
 intro listed _ i _ _ t ht a;obtain⟨_,o,b,_⟩:=mem_ready.1 a;have:=(mn.1 b).1;omega
theorem Hj{ops:Array Oper}{n:Nat}(hs:Region.sinkB .any ops n=true)(hc:Region.chainB .any ops n=true)(a:n<ops.size):s9 ops n:=
 λ_ inv i hi b t ht=>tail_waits hs hc a inv _ i rfl hi b t ht
section
variable {P:Program}{ops:Array Oper}{Q:Exit->Act->U2}{n:Nat}{L:Array ao->Act->U2}
theorem YieldsIf.mono{S aE:U2}{o:Oper}{v:aa}{a:Act}(h:YieldsIf P ops S o v a)(hs:∀x,aE x->S x):YieldsIf P ops aE o v a:=
 h.imp (λ⟨h1,h2⟩=>⟨h1,λw b=>h2 w (hs w b)⟩) id
theorem Hk(E:s9 ops n){i:Nat}{l:Oper}{v:aa}(hi:ops[i]? =some l)(F:∀ (j:Nat) (o:Oper) cs b,ops[j]? =some o->o.op≠ .select cs b)
 (ac:∀c a w,Q (.panic c) (a.put l.dst v) w->Q (.panic c) a w) (G:i<n) (ad:∀listed a w,L listed a w->∀j∈Region.ready .any ops listed,n<=j):
 ∀ (f:Nat) (S T:U2) (listed:Array ao) (a:Act) (w:J),(∀x,S x->T x)->(kx l=true\/∀x,T x)->HeadInv .any ops n listed->
  (∀j q,ops[j]? =some q->j≠i->listed.getD j true=false->(∀e∈q.after,Region.binds .any e=true->e.on≠i)->l.apart ops q=true)->
  i∈Region.ready .any ops listed->YieldsIf P ops T l v a->S w->
  mC P ops Q n L f S (listed.setIfInBounds i true) (a.put l.dst v) w->mC P ops Q n L (f+1) S listed a w:=by
 intro f
 induction f with
 |zero=>
  intro S T listed a w u I inv _ m y s H;have d:=(mem_ready.1 m).1;refine⟨λh=>(by rw[h]at m;cases m),λj r=>?_⟩;have t:j<n:=by
   rcases dV j n with h|h
   .exact h
   .exact absurd r (E listed inv i G d j h)
  refine⟨t,?_⟩;by_cases p:j=i
  .subst p;exact(YieldsIf.mono y u).wpOp hi s ⟨S,.inl λ_ h=>h,s,H⟩
  .have:=ad _ _ _ H j (ready_mono r p)
   omega
 |succ f K=>
  intro S T listed a w u I inv M m y s H;have d:=(mem_ready.1 m).1;refine⟨λh=>(by rw[h]at m;cases m),λj r=>?_⟩;have t:j<n:=by
   rcases dV j n with h|h
   .exact h
   .exact absurd r (E listed inv i G d j h)
  refine⟨t,?_⟩;by_cases p:j=i
  .subst p;exact(YieldsIf.mono y u).wpOp hi s ⟨S,.inl λ_ h=>h,s,H⟩
  .have h1:=(H.2 j (ready_mono r p)).2
   obtain⟨N,q,z,ae⟩:=mem_ready.1 r;have O:∀e∈q.after,Region.binds .any e=true->e.on≠i:=λe he B af=>by
    have h1:=ae e he B;rw[af,getD_both d]at h1
    cases h1
   have h2:=wpOp_putIf z (M j q z p N O) (λcs b=>F i l cs b hi) (λcs b=>F j q cs b z) ac y h1;have R:∀k ok,ops[k]? =some ok->k≠i->(listed.setIfInBounds j true).getD k true=false->
    (∀e∈ok.after,Region.binds .any e=true->e.on≠i)->l.apart ops ok=true:=λk ok C ag d ah=>by
    refine M k ok C ag ?_ ah;by_cases U:j=k
    .subst U;exact N
    .rw[getD_set_ne true U]at d;exact d
   refine wpOp_mono (λV w' ai=>?_) h2;obtain⟨W,aE,X,A,aj⟩:=ai;have D:=aj;rw[←Array.setIfInBounds_comm _ _ p]at D;have ak:px ops (listed.setIfInBounds i true) j->px ops listed j:=λal k ok am C an hs g=>al k ok am C an hs (by
    by_cases Y:i=k
    .subst Y
     have:listed.getD i true=true:=by
      simp only[Array.getD]at g⊢;split at g
      .rename_i aI;simp[aI]at g⊢;exact g
      .cases g
     rw[this]at d;cases d
    .simp only[Array.getD,Array.size_setIfInBounds]at g⊢
     split at g
     .rename_i aI
      simp only[aI,dif_pos];simp only[Array.getInternal_eq_getElem]at g⊢;rw[Array.getElem_setIfInBounds_ne _ Y];exact g
     .cases g)
   obtain hs|Z:=I
   .have ab:∀x,aE x->S x:=by
     obtain h|h:=X
     .exact h
     .exfalso
      obtain⟨e,he,B,ap⟩:=h i l q hi z hs (by
       have aI:i<listed.size:=by
        rcases dV i listed.size with h|h
        .exact h
        .simp[Array.getD,Nat.not_lt.2 h]at d
       simp[Array.getD,aI])
      exact O e he B ap
    exact⟨aE,.inl ab,A,K aE T (listed.setIfInBounds j true) V w' (λx hx=>u x (ab x hx)) (.inl hs) (inv.set r t) R (ready_mono m (Ne.symm p)) W A D⟩
   .exact⟨aE,X.imp id ak,A,K aE T (listed.setIfInBounds j true) V w' (λx _=>Z x) (.inr Z) (inv.set r t) R (ready_mono m (Ne.symm p)) W A D⟩
theorem CO{g:Nat}(b:∀listed a w,L listed a w->wpAny P .any ops Q g listed a w):
 ∀ (f:Nat) (S:U2) (listed:Array ao) (a:Act) (w:J),mC P ops Q n L f S listed a w->wpAny P .any ops Q (f+g) listed a w
 |0,_,listed,a,w,h=>by rw[cA];exact b _ _ _ h
 |f+1,S,listed,a,w,h=>by
  rw[show f+1+g=(f+g)+1 from I]
  exact⟨λh0=>absurd h0 h.1,λi hi=>wpOp_mono (λc w' ⟨aE,_,_,d⟩=>CO b f aE _ c w' d) (h.2 i hi).2⟩
def LE(P:Program)(ops:Array Oper)(Q:Exit->Act->U2)(n:Nat)(listed:Array ao)(a:Act)(w:J):Prop:=
 (Region.ready .any ops listed=[]/\n=ops.size/\Q .normal a w)\/
 (Region.seqB .any ops (ops.size-n) n listed=true/\n<ops.size/\wpList P ops Q (ops.toList.drop n) a w)
theorem Hl:∀listed a w,LE P ops Q n listed a w->∀j∈Region.ready .any ops listed,n<=j:=by
 rintro listed a w (⟨h,_,_⟩|⟨h,c,_⟩) j b
 .rw[h]at b;cases b
 .exact seqB_ready h j b
theorem Hm:∀listed a w,LE P ops Q n listed a w->wpAny P .any ops Q (ops.size-n) listed a w:=by
 rintro listed a w (⟨h,c,b⟩|⟨h,c,b⟩)
 .subst c
  rw[o5];exact⟨h,b⟩
 .have:=wpAny_of_seq (md:=.any) (P:=P) (Q':=Q) (ops.toList.drop n) n listed a w (λj=>by simp[uT]) (by simpa using h) b
  simpa using this
end
section
variable {P:Program}{tk:TypeId->ei}{ops:Array Oper}{n:Nat}{cj:lB}{D0 eD:O Nat}{W:U1}
theorem CP(hc:mB cj D0 eD ops=true):∀ (g k m:Nat),Small ops.size m->k+g=ops.size->s8 cj g k ops.size m=true->Region.seqB .any ops g k (eT ops.size m)=true
 |0,k,m,c,e,h=>by
  simp only[s8]at h
  simp only[Region.seqB,List.isEmpty_iff]
  cases f:Region.ready .any ops (eT ops.size m) with
  |nil=>rfl
  |cons x l=>
   have:=pw hc c h x (by rw[f];simp)
   cases this
 |g+1,k,m,c,e,h=>by
  simp only[s8,dg]at h
  simp only[Region.seqB,dg,b8]
  have d:k<ops.size:=I
  have b:k∈Region.ready .any ops (eT ops.size m):=(vB hc c).2 ⟨d,h.1.1⟩
  refine⟨?_,?_⟩
  .have a:=pw hc c h.1.2
   have dd:(Region.ready .any ops (eT ops.size m)).Nodup:=by
    unfold Region.ready;exact List.Pairwise.filter _ List.nodup_range
   revert b a dd
   generalize Region.ready .any ops (eT ops.size m)=l;intro b a dd
   match l,b,a,dd with
   | [],b,_,_=>cases b
   | [x],b,a,_=>rw[e8.1 (a x U9)]
   |x::y::l,_,a,dd=>
    have hx:=e8.1 (a x U9);have i:=e8.1 (a y U9);simp[hx,i]at dd
  .rw[vx]
   exact CP hc g (k+1) (m|||2^k) (vA c d) I h.2
theorem Hn(hc:mB cj D0 eD ops=true)(al:s9 ops n)(aG:n<=ops.size)(am:Region.noSelect ops=true){a0:Act}(ac:∀d∈b3 ops.toList,d<a0.tmps.size):
 ∀ (t:aN) (W:U1) (f:Nat) (m:Nat) (K:Env->U2) (e:Env) (a:Act) (w:J),dG e a->ew (b3 ops.toList) a0 a->Small ops.size m->HeadInv .any ops n (eT ops.size m)->
  en P tk ops n cj W t f m K e w->mC P ops (g7 a0 (b3 ops.toList) K) n (LE P ops (g7 a0 (b3 ops.toList) K) n) f (ag W w) (eT ops.size m) a w:=by
 intro t;have O:∀ (i:Nat) (o:Oper),ops[i]? =some o->∀k,o.dst=some k->k∈b3 ops.toList:=by
  intro i o z k g;simp only[b3,List.mem_filterMap];exact⟨o,by simpa using Array.mem_of_getElem? z,g⟩
 have Q:∀ (W:U1) (t:aN),(∀ (W:U1) (f:Nat) (m:Nat) (K:Env->U2) (e:Env) (a:Act) (w:J),dG e a->ew (b3 ops.toList) a0 a->Small ops.size m->HeadInv .any ops n (eT ops.size m)->
  en P tk ops n cj W t f m K e w->mC P ops (g7 a0 (b3 ops.toList) K) n (LE P ops (g7 a0 (b3 ops.toList) K) n) f (ag W w) (eT ops.size m) a w)->
  ∀ (f:Nat) (m:Nat) (K:Env->U2) (e:Env) (a:Act) (w:J) (i:Nat) (o:Oper),dG e a->ew (b3 ops.toList) a0 a->Small ops.size m->HeadInv .any ops n (eT ops.size m)->
  i∈Region.ready .any ops (eT ops.size m)->i<n->ops[i]? =some o->
  hZ ops o e (ku P tk o (λv w'=>ag W w w'/\en P tk ops n cj W t f (m|||2^i) K (dC o.dst v e) w') e w) (en P tk ops n cj W t f (m|||2^i) K (dC o.dst undef e) w)->
  wpOp P ops (g7 a0 (b3 ops.toList) K) i (λai w'=>∃aE:U2,((∀x,aE x->ag W w x)\/px ops (eT ops.size m) i)/\aE w'/\mC P ops (g7 a0 (b3 ops.toList) K) n (LE P ops (g7 a0 (b3 ops.toList) K) n) f aE ((eT ops.size m).setIfInBounds i true) ai w') a w:=by
  intro W t N f m K e a w i o av g p inv R H z h;have next:∀ (v:aa) (w':J),ag W w w'->en P tk ops n cj W t f (m|||2^i) K (dC o.dst v e) w'->
   ∃aE:U2,((∀x,aE x->ag W w x)\/px ops (eT ops.size m) i)/\aE w'/\mC P ops (g7 a0 (b3 ops.toList) K) n (LE P ops (g7 a0 (b3 ops.toList) K) n) f aE ((eT ops.size m).setIfInBounds i true) (a.put o.dst v) w':=by
   intro v w' an h;have A:ew (b3 ops.toList) a (a.put o.dst v):=ew.put (O i o z);have hinv:=inv.set R H;rw[vx]at hinv⊢;exact⟨ag W w',.inl λx hx=>an.trans hx,.refl _ _,N W f _ K _ _ w' (av.put λk T=>by rw[g.size];exact ac k (O i o z k T)) (g.trans A) (vA p I) hinv h⟩
  unfold wpOp;simp only[z];rcases s3 av h with ⟨F,G⟩|⟨F,G⟩
  .simp only[F,if_true]
   exact .inl ((vr av G).wp λv w' ⟨h1,h2⟩=>next v w' h1 h2)
  .simp only[F,gv,if_false]
   exact next _ _ (.refl _ _) G
 have ad:∀ {b c d:ao}{X:Prop},(bif b&&(c&&d) then X else False)->b=true/\c=true/\d=true/\X:=by
  intro b c d X h
  cases b<;>cases c<;>cases d<;>first|exact h.elim|exact⟨rfl,rfl,rfl,h⟩
 have af:∀ {b c:ao}{X:Prop},(bif b&&c then X else False)->b=true/\c=true/\X:=by
  intro b c X h
  cases b<;>cases c<;>first|exact h.elim|exact⟨rfl,rfl,h⟩
 have B:∀ {i j:Nat},Nat.blt i j=true->i<j:=λh=>by
  have:=nY h;omega
 have ne_nil:∀ {m i:Nat},Small ops.size m->lD cj m i=true->i<ops.size->Region.ready .any ops (eT ops.size m)≠ []:=λp h hi h0=>by
  have:=(vB hc p).2 ⟨hi,h⟩;rw[h0]at this;cases this
 induction t with
 |take i t N=>
  intro W f m K e a w av g p inv h
  cases f with
  |zero=>simp[en]at h
  |succ f=>
   simp only[en]at h;obtain⟨h1,h2,D,h⟩:=ad h;have H:=B D;have R:i∈Region.ready .any ops (eT ops.size m):=(vB hc p).2 ⟨I,h1⟩;split at h
   .rename_i o z
    have fin:∀v,YieldsIf P ops (λx=>kx o=true->ag W w x) o v a->en P tk ops n cj W t f (m|||2^i) K (dC o.dst v e) w->
     mC P ops (g7 a0 (b3 ops.toList) K) n (LE P ops (g7 a0 (b3 ops.toList) K) n) (f+1) (ag W w) (eT ops.size m) a w:=by
     intro v ap h;have A:ew (b3 ops.toList) a (a.put o.dst v):=ew.put (O i o z);refine Hk al z (Region.noSelect_spec am) (λc a w U=>by cases U.1) H Hl f (ag W w) (λx=>kx o=true->ag W w x) _ a w (λ_ h _=>h) (by cases hs:kx o<;>simp) inv (Hh hc z h2) R ap (.refl _ _) ?_;have hinv:=inv.set R H;rw[vx]at hinv⊢;exact N W f _ K _ _ w (av.put λk T=>by rw[g.size];exact ac k (O i o z k T)) (g.trans A) (vA p I) hinv h
    rcases s3 av h with ⟨F,G⟩|⟨F,G⟩
    .obtain⟨v,aq,ar⟩:=Hd av G
     exact fin v (.inl ⟨F,λw' hc=>aq w' hc⟩) ar
    .exact fin undef (.inr ⟨F,rfl⟩) G
   .exact h.elim
 |bR i t N=>
  intro W f m K e a w av g p inv h
  cases f with
  |zero=>simp[en]at h
  |succ f=>
   simp only[en]at h;obtain⟨C,D,h⟩:=af h;simp only[dg]at C;have H:=B D;split at h
   .rename_i o z
    refine⟨ne_nil p C.1 I,λj Y=>?_⟩;have ah:j=i:=by simpa using pw hc p C.2 j Y
    subst ah;exact⟨H,Q W t N f m K e a w j o av g p inv Y H z h⟩
   .exact h.elim
 |out i b t N=>
  intro W f m K e a w av g p inv h
  cases f with
  |zero=>simp[en]at h
  |succ f=>
   simp only[en]at h;obtain⟨C,D,L,h⟩:=ad h;simp only[dg]at C;have H:=B D;have L:=jm L;split at h
   .rename_i o z
    refine⟨ne_nil p C.1 I,λj Y=>?_⟩;have ah:j=i:=by simpa using pw hc p C.2 j Y
    subst ah;refine⟨H,?_⟩;have au:px ops (eT ops.size m) j:=by
     intro k ok aH A aw hs aj;have ax:k<ops.size:=(mn.1 A).1;rw[q1 ax]at aj;have aA:(lY 0 ops.toList&&&m).testBit k=true:=by
      rw[Nat.testBit_and,aj,qI];exact(CK ops.toList 0 k ok (by simpa using A)).trans hs|>(by simpa using ·)
     have S:(lC cj.M j).testBit k=true:=CJ L aA;rw[vy hc aw,ng]at S;simp only[b8]at S;exact vz.1 S
    have next:∀ (v:aa) (w':J) (V:U1),en P tk ops n cj V t f (m|||2^j) K (dC o.dst v e) w'->
     ∃aE:U2,((∀x,aE x->ag W w x)\/px ops (eT ops.size m) j)/\aE w'/\mC P ops (g7 a0 (b3 ops.toList) K) n (LE P ops (g7 a0 (b3 ops.toList) K) n) f aE ((eT ops.size m).setIfInBounds j true) (a.put o.dst v) w':=by
     intro v w' V h;have A:ew (b3 ops.toList) a (a.put o.dst v):=ew.put (O j o z);have hinv:=inv.set Y H;rw[vx]at hinv⊢;exact⟨ag V w',.inr au,.refl _ _,N V f _ K _ _ w' (av.put λk T=>by rw[g.size];exact ac k (O j o z k T)) (g.trans A) (vA p I) hinv h⟩
    unfold wpOp;simp only[z];rcases s3 av h with ⟨F,G⟩|⟨F,G⟩
    .simp only[F,if_true]
     refine .inl ((vr av G).wp λv w' h2=>?_)
     cases b with
     |true=>
      obtain⟨V,h2⟩:=h2;exact next v w' V h2
     |false=>exact next v w' W h2
    .simp only[F,gv,if_false]
     exact next _ _ W G
   .exact h.elim
 |two i t j u Z ab=>
  intro W f m K e a w av g p inv h
  cases f with
  |zero=>simp[en]at h
  |succ f=>
   simp only[en]at h;obtain⟨C,D,L,h⟩:=ad h;simp only[dg]at C;have hi:=B D;split at h
   .rename_i o q z U
    refine⟨ne_nil p C.1 I,λk A=>?_⟩;have E:k=i\/k=j:=by simpa using pw hc p C.2 k A
    rcases E with E|E
    .subst E
     exact⟨B D,Q W t Z f m K e a w k o av g p inv A (B D) z h.1⟩
    .subst E
     exact⟨B L,Q W u ab f m K e a w k q av g p inv A (B L) U h.2⟩
   .exact h.elim
 |three i t j u k x Z ab aB=>
  intro W f m K e a w av g p inv h
  cases f with
  |zero=>simp[en]at h
  |succ f=>
   simp only[en]at h;obtain⟨C,D,aC,h⟩:=ad (d:=_) h;obtain⟨L,S⟩:Nat.blt j n=true/\Nat.blt k n=true:=by simpa using aC
   simp only[dg]at C;have hi:=B D;split at h
   .rename_i o q r z U aD
    refine⟨ne_nil p C.1 I,λy A=>?_⟩;have E:y=i\/y=j\/y=k:=by simpa using pw hc p C.2 y A
    rcases E with E|E|E
    .subst E
     exact⟨B D,Q W t Z f m K e a w y o av g p inv A (B D) z h.1⟩
    .subst E
     exact⟨B L,Q W u ab f m K e a w y q av g p inv A (B L) U h.2.1⟩
    .subst E
     exact⟨B S,Q W x aB f m K e a w y r av g p inv A (B S) aD h.2.2⟩
   .exact h.elim
 |sp s t u Z ab=>
  intro W f m K e a w av g p inv h;have ae:match e.get s with
   |some (.bool c)=>(c=true->en P tk ops n cj W t f m K ((s,.bool true)::e) w)/\(c=false->en P tk ops n cj W u f m K ((s,.bool false)::e) w)
   |_=>False:=by cases f<;>simpa only[en] using h
  split at ae
  .rename_i c hs
   cases c with
   |true=>exact Z W f m K _ a w (av.lit hs) g p inv (ae.1 rfl)
   |false=>exact ab W f m K _ a w (av.lit hs) g p inv (ae.2 rfl)
  .exact ae.elim
 |fin=>
  intro W f m K e a w av g p inv h
  cases f with
  |succ f=>simp[en]at h
  |zero=>
   simp only[en]at h;obtain⟨h1,h2,h⟩:=af h;refine .inl ⟨?_,jm h2,rfl,g,e,av,h⟩
   cases R:Region.ready .any ops (eT ops.size m) with
   |nil=>rfl
   |cons x l=>
    have:=pw hc p h1 x (by rw[R];simp)
    cases this
 |tail as=>
  intro W f m K e a w av g p inv h
  cases f with
  |succ f=>simp[en]at h
  |zero=>
   simp only[en]at h;obtain⟨h1,h2,h⟩:=af h;have ak:∀k,k∈b3 (ops.toList.drop n)->k∈b3 ops.toList:=λk g=>by
    simp only[b3,List.mem_filterMap]at g⊢;obtain⟨o,z,g⟩:=g;exact⟨o,fZ z,g⟩
   have:=Cy _ _ _ K e a w av (λd hd=>by rw[g.size];exact ac d (ak d hd)) h;exact .inr ⟨CP hc _ _ _ p I h1,B h2,jI (λx ai w' ⟨ay,az,aF⟩=>⟨ay,g.trans (az.mono ak),aF⟩) _ _ _ this⟩
theorem Ho(ops:Array Oper)(n:Nat):HeadInv .any ops n (Array.replicate ops.size false):=
 ⟨by simp,λj b _ a=>(by rw[getD_replicate_false]at a;cases a),λt _ ht=>getD_in (by simpa using ht) (getD_replicate_false _ _)⟩
def zn(P:Program)(tk:TypeId->ei)(ops:Array Oper)(n:Nat)(a:ao)(cj:lB)(D0 eD:O Nat)(t:aN)(K:Env->U2)(e:Env)(w:J):Prop:=
 bif (Region.noSelect ops&&mB cj D0 eD ops)&&(bif Nat.beq n ops.size then true else Nat.blt n ops.size&&(Region.sinkB .any ops n&&Region.chainB .any ops n)) then
  bif a then
   an w.drew λw1=>∃W:U1,en P tk ops n cj W t n 0 K e w1
  else an w.drew λw1=>en P tk ops n cj (λ_=>False) t n 0 K e w1
 else False
theorem Hp{id:Nat}{c:ao}{t:aN}{K:Env->U2}{e:Env}{a:Act}{w:J}(g:P.follows .mixedOrders=true)
 (av:dG e a) (i:∀d∈b3 ops.toList,d<a.tmps.size) (h:zn P tk ops n c cj D0 eD t K e w):
 (Code.region id ops true).wp P (g7 a (b3 ops.toList) K) a w:=by
 unfold zn at h
 cases h0:(Region.noSelect ops&&mB cj D0 eD ops) with
 |false=>rw[h0]at h;exact h.elim
 |true=>
  rw[h0]at h;simp only[hX]at h;simp only[dg]at h0;obtain⟨h1,hc⟩:=h0
  cases h2:(bif Nat.beq n ops.size then true else Nat.blt n ops.size&&(Region.sinkB .any ops n&&Region.chainB .any ops n)) with
  |false=>rw[h2]at h;exact h.elim
  |true=>
   rw[h2]at h;simp only[cond_true]at h;have j:s9 ops n:=by
    cases b:Nat.beq n ops.size with
    |true=>rw[jm b];exact Hi ops
    |false=>
     rw[b]at h2;simp only[cond_false,dg]at h2;refine Hj h2.2.1 h2.2.2 ?_;have:=nY h2.1;omega
   have k:n<=ops.size:=by
    cases b:Nat.beq n ops.size with
    |true=>rw[jm b];exact bk _
    |false=>
     rw[b]at h2;simp only[cond_false,dg]at h2;have:=nY h2.1;omega
   have key:∀W,en P tk ops n cj W t n 0 K e w.drew->(Code.region id ops true).wp P (g7 a (b3 ops.toList) K) a w:=by
    intro W h;refine wp_region_any g ?_;have f:=Hn hc j k h1 i t W n 0 K e a w.drew av (.refl _ _) (Hf _) (by rw[CH];exact Ho ops n) h;rw[CH]at f;have:=CO Hm _ _ _ _ _ f;rw[show n+(ops.size-n)=ops.size from I]at this;exact this
   cases c with
   |true=>obtain⟨W,h⟩:=h;exact key W h
   |false=>exact key _ h
end
end aS
namespace aS
open Go
inductive aJ where
 |leaf
 |q2 (as:O lA)
 |vC (n:Nat) (c:ao) (cj:lB) (D0 eD:O Nat) (t:aN)
 |seq (a b:aJ)
 |cond (a b:aJ)
 |bE (a:aJ)
 |loop (live:O (Nat×c8)) (eU:O Nat) (a:aJ)
 |dS (live:O (Nat×c8)) (eU:O Nat) (a:aJ)
def gU:O (Nat×c8)->Type
 | []=>U2
 |(_,l)::r=>l.T->gU r
def od:O (Nat×c8)->Type
 | []=>J->Nat
 |(_,l)::r=>l.T->od r
def q3(l:c8)(v:au aa)(K:l.T->Prop):Prop:=
 match l,v with
 | .int k,some (.int d n)=>bif kU k d then K n else False
 | .bool,some (.bool b)=>K b
 | .str,some (.string s)=>K s
 | .ptr,some (.pointer p)=>K p
 | .slice,some (.slice a n c)=>K ⟨a,n,c⟩
 | .map,some (.map r)=>K r
 | .agg,some (.agg cs)=>K cs
 | .fn,some (.func (.func f) a b)=>K ⟨f,a,b⟩
 | .any,some v=>K v
 |_,_=>False
def gU.app:(live:O (Nat×c8))->gU live->(Nat->au aa)->U2
 | [],k,_,w=>k w
 |(s,l)::r,k,g,w=>q3 l (g s) λx=>gU.app r (k x) g w
def gU.lam:(live:O (Nat×c8))->(Env->U2)->gU live
 | [],F=> λw=>F [] w
 |(s,l)::r,F=> λx=>gU.lam r λe w=>F ((s,l.v x)::e) w
def zo:(live:O (Nat×c8))->gU live->od live->(Env->Nat->U2)->Prop
 | [],a,b,F=>∀w,a w->F [] (b w) w
 |(s,l)::r,a,b,F=>∀x:l.T,zo r (a x) (b x) λe m w=>F ((s,l.v x)::e) m w
def zp:(live:O (Nat×c8))->gU live->od live->Nat->(Nat->au aa)->U2
 | [],a,b,m,_,w=>a w/\b w<m
 |(s,l)::r,a,b,m,g,w=>q3 l (g s) λx=>zp r (a x) (b x) m g w
def j1:(live:O (Nat×c8))->od live->(Nat->au aa)->J->Nat
 | [],d,_,w=>d w
 |(s,l)::r,d,g,w=>
  match l,g s,d with
  | .int _,some (.int _ n),d=>j1 r (d n) g w
  | .bool,some (.bool b),d=>j1 r (d b) g w
  | .str,some (.string b),d=>j1 r (d b) g w
  | .ptr,some (.pointer b),d=>j1 r (d b) g w
  | .slice,some (.slice a n c),d=>j1 r (d (ad.mk a n c)) g w
  | .map,some (.map b),d=>j1 r (d b) g w
  | .agg,some (.agg b),d=>j1 r (d b) g w
  | .fn,some (.func (.func f) a b),d=>j1 r (d (hM.mk f a b)) g w
  | .any,some v,d=>j1 r (d v) g w
  |_,_,_=>0
def writes:Code->O Nat
 | .region _ ops _=>b3 ops.toList
 | .seq a b=>writes a++writes b
 | .cond _ a b=>writes a++writes b
 | .block _ a=>writes a
 | .loop a=>writes a
 | .scope a=>writes a
 |_=> []
def s_(eU ws:O Nat):ao:=eU.all λs=> !(ws.any λd=>Nat.beq d s)
def py(e:Env):O Nat->Env
 | []=> []
 |s::ks=>match e.get s with
  |some v=>(s,v)::py e ks
  |none=>py e ks
def q4:Env->Env->Env
 | [],f=>f
 |p::e,f=>p::q4 e f
def D(P:Program)(tk:TypeId->ei):aJ->Code->(Exit->Env->U2)->Env->U2
 | .leaf,c,K,e,w=>
  match c with
  | .skip=>K .normal e w
  | .label _=>K .normal e w
  | .exit id=>K (.exit id) e w
  | .ret=>K .ret e w
  |_=>False
 | .q2 as,c,K,e,w=>
  match c with
  | .region _ ops false=>gj P tk ops (ops.size+1) ops.toList as (λd w'=>K .normal d w') e w
  |_=>False
 | .vC n he cj D0 eD t,c,K,e,w=>
  match c with
  | .region _ ops true=>zn P tk ops n he cj D0 eD t (λd w'=>K .normal d w') e w
  |_=>False
 | .seq A B,c,K,e,w=>
  match c with
  | .seq a b=>D P tk A a (λx d w'=>match x with| .normal=>D P tk B b K d w'|x=>K x d w') e w
  |_=>False
 | .cond A B,c,K,e,w=>
  match c with
  | .cond o x y=>match ev e o with
   |some (.bool b)=>(b=true->D P tk A x K e w)/\(b=false->D P tk B y K e w)
   |_=>False
  |_=>False
 | .bE A,c,K,e,w=>
  match c with
  | .block id b=>D P tk A b (λx d w'=>match x with| .exit h=>bif Nat.beq h id then K .normal d w' else K (.exit h) d w'|x=>K x d w') e w
  |_=>False
 | .loop live eU A,c,K,e,w=>
  match c with
  | .loop b=>bif s_ eU (writes b) then
   ∃ (f:gU live) (i:od live),gU.app live f e.get w/\
    zo live f i λg m w'=>D P tk A b (λx d j=>match x with| .normal=>zp live f i m d.get j|x=>K x d j) (q4 g (py e eU)) w'
   else False
  |_=>False
 | .dS live eU A,c,K,e,w=>
  bif s_ eU (writes c) then
   bz (λk:gU live=>D P tk A c (λx d w'=>match x with| .normal=>gU.app live k d.get w'|x=>K x d w') e w)
    (gU.lam live λg w'=>K .normal (q4 g (py e eU)) w')
  else False
def Hq(a:Act)(ds:O Nat)(K:Exit->Env->U2)(x:Exit)(b:Act)(w':J):Prop:=
 ew ds a b/\∃c,dG c b/\K x c w'
def Sub(e:Env)(g:Nat->au aa):Prop:=∀s v,e.get s=some v->g s=some v
theorem Sub.cons{e:Env}{g:Nat->au aa}{s:Nat}{v:aa}(h:Sub e g)(hs:g s=some v):Sub ((s,v)::e) g:=by
 intro t u ht;rw[po]at ht;by_cases a:s=t
 .subst a;rw[if_pos rfl]at ht;rw[hs];exact ht
 .rw[if_neg a]at ht;exact h t u ht
theorem Sub.nil{g:Nat->au aa}:Sub [] g:=λ_ _ h=>by cases h
theorem vD{l:c8}{v:au aa}{K:l.T->Prop}(h:q3 l v K):∃x:l.T,v=some (l.v x)/\K x:=by
 unfold q3 at h;split at h
 .rename_i k b n K
  by_cases a:k=b
  .subst a
   simp only[kU,decide_true,cond_true]at h;exact⟨n,rfl,h⟩
  .simp[kU,a]at h
 all_goals first
  |exact⟨_,rfl,h⟩
  |exact h.elim
theorem CQ{l:c8}{v:au aa}{K:l.T->Prop}{x:l.T}(a:v=some (l.v x))(h:K x):q3 l v K:=by
 subst a
 cases l<;>simp only[q3,c8.v,kU,decide_true,cond_true]<;>exact h
theorem CR{s:Nat}{l:c8}{r:O (Nat×c8)}{a:od ((s,l)::r)}{g:Nat->au aa}{w:J}{x:l.T}(b:g s=some (l.v x)):
 j1 ((s,l)::r) a g w=j1 r (a x) g w:=by
 cases l<;>simp only[j1,b,c8.v]<;>rfl
theorem CS:∀ {live:O (Nat×c8)}{F:Env->U2}{g:Nat->au aa}{w:J},gU.app live (gU.lam live F) g w->∃a,Sub a g/\F a w
 | [],F,g,w,h=>⟨[],Sub.nil,h⟩
 |(s,l)::r,F,g,w,h=>by
  obtain⟨x,b,h⟩:=vD h
  obtain⟨a,hs,h⟩:=CS h
  exact⟨(s,l.v x)::a,hs.cons b,h⟩
theorem CT:∀ {live:O (Nat×c8)}{a:gU live}{g g':Nat->au aa}{w:J},(∀s v,g s=some v->g' s=some v)->gU.app live a g w->gU.app live a g' w
 | [],_,_,_,_,_,h=>h
 |(s,l)::r,a,g,g',w,hg,h=>by
  obtain⟨x,b,h⟩:=vD h
  exact CQ (hg _ _ b) (CT hg h)
theorem CU:∀ {live:O (Nat×c8)}{b:gU live}{c:od live}{F:Env->Nat->U2}{g:Nat->au aa}{w:J},
 zo live b c F->gU.app live b g w->∃d,Sub d g/\F d (j1 live c g w) w
 | [],b,c,F,g,w,h,a=>⟨[],Sub.nil,h w a⟩
 |(s,l)::r,b,c,F,g,w,h,a=>by
  obtain⟨x,e,a⟩:=vD a
  obtain⟨d,hs,h⟩:=CU (h x) a
  exact⟨(s,l.v x)::d,hs.cons e,by rw[CR e];exact h⟩
theorem CV:∀ {live:O (Nat×c8)}{a:gU live}{b:od live}{m:Nat}{g g':Nat->au aa}{w:J},
 (∀s v,g s=some v->g' s=some v)->zp live a b m g w->gU.app live a g' w/\j1 live b g' w<m
 | [],_,_,_,_,_,_,_,h=>h
 |(s,l)::r,a,b,m,g,g',w,hg,h=>by
  obtain⟨x,c,h⟩:=vD h
  obtain⟨h1,h2⟩:=CV hg h
  exact⟨CQ (hg _ _ c) h1,by rw[CR (hg _ _ c)];exact h2⟩
theorem CW:∀ {e f:Env}{s:Nat}{v:aa},(q4 e f).get s=some v->e.get s=some v\/f.get s=some v
 | [],_,_,_,h=>.inr h
 |(k,u)::e,f,s,v,h=>by
  simp only[q4]at h
  rw[po]at h⊢
  by_cases a:k=s
  .rw[if_pos a]at h⊢;exact .inl h
  .rw[if_neg a]at h⊢;exact CW h
theorem zq{e:Env}:∀ {ks:O Nat}{s:Nat}{v:aa},(py e ks).get s=some v->s∈ks/\e.get s=some v
 | [],_,_,h=>by cases h
 |k::ks,s,v,h=>by
  simp only[py]at h
  split at h
  .rename_i u hu
   rw[po]at h
   by_cases a:k=s
   .rw[if_pos a]at h
    subst a
    exact⟨by simp,by rw[hu];exact h⟩
   .rw[if_neg a]at h
    have:=zq h
    exact⟨by simp[this.1],this.2⟩
  .have:=zq h
   exact⟨by simp[this.1],this.2⟩
theorem CX{e c:Env}{a b:Act}{eU ws:O Nat}(av:dG e a)(f:ew ws a b)(g:s_ eU ws=true)(hs:Sub c λs=>b.tmps[s]?):
 dG (q4 c (py e eU)) b:=by
 constructor;intro s v h;rcases CW h with h|h
 .exact hs s v h
 .obtain⟨h1,h2⟩:=zq h
  have d:=nV.1 g s h1;simp only[jD,qG]at d;rw[f.same s λi=>d s i (Nat.beq_refl s)];exact av.get s v h2
section
variable {P:Program}{tk:TypeId->ei}
theorem ky{c:Code}{Q Q':Exit->Act->U2}{a:Act}{w:J}(h:c.wp P Q a w)(b:∀e a w,Q e a w->Q' e a w):c.wp P Q' a w:=wp_mono h b
theorem vE(O:P.follows .mixedOrders=true):∀ (A:aJ) (c:Code) (K:Exit->Env->U2) (e:Env) (a:Act) (w:J),dG e a->(∀d∈writes c,d<a.tmps.size)->
 D P tk A c K e w->c.wp P (Hq a (writes c) K) a w:=by
 intro A
 induction A with
 |leaf=>
  intro c K e a w av j h;simp only[D]at h;split at h
  .exact wp_skip ⟨.refl _ _,e,av,h⟩
  .exact wp_label ⟨.refl _ _,e,av,h⟩
  .exact wp_exit ⟨.refl _ _,e,av,h⟩
  .exact wp_ret ⟨.refl _ _,e,av,h⟩
  .exact h.elim
 |q2 as=>
  intro c K e a w av j h;simp only[D]at h;split at h
  .rename_i id ops
   have:=Cy _ _ _ _ e a w av j h;refine wp_region_list (jI ?_ _ _ _ this);rintro x r w' ⟨rfl,f,C,E,F⟩;exact⟨f,C,E,F⟩
  .exact h.elim
 |vC n he cj D0 eD t=>
  intro c K e a w av j h;simp only[D]at h;split at h
  .rename_i id ops
   refine ky (Hp O av j h) ?_;rintro x r w' ⟨rfl,f,C,E,F⟩;exact⟨f,C,E,F⟩
  .exact h.elim
 |seq A B G H=>
  intro c K e a w av j h;simp only[D]at h;split at h
  .rename_i x y
   have hx:∀d,d∈writes x->d∈writes (.seq x y):=λd hd=>by simp[writes,hd]
   have u:∀d,d∈writes y->d∈writes (.seq x y):=λd hd=>by simp[writes,hd]
   refine wp_seq (ky (G x _ e a w av (λd hd=>j d (hx d hd)) h) ?_);rintro ex a1 w1 ⟨f,i,g,h1⟩
   cases ex with
   |normal=>
    refine ky (H y K i a1 w1 g (λd hd=>by rw[f.size];exact j d (u d hd)) h1) ?_;rintro ex a2 ai ⟨k,p,m,h2⟩;exact⟨(f.mono hx).trans (k.mono u),p,m,h2⟩
   |exit id=>exact⟨f.mono hx,i,g,h1⟩
   |goto l=>exact⟨f.mono hx,i,g,h1⟩
   |ret=>exact⟨f.mono hx,i,g,h1⟩
   |panic ch=>exact⟨f.mono hx,i,g,h1⟩
   |outgrown=>exact⟨f.mono hx,i,g,h1⟩
  .exact h.elim
 |cond A B G H=>
  intro c K e a w av j h;simp only[D]at h;split at h
  .rename_i o x y
   have hx:∀d,d∈writes x->d∈writes (.cond o x y):=λd hd=>by simp[writes,hd]
   have u:∀d,d∈writes y->d∈writes (.cond o x y):=λd hd=>by simp[writes,hd]
   split at h
   .rename_i b Q
    refine wp_cond_split (av.ev Q) (λI=>?_) (λI=>?_)
    .refine ky (G x K e a w av (λd hd=>j d (hx d hd)) (h.1 I)) ?_
     rintro ex a2 ai ⟨k,p,m,h2⟩;exact⟨k.mono hx,p,m,h2⟩
    .refine ky (H y K e a w av (λd hd=>j d (u d hd)) (h.2 I)) ?_
     rintro ex a2 ai ⟨k,p,m,h2⟩;exact⟨k.mono u,p,m,h2⟩
   .exact h.elim
  .exact h.elim
 |bE A z=>
  intro c K e a w av j h;simp only[D]at h;split at h
  .rename_i id b
   refine wp_block (ky (z b _ e a w av j h) ?_);rintro ex a1 w1 ⟨f,i,g,h1⟩
   cases ex with
   |exit L=>
    simp only[Exit.inBlock];by_cases M:L=id
    .subst M
     simp only[Nat.beq_refl,cond_true]at h1;rw[if_pos rfl];exact⟨f,i,g,h1⟩
    .have:Nat.beq L id=false:=by
      cases R:Nat.beq L id
      .rfl
      .exact absurd (jm R) M
     simp only[this,cond_false]at h1;rw[if_neg M];exact⟨f,i,g,h1⟩
   |normal=>exact⟨f,i,g,h1⟩
   |goto l=>exact⟨f,i,g,h1⟩
   |ret=>exact⟨f,i,g,h1⟩
   |panic ch=>exact⟨f,i,g,h1⟩
   |outgrown=>exact⟨f,i,g,h1⟩
  .exact h.elim
 |loop live eU A z=>
  intro c K e a w av j h;simp only[D]at h;split at h
  .rename_i b
   cases q:s_ eU (writes b) with
   |false=>rw[q]at h;exact h.elim
   |true=>
    rw[q]at h;obtain⟨S,T,h0,U⟩:=h;refine wp_loop (λr w'=>ew (writes b) a r/\gU.app live S (λs=>r.tmps[s]?) w') (λr w'=>j1 live T (λs=>r.tmps[s]?) w')
     ⟨.refl _ _,CT (λs v hs=>av.get s v hs) h0⟩ ?_
    rintro a1 w1 ⟨f,V⟩;obtain⟨W,hs,N⟩:=CU U V;refine ky (z b _ _ a1 w1 (CX av f q hs) (λd hd=>by rw[f.size];exact j d hd) N) ?_;rintro ex a2 ai ⟨k,p,m,h2⟩
    cases ex with
    |normal=>
     obtain⟨ay,az⟩:=CV (g':=λs=>a2.tmps[s]?) (λs v hs=>m.get s v hs) h2;exact⟨⟨f.trans k,ay⟩,az⟩
    |exit id=>exact⟨f.trans k,p,m,h2⟩
    |goto l=>exact⟨f.trans k,p,m,h2⟩
    |ret=>exact⟨f.trans k,p,m,h2⟩
    |panic ch=>exact⟨f.trans k,p,m,h2⟩
    |outgrown=>exact⟨f.trans k,p,m,h2⟩
  .exact h.elim
 |dS live eU A z=>
  intro c K e a w av j h;simp only[D]at h
  cases q:s_ eU (writes c) with
  |false=>rw[q]at h;exact h.elim
  |true=>
   rw[q]at h;simp only[cond_true]at h;have h:=h.out;refine ky (z c _ e a w av j h) ?_;rintro ex a1 w1 ⟨f,i,g,h1⟩
   cases ex with
   |normal=>
    obtain⟨W,hs,N⟩:=CS h1;exact⟨f,_,CX av f q (λs v h=>g.get s v (hs s v h)),N⟩
   |exit id=>exact⟨f,i,g,h1⟩
   |goto l=>exact⟨f,i,g,h1⟩
   |ret=>exact⟨f,i,g,h1⟩
   |panic ch=>exact⟨f,i,g,h1⟩
   |outgrown=>exact⟨f,i,g,h1⟩
def nh(P:Program)(tk:TypeId->ei):O ResultVar->Env->J->(O aa->Prop)->Prop
 | [],_,_,K=>K []
 | .tmp t::r,e,w,K=>match e.get t with
  |some v=>nh P tk r e w λvs=>K (v::vs)
  |none=>False
 | .cell t T::r,e,w,K=>match e.get t with
  |some (.pointer (some A))=>qV P tk T A w λv=>nh P tk r e w λvs=>K (v::vs)
  |_=>False
def q5:O aa->aa
 | [v]=>v
 |vs=>.tuple vs.toArray
def CY(P:Program)(tk:TypeId->ei)(a:O ResultVar)(R:U0)(x:Exit)(e:Env)(w:J):Prop:=
 match x with
 | .normal=>nh P tk a e w λvs=>R (q5 vs) w
 | .ret=>nh P tk a e w λvs=>R (q5 vs) w
 |_=>False
def pz:Nat->O aa->Env
 |_,[]=> []
 |i,v::vs=>(i,v)::pz (i+1) vs
def q6(P:Program)(tk:TypeId->ei)(A:aJ)(fn:Func)(args:O aa)(w:J)(R:U0):Prop:=
 match fn.body with
 |some c=>D P tk A c (CY P tk fn.results.toList R) (pz 0 args) w
 |none=>False
def pA(fn:Func)(n:Nat):ao:=
 match fn.body with
 |some c=>(writes c).all (λd=>Nat.blt d fn.ntmps)&&Nat.ble n fn.ntmps
 |none=>false
theorem zr:∀ {vs:O aa}{i s:Nat}{v:aa},(pz i vs).get s=some v->i<=s/\vs[s-i]? =some v
 | [],_,_,_,h=>by cases h
 |u::vs,i,s,v,h=>by
  simp only[pz]at h
  rw[po]at h
  by_cases a:i=s
  .subst a
   rw[if_pos rfl]at h
   simpa using h
  .rw[if_neg a]at h
   obtain⟨h1,h2⟩:=zr h
   refine⟨I,?_⟩
   rw[show s-i=(s-(i+1))+1 from I]
   simpa using h2
def ta(tmps:Array aa)(r:ResultVar):Sem aa:=
 match r with
 | .tmp t=>pure (tmps.getD t undef)
 | .cell x t=>do loadVar t (←asAddr (tmps.getD x undef))
theorem ni{a:Act}:∀ {f:O ResultVar}{e:Env}{w:J}{K:O aa->Prop},dG e a->nh P tk f e w K->
 ∃vs,(f.mapM (ta a.tmps)).run P w=.ok vs w/\K vs
 | [],_,_,_,_,h=>⟨[],by simp,h⟩
 | .tmp t::r,e,w,K,av,h=>by
  simp only[nh]at h
  split at h
  .rename_i v b
   obtain⟨vs,c,d⟩:=ni av h
   refine⟨v::vs,?_,d⟩
   have ht:a.tmps.getD t undef=v:=by simp[Array.getD_eq_getD_getElem?,av.get _ _ b]
   simp only[List.mapM_cons,ta,Sem.run_bind,Sem.run_pure,Result.andThen,ht]
   rw[c]
  .exact h.elim
 | .cell t T::r,e,w,K,av,h=>by
  simp only[nh]at h
  split at h
  .rename_i A b
   obtain⟨v,g,h⟩:=Cu h
   obtain⟨vs,c,d⟩:=ni av h
   refine⟨v::vs,?_,d⟩
   have ht:a.tmps.getD t undef=.pointer (some A):=by simp[Array.getD_eq_getD_getElem?,av.get _ _ b]
   have i:(loadVar T A).run P w=.ok v w:=by simpa[Instr.loadAt,Instr.sureAddr] using g
   simp only[List.mapM_cons,ta,Sem.run_bind,Sem.run_pure,Result.andThen,ht,asAddr,i]
   rw[c]
  .exact h.elim
theorem pB{fn:Func}{tmps:Array aa}{w:J}{vs:O aa}
 (h:(fn.results.toList.mapM (ta tmps)).run P w=.ok vs w):
 (results fn tmps).run P w=.ok (q5 vs) w:=by
 have a:results fn tmps=(do let vs ←fn.results.mapM (ta tmps);pure (if h:vs.size=1 then vs[0] else .tuple vs)):=rfl;rw[a,Array.mapM_eq_mapM_toList];simp only[Sem.run_bind,Sem.run_map];rw[h];simp only[Result.andThen,Sem.run_pure]
 congr 1
 match vs with
 | []=>rfl
 | [v]=>rfl
 |u::v::vs=>simp[q5]
theorem Hr{f:FuncId}{fn:Func}{A:aJ}{args:O aa}{w:J}{R:U0}(m:P.follows .mixedOrders=true)
 (hf:P.funcs[f]? =some fn) (b:pA fn args.length=true) (h:q6 P tk A fn args w R):
 Calls P f args.toArray w λe w'=>∃v,e=.returned v/\R v w':=by
 unfold q6 at h;unfold pA at b
 cases g:fn.body with
 |none=>rw[g]at h;exact h.elim
 |some c=>
  rw[g]at h b;simp only[dg]at h b;obtain⟨n,o⟩:=b;have t:=nY o;refine calls_of_wp hf g ?_;have p:(args.toArray++Array.replicate (fn.ntmps-args.toArray.size) undef).size=fn.ntmps:=by simp;omega
  have av:dG (pz 0 args) {tmps:=args.toArray++Array.replicate (fn.ntmps-args.toArray.size) undef,defers:=[]}:=by
   constructor;intro s v hs;obtain⟨_,h2⟩:=zr hs;simp only[m3]at h2;have aI:s<args.length:=(kn.1 h2).1;simp[Array.getElem?_append,aI];rw[dR aI]at h2;exact Option.some.inj h2
  refine ky (vE m A c _ _ _ w av (λd hd=>?_) h) ?_
  .have h1:=nV.1 n d hd
   have h2:=nY h1;show d<(args.toArray++Array.replicate (fn.ntmps-args.toArray.size) undef).size;rw[p];omega
  .rintro x q w' ⟨r,u,k,a⟩
   have hd:q.defers=[]:=r.defers
   cases x with
   |normal=>
    obtain⟨vs,i,j⟩:=ni k a;exact⟨hd,_,pB i,_,rfl,j⟩
   |ret=>
    obtain⟨vs,i,j⟩:=ni k a;exact⟨hd,_,pB i,_,rfl,j⟩
   |exit id=>exact a.elim
   |goto l=>exact a.elim
   |panic ch=>exact a.elim
   |outgrown=>exact a.elim
end
end aS
namespace aS
open Go Go.ChangeShapes Go.WideShapes Go.ChangeAt Go.RowKit
def fR(P:Program)(w:J):Nat->TypeId->O aa->Prop
 |0,_,_=>False
 |fuel+1,t,cs=>
  match P.underlying t with
  |some .bool=>∃b:ao,cs=[.bool b]
  |some (.int k)=>∃n:Int,cs=[.int k n]/\k.min<=n/\n<=k.max
  |some .string=>∃s:ByteArray,cs=[.string s]/\s.size<=maxLen
  |some (.slice e)=>∃s:ad,cs=[.slice s.a s.len s.cap]/\s.len<=s.cap/\s.cap<=maxLen/\(s.a=none->s.cap=0)/\
   ∀a,s.a=some a->∀i,i<s.cap->∃vs,bf w (a.add (i*P.cellsOf e)) 0 (P.cellsOf e)=some vs/\fR P w fuel e vs
  |some (.struct fs)=>cs.length=P.cellsOf t/\∀f∈fs,fR P w fuel f.type ((cs.drop f.offset).take (P.cellsOf f.type))
  |some (.array n e)=>cs.length=P.cellsOf t/\∀i,i<n->fR P w fuel e ((cs.drop (i*P.cellsOf e)).take (P.cellsOf e))
  |some (.pointer e)=>cs=[.pointer none]\/∃a vs,cs=[.pointer (some a)]/\bf w a 0 (P.cellsOf e)=some vs/\fR P w fuel e vs
  |_=>True
theorem mapM_some{α β:Type}{f:α->au β}:∀ {l:O α}{r:O β},l.mapM f=some r->∀x∈l,∃y,f x=some y
 | [],_,_,_,hx=>by cases hx
 |a::l,r,h,x,hx=>by
  simp only[List.mapM_cons]at h
  cases c:f a with
  |none=>simp[c]at h
  |some b=>
   cases d:l.mapM f with
   |none=>simp[c,d]at h
   |some e=>
    rcases cZ.1 hx with rfl|hx
    .exact⟨b,c⟩
    .exact mapM_some d x hx
theorem CZ{w:J}{a:af}:∀ (n i:Nat) (vs:O aa),((List.range' i n).mapM λj=>w.cell? (a.add j))=some vs->bf w a i n=some vs
 |0,i,vs,h=>by simp at h;simp[bf,h]
 |n+1,i,vs,h=>by
  simp only[List.range'_succ,List.mapM_cons]at h
  cases h1:w.cell? (a.add i) with
  |none=>simp[h1]at h
  |some v=>
   cases h2:((List.range' (i+1) n).mapM λj=>w.cell? (a.add j)) with
   |none=>simp[h1,h2]at h
   |some us=>
    simp[h1,h2]at h
    have:=CZ n (i+1) us h2
    simp[bf,h1,this,h]
theorem C0{w:J}{base:Nat}{a:af}{n:Nat}{vs:O aa}(h:w.cells? base a n=some vs):bf w a 0 n=some vs:=by
 unfold World.cells? at h;split at h
 .rw[uU]at h
  exact CZ n 0 vs h
 .cases h
section
variable {H:Type}{enc:TypeId×aa->H}{P:Program}{w:J}
theorem tb:∀ (fuel:Nat) (t:TypeId) (cs:O aa) (x:DataW H×O MemPlace),DataW.trod enc P w 0 (λ_=>true) true fuel t cs=some x->fR P w fuel t cs
 |0,_,_,_,h=>by cases h
 |fuel+1,t,cs,x,h=>by
  simp only[DataW.trod]at h
  simp only[fR]
  cases ht:P.underlying t with
  |none=>trivial
  |some d=>
   rw[ht]at h
   cases d<;>try trivial
   case bool=>
    match cs,h with
    | [.bool b],_=>exact⟨b,rfl⟩
   case int k=>
    match cs,h with
    | [.int q n],h=>
     simp only at h
     split at h
     .rename_i g
      obtain⟨rfl,l⟩:=g
      exact⟨n,rfl,by simpa[Lit.wf] using l⟩
     .cases h
   case string=>
    match cs,h with
    | [.string s],h=>
     simp only at h
     split at h
     .rename_i g;exact⟨s,rfl,g⟩
     .cases h
   case pointer e=>
    match cs,h with
    | [.pointer none],_=>exact .inl rfl
    | [.pointer (some a)],h=>
     simp only[uV]at h
     obtain⟨y,c,_⟩:=h
     obtain⟨vs,h1,h2⟩:=Option.bind_eq_some_iff.1 c
     exact .inr ⟨a,vs,rfl,C0 h1,tb fuel e vs _ h2⟩
   case slice e=>
    match cs,h with
    | [.slice none 0 0],_=>exact⟨⟨none,0,0⟩,rfl,bk _,cI _,(λ_=>rfl),(λa m=>by cases m)⟩
    | [.slice (some a) len cap],h=>
     simp only at h
     split at h
     .rename_i g
      refine⟨⟨some a,len,cap⟩,rfl,g.2.1,g.2.2,(λh0=>by cases h0),λr o i hi=>?_⟩
      obtain⟨elems,he,h⟩:=Option.bind_eq_some_iff.1 h
      simp only[if_true,uV]at h
      obtain⟨rest,p,_⟩:=h
      cases o
      have key:∃y,((w.cells? 0 (a.add (i*P.cellsOf e)) (P.cellsOf e)).bind (DataW.trod enc P w 0 (λ_=>true) true fuel e))=some y:=by
       rcases dV i len with j|j
       .exact mapM_some he i (jS.2 j)
       .obtain⟨y,c⟩:=mapM_some p (i-len) (jS.2 (by simp only at hi;omega))
        rw[show len+(i-len)=i from I]at c;exact⟨y,c⟩
      obtain⟨y,c⟩:=key;obtain⟨vs,h1,h2⟩:=Option.bind_eq_some_iff.1 c;exact⟨vs,C0 h1,tb fuel e vs _ h2⟩
     .cases h
   case struct fs=>
    simp only at h;split at h
    .rename_i j
     refine⟨j,λf hf=>?_⟩;simp only[uV]at h;obtain⟨ys,c,_⟩:=h;obtain⟨y,c⟩:=mapM_some c f (by simpa using hf);exact tb fuel _ _ _ c
    .cases h
   case array n e=>
    simp only at h;split at h
    .rename_i j
     refine⟨j,λi hi=>?_⟩;simp only[uV]at h;obtain⟨ys,c,_⟩:=h;obtain⟨y,c⟩:=mapM_some c i (jS.2 hi);exact tb fuel _ _ _ c
    .cases h
def mD(P:Program)(w:J)(t:TypeId)(v:aa):Prop:=
 match P.underlying t with
 |some (.struct _)=>∃cs:Array aa,v=.agg cs/\∃fuel,fR P w fuel t cs.toList
 |some (.array _ _)=>∃cs:Array aa,v=.agg cs/\∃fuel,fR P w fuel t cs.toList
 |_=>∃fuel,fR P w fuel t [v]
theorem zt{r:Reach}{a:Nat}{t:TypeId}{v:aa}{d:DataW H}{ps:O MemPlace}(ih:Value.okWide P w r a t v)
 (hd:DataW.Trod enc P w 0 (λ_=>true) true t v d ps):mD P w t v:=by
 obtain⟨fuel,hd⟩:=hd;have h1:=tb fuel t _ _ hd;unfold mD;unfold Value.okWide at ih;have b:(∀cs,v≠ .agg cs)->v.cells.toList=[v]:=λh=>by cases v<;>first|rfl|exact absurd rfl (h _)
 cases ht:P.underlying t with
 |none=>
  rw[ht]at ih
  cases fuel with
  |zero=>cases hd
  |succ f=>exact⟨1,by simp[fR,ht]⟩
 |some c=>
  rw[ht]at ih
  cases c
  case struct fs=>obtain⟨cs,rfl,_,_⟩:=ih;exact⟨cs,rfl,fuel,h1⟩
  case array n e=>obtain⟨cs,rfl,_,_⟩:=ih;exact⟨cs,rfl,fuel,h1⟩
  all_goals
   refine⟨fuel,?_⟩;rw[←b]
   .exact h1
   .rintro cs rfl
    simp[Cell.okWide,Cell.ok,ht]at ih
theorem C1{w w':J}(h:ag (λ_=>False) w w'):Below w w w':=
 ⟨h.os,h.tape,h.output,h.size,λk a=>h.block k a (λh=>h)⟩
theorem Hs{f:Func}{s:ChangeSpec}{apart fresh handsOn again:ao}{W W':J}{args:Array aa}{T:TypeId}{ds gs:O (DataW H)}{before pa fj:O MemPlace}
 (cv:DataW.Whole enc P f.params.toList s.vars apart W args.toList ds gs before) (d:P.underlying T=some .bool) (e:f.resultTypes= #[T])
 (hs:s.fn H (ds++gs)={results:=[.lit (.bool true)],args:=ds})
 (vF:∀sp:Nat->ao,(∀p∈before,sp p.block=true)->DataW.TrodAll enc P W' 0 sp true f.params.toList args.toList ds pa)
 (l:∀sp:Nat->ao,(∀p∈before,sp p.block=true)->DataW.TrodVars enc P W' sp s.vars [] fj)
 (c:before=pa++fj) (m:ag (λ_=>False) W W'):
 s.post enc P f apart fresh handsOn again W args (.bool true) W':=by
 have g:=C1 m;have aI:∀p∈before,p.block<W.heap.size:=λp a=>cv.lt p a;have hold:∀p∈before,(λb=>decide (b<W.heap.size)) p.block=true:=λp a=>by simpa using aI p a
 have h:∀ (b:Nat) (sp:Nat->ao) (hd:ao),DataW.TrodAll enc P W' b sp hd f.resultTypes.toList ((Value.bool true).resultList f.resultTypes.size) (s.fn H (ds++gs)).results []:=by
  intro b sp hd;rw[hs,e];exact trodAll_cons_mk (shut_bool d true) trodAll_mk0
 have i:∀sp:Nat->ao,(∀p∈before,sp p.block=true)->DataW.TrodAll enc P W' 0 sp true f.params.toList args.toList (s.fn H (ds++gs)).args pa:=by
  intro sp gx;rw[hs];exact vF sp gx
 have j:∀sp:Nat->ao,(∀p∈before,sp p.block=true)->DataW.TrodVars enc P W' sp s.vars (s.fn H (ds++gs)).vars fj:=by
  intro sp gx;rw[hs];exact l sp gx
 refine⟨ds,gs,before,[],pa,fj,cv,h _ _ _,i _ hold,j _ hold,World.keptBut_mono (λp a=>⟨a,?_⟩) (g.frame (· ∈before)),λ_=>?_⟩
 .rw[c,cR]at a
  exact Or.inr a
 .obtain⟨_,_,_,_,_,n,o⟩:=cv
  refine⟨ok_one e rfl (okWide_bool_mk d _),_,_,([]++pa)++fj,⟨[]++pa,fj,trodAll_append (i _ (λ_ _=>rfl)) (h _ _ _),j _ (λ_ _=>rfl),rfl,?_,?_⟩,?_⟩
  .intro b off a
   have k:MemPlace.cell b off∈before:=by rw[c];simpa using a
   rw[g.frozen (aI _ k)];exact n b off k
  .intro q
   have:=o q;rw[c]at this;simpa using this
  .intro p a _
   rw[c];simpa using a
theorem zu{t:TypeId}(a:laidOutB P=true)(b:P.readableRec t=true)(c:t<P.types.size){W W':J}{v:aa}{d:DataW H}{ps:O MemPlace}{sp:Nat->ao}
 (h:DataW.Trod enc P W 0 (λ_=>true) true t v d ps) (e:ag (λ_=>False) W W') (aI:∀x∈ps,x.block<W.heap.size) (hs:∀p∈ps,sp p.block=true):
 DataW.Trod enc P W' 0 sp true t v d ps:=
 WideElems.Trod_stays a b c h (λx hx=>(C1 e).same (aI x hx)) hs
end
end aS
namespace aS
open Go Go.RowKit
def aH(P:Program)(f:FuncId)(args:Array aa)(w:J)(Q:U0):Prop:=
 Calls P f args w λe w1=>∃v,e=.returned v/\Q v w1
theorem aH.use{P:Program}{f:FuncId}{args:Array aa}{w:J}{Q:U0}{R:Ending->U2}
 (h:aH P f args w Q) (k:∀v w',Q v w'->R (.returned v) w'):Calls P f args w R:=
 Calls.mono h λ_ _ ⟨v,a,b⟩=>by subst a;exact k v _ b
theorem aH.mono{P:Program}{f:FuncId}{args:Array aa}{w:J}{Q R:U0}
 (h:aH P f args w Q) (k:∀v w',Q v w'->R v w'):aH P f args w R:=
 aH.use h λv _ a=>⟨v,rfl,k _ _ a⟩
abbrev Ext(w w':J):Prop:=ag (λ_=>False) w w'
theorem ag.cX{W:U1}{w w':J}(h:Ext w w'):ag W w w':=ag.mono h λ_ _ h=>h.elim
theorem ag.drew{W:U1}{w w':J}(h:ag W w w'):ag W w w'.drew:=⟨h.os,h.tape,h.output,h.size,h.block⟩
theorem ag.alloc{W:U1}{w w':J}(h:ag W w w')(o:Obj):ag W w (w'.alloc o):=
 h.trans ⟨rfl,rfl,rfl,by simp,λk a _=>Below.heap_alloc _ _ _ a⟩
theorem ag.set{W:U1}{w w':J}(h:ag W w w'){A:af}(b:A.block<w.heap.size->W A.block)(v:aa):ag W w (w'.setCell A v):=
 ⟨h.os,h.tape,h.output,by simp only[World.setCell,Array.size_modify];exact h.size,λk a cv=>by
  rw[Below.heap_setCell _ _ _ _ (λe=>cv (by subst e;exact b a))];exact h.block k a cv⟩
theorem ag.setCells{W:U1}{w:J}{A:af}(a:A.block<w.heap.size->W A.block):∀ (vs:O aa) (i:Nat) {w':J},ag W w w'->ag W w (setCells w' A i vs)
 | [],_,_,h=>h
 |v::vs,i,w',h=>by
  have b:(A.add i).block=A.block:=by unfold Addr.add;split<;>rfl
  exact ag.setCells a vs (i+1) (ag.set h (by rw[b];exact a) v)
theorem aA(b o n:Nat):(Addr.mk b o none).add n=⟨b,o+n,none⟩:=by
 unfold Addr.add;split
 .rename_i h;subst h;rfl
 .rfl
def bu(w:J)(b:Nat)(c:Array aa)(T:TypeId):Prop:=w.heap[b]? =some (.cells c T (0,0))
section
variable {w w':J}{b i:Nat}{c:Array aa}{T:TypeId}
theorem bu.lt(h:bu w b c T):b<w:=(mn.1 h).1
theorem bu.cell(h:bu w b c T)(i:Nat):w.cell? ⟨b,i,none⟩=c[i]? :=by
 unfold bu at h;simp[World.cell?,h]
theorem bu.frozen(h:bu w b c T)(A:af)(av:A.block=b):w.frozen? A=false:=by
 unfold bu at h;simp[World.frozen?,av,h]
theorem bu.ah{W:U1}(h:bu w b c T)(hc:ag W w w')(a:¬W b):bu w' b c T:=by
 have d:=h.lt;unfold bu at h⊢;rw[hc.block b d a];exact h
theorem bu.ext(h:bu w b c T)(hc:Ext w w'):bu w' b c T:=h.ah hc id
theorem bu.drew(h:bu w b c T):bu w.drew b c T:=h
theorem bu.new(w:J)(c:Array aa)(T:TypeId):bu (w.alloc (.cells c T)) w c T:=by
 show(w.heap.push (.cells c T))[w.heap.size]? =some (.cells c T (0,0));simp
theorem bu.set(h:bu w b c T)(i:Nat)(v:aa):bu (w.setCell ⟨b,i,none⟩ v) b (c.setIfInBounds i v) T:=by
 unfold bu at h⊢;simp[World.setCell,uS,h]
theorem bu.inj{c':Array aa}{aq:TypeId}(h:bu w b c T)(a:bu w b c' aq):c=c'/\T=aq:=by
 unfold bu at h a;rw[h]at a;simpa using a
def gV(c:Array aa)(i:Nat):O aa->Array aa
 | []=>c
 |v::vs=>gV (c.setIfInBounds i v) (i+1) vs
theorem ja:∀ (vs:O aa) (c:Array aa) (i:Nat),(gV c i vs).size=c.size
 | [],_,_=>rfl
 |v::vs,c,i=>by simp[gV,ja vs]
theorem bu.tc:∀ (vs:O aa) {w:J}{c:Array aa} (i j:Nat),bu w b c T->bu (setCells w ⟨b,i,none⟩ j vs) b (gV c (i+j) vs) T
 | [],_,_,_,_,h=>h
 |v::vs,w,c,i,j,h=>by
  simp only[setCells,gV,aA]
  have:=bu.tc vs i (j+1) (h.set (i+j) v)
  rw[show i+(j+1)=i+j+1 from I]at this
  exact this
theorem bu.ct(h:bu w b c T)(i:Nat)(vs:O aa)(d:i+vs.length<=c.size)(a:∀v∈vs,Plain v):bp w ⟨b,i,none⟩ vs:=by
 refine⟨λj e=>?_,a⟩;rw[aA,h.cell,h.frozen _ rfl];have:i+j<c.size:=I
 simp[this]
end
theorem j2{B:(U2)->Prop}{rest:U2}(a:U2)(h1:∀k:U2,(∀w,a w->k w)->B k)(h2:∀w,a w->rest w):bz B rest:=⟨h1 rest h2⟩
theorem cc{a:Type}{B:(a->U2)->Prop}{rest:a->U2}(b:a->U2)(h1:∀k:a->U2,(∀x w,b x w->k x w)->B k)(h2:∀x w,b x w->rest x w):bz B rest:=⟨h1 rest h2⟩
theorem pC{a b:Type}{B:(a->b->U2)->Prop}{rest:a->b->U2}(c:a->b->U2)(h1:∀k:a->b->U2,(∀x y w,c x y w->k x y w)->B k)(h2:∀x y w,c x y w->rest x y w):bz B rest:=⟨h1 rest h2⟩
theorem Ht{a b c ρ:Type}{B:(a->b->c->ρ->U2)->Prop}{rest:a->b->c->ρ->U2}(d:a->b->c->ρ->U2)(h1:∀k:a->b->c->ρ->U2,(∀x y z t w,d x y z t w->k x y z t w)->B k)(h2:∀x y z t w,d x y z t w->rest x y z t w):bz B rest:=⟨h1 rest h2⟩
theorem C2.of{P:Program}{w:J}{T:TypeId}{k:IntKind}{v:aa}(h:mD P w T v)(a:P.underlying T=some (.int k)):∃n:Int,v=.int k n/\k.min<=n/\n<=k.max:=by
 simp only[mD,a]at h;obtain⟨fuel,h⟩:=h
 cases fuel with
 |zero=>cases h
 |succ f=>
  simp only[fR,a]at h;obtain⟨n,b,h1,h2⟩:=h;exact⟨n,by simpa using b,h1,h2⟩
theorem vG{n:Int}(h0:IntKind.u8.min<=n)(h1:n<=IntKind.u8.max):0<=n/\n<=255:=by
 simpa[IntKind.min,IntKind.max,IntKind.signed,IntKind.bits] using And.intro h0 h1
theorem Hu{n:Int}(h0:IntKind.i64.min<=n)(h1:n<=IntKind.i64.max): -9223372036854775808<=n/\n<=9223372036854775807:=by
 simpa[IntKind.min,IntKind.max,IntKind.signed,IntKind.bits] using And.intro h0 h1
theorem bq{n:Int}(h0: -9223372036854775808<=n)(h1:n<=9223372036854775807):IntKind.i64.wrap n=n:=by
 by_cases h:0<=n
 .exact y9 h h1
 .have e:n%18446744073709551616=n+18446744073709551616:=I
  simp[IntKind.wrap,IntKind.signed,IntKind.bits,e];omega
end aS
namespace aS
open Go Go.RowKit
structure Src(sz:Nat)(w:J)(x:ad)(xs:O aa):Prop where
 len:xs.length=x.len*sz
 nil:x.a=none->xs=[]
 rd:∀a,x.a=some a->bf w a 0 (x.len*sz)=some xs
def aR(sz:Nat)(T:TypeId)(w:J)(s:ad)(vs:O aa):Prop:=
 vs.length=s.len*sz/\s.len<=s.cap/\s.cap<=maxLen/\
 ((s.a=none/\s.cap=0)\/∃b c,s.a=some ⟨b,0,none⟩/\bu w b c T/\c.size=s.cap*sz/\c.toList.take (s.len*sz)=vs)
def aD(s:ad)(k:Nat):Prop:=∃A,s.a=some A/\A.block=k
theorem td{w:J}{A:af}:∀ {n i:Nat}{vs:O aa},bf w A i n=some vs->vs.length=n
 |0,_,_,h=>by simp[bf]at h;simp[←h]
 |n+1,i,vs,h=>by
  simp only[bf]at h
  cases h1:w.cell? (A.add i) with
  |none=>simp[h1]at h
  |some v=>
   cases h2:bf w A (i+1) n with
   |none=>simp[h1,h2]at h
   |some us=>
    simp only[h1,h2,Option.some.injEq]at h
    subst h
    simp[td h2]
theorem q7{w:J}{b:Nat}{c:Array aa}{T:TypeId}(h:bu w b c T):∀ (n o i:Nat),o+i+n<=c.size->bf w ⟨b,o,none⟩ i n=some ((c.toList.drop (o+i)).take n)
 |0,o,i,_=>by simp[bf]
 |n+1,o,i,e=>by
  have h1:o+i<c.size:=I
  have a:=q7 h n o (i+1) I
  simp only[bf,aA,h.cell,a]
  have h2:c[o+i]? =some c[o+i]:=by simp[h1]
  rw[h2]
  simp only[Option.some.injEq]
  have d:c.toList.drop (o+i)=c[o+i]::c.toList.drop (o+i+1):=by
   rw[kp (by simpa using h1)];simp
  rw[d];simp[Nat.add_assoc]
theorem aR.src{sz:Nat}{T:TypeId}{w:J}{s:ad}{vs:O aa}(h:aR sz T w s vs):Src sz w s vs:=by
 obtain⟨h1,h2,k,g⟩:=h;refine⟨h1,λf=>?_,λa d=>?_⟩
 .obtain⟨_,hc⟩|⟨b,c,e,_⟩:=g
  .have:s.len=0:=I
   rw[this,qJ]at h1;exact mo.1 h1
  .rw[f]at e;cases e
 .obtain⟨f,_⟩|⟨b,c,e,i,hs,j⟩:=g
  .rw[f]at d;cases d
  .rw[e]at d
   cases d;have:=q7 i (s.len*sz) 0 0 (by rw[hs];simp;exact nZ _ h2);rw[this];simp[j]
section
variable {P:Program}{w:J}
theorem q8{sz:Nat}{x:ad}{xs:O aa}(h:Src sz w x xs):(Builtin.firstCells sz x.len (.slice x.a x.len x.cap)).run P w=.ok xs.toArray w:=by
 cases hx:x.a with
 |none=>rw[h.nil hx];rfl
 |some a=>
  simp only[Builtin.firstCells,loadCells];rw[run_loadCellsFrom _ _ _ _ (h.rd a hx)];simp
theorem C3(a:Nat):∀ (r c:Nat),c<=2*a+1000->Builtin.growBy a r c<=2*a+1000
 |0,c,h=>h
 |r+1,c,h=>by
  simp only[Builtin.growBy]
  split
  .exact h
  .exact C3 a r _ I
theorem C4{a cap:Nat}(h:cap<a):Builtin.nextslicecap a cap<=2*a+1000:=by
 unfold Builtin.nextslicecap;split
 .omega
 .split
  .omega
  .exact C3 a 4 cap I
theorem zv{gT:Array TypeId}{cB cS kW e:TypeId}{d:TypeDesc}{sz:Nat}{s x:ad}{xs:O aa}(h0:gT[0]? =some cS)(h1:gT[1]? =some kW)
 (hs:P.underlying cS=some (.slice e)) (hx:P.underlying kW=some (.slice e)) (he:P.underlying e=some d) (g:P.cellsOf e=sz) (h:Src sz w x xs)
 (c:s.len+x.len<=s.cap) (i:∀a,s.a=some a->bp w (a.add (s.len*sz)) xs):
 Sem.run P (Builtin.append_ gT cB #[.slice s.a s.len s.cap,.slice x.a x.len x.cap]) w=
  .ok (.slice s.a (s.len+x.len) s.cap) (match s.a with|some a=>setCells w (a.add (s.len*sz)) 0 xs|none=>w):=by
 have hf:=q8 (P:=P) h;have b:=iA (w:=w) he;rw[g]at b
 cases j:s.a with
 |none=>
  simp[Builtin.append_,h0,h1,di hs,di hx,b,Builtin.lenOf,c,hf]
 |some a=>
  have f:=i a j;have:=qU (P:=P) (A:=a.add (s.len*sz)) xs 0 w (by simpa using f.1) f.2;simp[Builtin.append_,h0,h1,di hs,di hx,b,Builtin.lenOf,c,hf,this]
theorem run_append_grow{gT:Array TypeId}{cB cS kW e:TypeId}{i:TypeInfo}{z:aa}{sz:Nat}{s x:ad}{xs c:O aa}(h0:gT[0]? =some cS)(h1:gT[1]? =some kW)
 (hs:P.underlying cS=some (.slice e)) (hx:P.underlying kW=some (.slice e)) (hi:P.info? e=some i) (hd:(P.underlying e).isSome=true) (k:i.zero=some z) (l:z.cells.size=sz) (m:P.cellsOf e=sz)
 (o:i.bytes≠0) (f:Src sz w x xs) (hold:Src sz w s c) (p:s.cap<s.len+x.len) (r:(2*(s.len+x.len)+1000)*i.bytes<=281474976710656):
 ∃ (b:Nat) (rest:O aa),s.len+x.len<=b/\b<=maxLen/\rest.length=(b-(s.len+x.len))*sz/\
  Sem.run P (Builtin.append_ gT cB #[.slice s.a s.len s.cap,.slice x.a x.len x.cap]) w=
   .ok (.slice (some ⟨w,0,none⟩) (s.len+x.len) b) (w.drew.alloc (.cells (c++xs++rest).toArray e)):=by
 obtain⟨d,hd⟩:=kV _ hd;have h:=iA (w:=w) hd;rw[m]at h;have t:=C4 p;have Q:Builtin.nextslicecap (s.len+x.len) s.cap*i.bytes<=281474976710656:=eO (nZ _ t) r;have R:s.len+x.len<=281474976710656:=by
  have:s.len+x.len<=(2*(s.len+x.len)+1000)*i.bytes:=by
   have:=Nat.mul_le_mul_left (2*(s.len+x.len)+1000) (Nat.one_le_iff_ne_zero.2 o);omega
  omega
 let q:Question:=.appendCap (s.len+x.len) s.cap e
 let b:Nat:=q.cut (w.tape w.drawn q)
 have u:q.forced=false:=rfl;have v:s.len+x.len<=b:=by show s.len+x.len<=s.len+x.len+_;omega
 have A:b<=maxLen:=by
  show s.len+x.len+_%(2^63-(s.len+x.len))<=2^63-1;have:=hG (w.tape w.drawn q) (y:=2^63-(s.len+x.len)) I;omega
 have B:Src sz w.drew x xs:=⟨f.len,f.nil,λa g=>by
  have:=f.rd a g;have hc:ag (λ_=>False) w w.drew:=ag.drew (.refl _ _);exact hc.bf U9 _ _ _ this⟩
 have C:Src sz w.drew s c:=⟨hold.len,hold.nil,λa g=>by
  have:=hold.rd a g;have hc:ag (λ_=>False) w w.drew:=ag.drew (.refl _ _);exact hc.bf U9 _ _ _ this⟩
 have hf:=q8 (P:=P) B;have D:=q8 (P:=P) C;have E:∀n (w':J),(askRoom n).run P w'=.ok () w':=λn w'=>by unfold askRoom;split<;>rfl
 have F:(choose q).run P w=.ok b w.drew:=by
  show Sem.run P (.choose q .pure) w=_;simp only[Sem.run,u,gv,if_false];rfl
 have j:=λw:J=>n4 (w:=w) hi;refine⟨b,(Builtin.zeroCells z.cells (b-(s.len+x.len))).toList,v,A,by simp[Builtin.zeroCells,l],?_⟩;have G:¬(s.len+x.len<=s.cap):=by omega
 have H:¬((s.len+x.len:Nat):Int)>IntKind.i64.max:=by
  simp[IntKind.max,IntKind.signed,IntKind.bits];omega
 have K:¬(281474976710656<Builtin.nextslicecap (s.len+x.len) s.cap*i.bytes):=by omega
 have L:¬Builtin.nextslicecap (s.len+x.len) s.cap*i.bytes>2^48:=by simpa using K
 unfold Builtin.append_;simp only[sL,nX,o6,h0,h1,Sem.run_bind,di hs,di hx,Result.andThen,h,Builtin.lenOf,Sem.run_pure,G,if_false,gv,j,H,false_and,L,Bool.not_false,if_true];have M:Sem.run P (choose (.appendCap (s.len+x.len) s.cap e)) w=.ok b w.drew:=F;simp only[M,E,hf,D,zeroValue,j,k,Sem.run_bind,Result.andThen,Sem.run_pure,newRow,newObj,Sem.run];have N:w.drew.heap.size=w:=rfl;rw[N]
 congr 1
 show w.drew.alloc _=w.drew.alloc _
 congr 2
 simp
theorem te:∀ (vs:O aa) (c:Array aa) (i:Nat),i+vs.length<=c.size->(gV c i vs).toList.take (i+vs.length)=c.toList.take i++vs
 | [],c,i,_=>by simp[gV]
 |v::vs,c,i,h=>by
  simp only[fi]at h
  simp only[gV]
  have:=te vs (c.setIfInBounds i v) (i+1) (by simpa using (by omega:i+1+vs.length<=c.size))
  rw[show i+(v::vs).length=i+1+vs.length by simp;omega,this]
  have hi:i<c.size:=I
  have h2:(c.setIfInBounds i v).toList.take (i+1)=c.toList.take i++ [v]:=by
   rw[ib (by simpa using hi)];have a:(List.take i c.toList).set i v=List.take i c.toList:=by
    apply List.set_eq_of_length_le;simp only[cF];omega
   simp[List.take_set,a]
  rw[h2];simp
theorem Hv{gT:Array TypeId}{cB cS kW e:TypeId}{i:TypeInfo}{z:aa}{sz:Nat}{s x:ad}{xs vs:O aa}(h0:gT[0]? =some cS)(h1:gT[1]? =some kW)
 (hs:P.underlying cS=some (.slice e)) (hx:P.underlying kW=some (.slice e)) (hi:P.info? e=some i) (hd:(P.underlying e).isSome=true) (B:i.zero=some z) (C:z.cells.size=sz) (r:P.cellsOf e=sz)
 (D:i.bytes≠0) (f:Src sz w x xs) (t:aR sz e w s vs) (E:∀v∈xs,Plain v) (F:(2*(s.len+x.len)+1000)*i.bytes<=281474976710656):
 ∃ (g:ad) (w':J),Sem.run P (Builtin.append_ gT cB #[.slice s.a s.len s.cap,.slice x.a x.len x.cap]) w=.ok (.slice g.a g.len g.cap) w'/\
  aR sz e w' g (vs++xs)/\g.len=s.len+x.len/\ag (aD s) w w'/\(∀k,aD g k->aD s k\/w<=k):=by
 have hold:=t.src;obtain⟨ay,az,G,u⟩:=t;by_cases h:s.len+x.len<=s.cap
 .have H:∀a,s.a=some a->bp w (a.add (s.len*sz)) xs:=by
   intro a j;obtain⟨n,_⟩|⟨b,c,l,o,m,y⟩:=u
   .rw[n]at j;cases j
   .rw[l]at j
    cases j;rw[aA];refine o.ct _ _ ?_ E;rw[m,f.len,cA,←jT];exact nZ _ h
  obtain⟨d,hd⟩:=kV _ hd;have p:=zv (cB:=cB) h0 h1 hs hx hd r f h H;refine⟨⟨s.a,s.len+x.len,s.cap⟩,_,p,?_,rfl,?_,λk q=>.inl q⟩
  .refine⟨by simp[ay,f.len,jT],h,G,?_⟩
   obtain⟨n,hc⟩|⟨b,c,l,o,m,y⟩:=u
   .exact .inl ⟨n,hc⟩
   .refine .inr ⟨b,gV c (s.len*sz) xs,l,?_,by rw[ja];exact m,?_⟩
    .simp only[l,aA]
     have:=bu.tc (T:=e) xs (0+s.len*sz) 0 o;simpa using this
    .have K:s.len*sz+xs.length<=c.size:=by
      rw[m,f.len,←jT];exact nZ _ h
     have:=te xs c (s.len*sz) K;rw[f.len,←jT]at this;rw[this,y]
  .cases L:s.a with
   |none=>exact .refl _ _
   |some a=>
    refine ag.setCells (λ_=>?_) xs 0 (.refl _ _);exact⟨a,L,by unfold Addr.add;split<;>rfl⟩
 .obtain⟨M,rest,N,Q,R,p⟩:=run_append_grow (cB:=cB) h0 h1 hs hx hi hd B C r D f hold I F
  refine⟨⟨some ⟨w,0,none⟩,s.len+x.len,M⟩,_,p,?_,rfl,ag.alloc (ag.drew (.refl _ _)) _,?_⟩
  .refine⟨by simp[ay,f.len,jT],N,Q,.inr ⟨w,(vs++xs++rest).toArray,rfl,bu.new w.drew _ _,?_,?_⟩⟩
   .simp[ay,f.len,R]
    rw[←jT,←jT]
    congr 1
    omega
   .have:(vs++xs).length=(s.len+x.len)*sz:=by simp[ay,f.len,jT]
    show List.take ((s.len+x.len)*sz) (vs++xs++rest).toArray.toList=vs++xs;rw[←this];exact List.take_left
  .rintro k ⟨A,av,q⟩
   cases av;exact .inr (by simpa using q▸bk _)
end
theorem aR.ah{sz:Nat}{T:TypeId}{w w':J}{s:ad}{vs:O aa}{W:U1}(h:aR sz T w s vs)(hc:ag W w w')(e:∀k,aD s k->¬W k):aR sz T w' s vs:=by
 obtain⟨h1,h2,f,a⟩:=h;refine⟨h1,h2,f,?_⟩;obtain a|⟨b,c,d,g,i,j⟩:=a
 .exact .inl a
 .exact .inr ⟨b,c,d,g.ah hc (e b ⟨_,d,rfl⟩),i,j⟩
theorem Src.ah{sz:Nat}{w w':J}{s:ad}{vs:O aa}{W:U1}(h:Src sz w s vs)(hc:ag W w w')(c:∀k,aD s k->¬W k):Src sz w' s vs:=
 ⟨h.len,h.nil,λa b=>hc.bf (c _ ⟨a,b,rfl⟩) _ _ _ (h.rd a b)⟩
theorem aR.lt{sz:Nat}{T:TypeId}{w:J}{s:ad}{vs:O aa}(h:aR sz T w s vs):∀k,aD s k->k<w:=by
 rintro k ⟨A,av,rfl⟩;obtain⟨_,_,_,a⟩:=h;obtain⟨d,_⟩|⟨b,c,e,f,_⟩:=a
 .rw[d]at av;cases av
 .rw[e]at av;cases av;exact f.lt
theorem aR.cell{T:TypeId}{w:J}{s:ad}{vs:O aa}(h:aR 1 T w s vs){i:Nat}{v:aa}(d:vs[i]? =some v):
 ∃b c,s.a=some ⟨b,0,none⟩/\bu w b c T/\c.size=s.cap/\i<s.len/\i<c.size/\w.cell? ⟨b,i,none⟩=some v/\c.toList.take s.len=vs:=by
 obtain⟨h1,h2,k,g⟩:=h;have hi:i<s.len:=by
  have:=(kn.1 d).1;omega
 obtain⟨_,hc⟩|⟨b,c,j,e,f,ht⟩:=g
 .omega
 .rw[f_]at f ht
  refine⟨b,c,j,e,f,hi,I,?_,ht⟩;rw[e.cell];rw[←ht,uW]at d;rw[if_pos hi]at d;simpa using d
theorem aR.set{T:TypeId}{w:J}{s:ad}{vs:O aa}{b i:Nat}(h:aR 1 T w s vs)(d:s.a=some ⟨b,0,none⟩)(v:aa):
 aR 1 T (w.setCell ⟨b,i,none⟩ v) s (vs.set i v):=by
 obtain⟨h1,h2,f,g⟩:=h;refine⟨by simpa using h1,h2,f,.inr ?_⟩;obtain⟨j,_⟩|⟨m,c,e,k,l,ht⟩:=g
 .rw[j]at d;cases d
 .rw[d]at e
  cases e;refine⟨b,_,d,k.set i v,by simpa using l,?_⟩;rw[←ht];simp[List.take_set]
def C5(P:Program)(cS e:TypeId)(sz bytes:Nat):ao:=
 match P.underlying cS,P.info? e,P.underlying e with
 |some (.slice a),some i,some _=>a==e&&(match i.zero with|some z=>z.cells.size==sz|none=>false)&&P.cellsOf e==sz&&i.bytes==bytes&&bytes !=0
 |_,_,_=>false
structure ij(P:Program)(cS e:TypeId)(sz bytes:Nat):Prop where
 h:C5 P cS e sz bytes=true
theorem ij.out{P:Program}{cS e:TypeId}{sz bytes:Nat}(h:ij P cS e sz bytes):
 P.underlying cS=some (.slice e)/\∃i z,P.info? e=some i/\(P.underlying e).isSome=true/\i.zero=some z/\z.cells.size=sz/\P.cellsOf e=sz/\i.bytes=bytes/\bytes≠0:=by
 have h:=h.h;unfold C5 at h;split at h
 .rename_i k i d h1 h2 b
  simp only[dg,kq,bne_iff_ne]at h;obtain⟨⟨⟨⟨rfl,a⟩,c⟩,f⟩,g⟩:=h;split at a
  .rename_i z j
   exact⟨h1,i,z,h2,by simp[b],j,by simpa using a,c,f,g⟩
  .cases a
 .cases h
theorem ij.append{P:Program}{w:J}{cS e cB:TypeId}{sz bytes:Nat}{s x:ad}{xs vs:O aa}(h:ij P cS e sz bytes)
 (c:Src sz w x xs) (d:aR sz e w s vs) (f:∀v∈xs,Plain v) (g:(2*(s.len+x.len)+1000)*bytes<=281474976710656):
 ∃ (b:ad) (w':J),Sem.run P (Builtin.append_ #[cS,cS] cB #[.slice s.a s.len s.cap,.slice x.a x.len x.cap]) w=.ok (.slice b.a b.len b.cap) w'/\
  aR sz e w' b (vs++xs)/\b.len=s.len+x.len/\ag (aD s) w w'/\(∀k,aD b k->aD s k\/w<=k):=by
 obtain⟨h1,i,z,h2,j,l,m,n,rfl,o⟩:=h.out;exact Hv rfl rfl h1 h1 h2 j l m n o c d f g
theorem Src.new{sz:Nat}{T:TypeId}(w:J)(xs:O aa)(n:Nat)(b:xs.length=n*sz):Src sz (w.alloc (.cells xs.toArray T)) ⟨some ⟨w,0,none⟩,n,n⟩ xs:=by
 refine⟨b,(λh=>by cases h),λa c=>?_⟩
 cases c;rw[q7 (bu.new w xs.toArray T) _ _ _ (by simp[b])];simp[←b]
theorem aR.new{sz:Nat}{T:TypeId}(w:J)(xs:O aa)(n:Nat)(a:xs.length=n*sz)(b:n<=maxLen):aR sz T (w.alloc (.cells xs.toArray T)) ⟨some ⟨w,0,none⟩,n,n⟩ xs:=by
 refine⟨a,bk _,b,.inr ⟨_,_,rfl,bu.new w _ _,by simp[a],?_⟩⟩;show List.take (n*sz) xs=xs;rw[←a,ic]
theorem aR.none(sz:Nat)(T:TypeId)(w:J):aR sz T w ⟨.none,0,0⟩ []:=⟨by simp,bk _,by decide,.inl ⟨rfl,rfl⟩⟩
theorem fH(k:Nat):¬aD ⟨.none,0,0⟩ k:=by rintro⟨A,av,_⟩;cases av
theorem jr{A:af}{n m k:Nat}:aD ⟨some A,n,m⟩ k↔A.block=k:=⟨λ⟨B,a,h⟩=>by cases a;exact h,λh=>⟨_,rfl,h⟩⟩
theorem Src.alloc{sz:Nat}{w:J}{s:ad}{vs:O aa}(h:Src sz w s vs)(o:Obj):Src sz (w.alloc o) s vs:=h.ah (W:=λ_=>False) (ag.alloc (.refl _ _) o) (λ_ _ h=>h)
theorem aR.ext{sz:Nat}{T:TypeId}{w w':J}{s:ad}{vs:O aa}(h:aR sz T w s vs)(hc:Ext w w'):aR sz T w' s vs:=h.ah hc λ_ _ h=>h
theorem Src.ext{sz:Nat}{w w':J}{s:ad}{vs:O aa}(h:Src sz w s vs)(hc:Ext w w'):Src sz w' s vs:=h.ah hc λ_ _ h=>h
theorem ij.push{P:Program}{w:J}{cS e cB:TypeId}{sz bytes:Nat}{s:ad}{vs xs:O aa}(h:ij P cS e sz bytes)(hx:xs.length=sz)
 (c:aR sz e w s vs) (d:∀v∈xs,Plain v) (f:(2*(s.len+1)+1000)*bytes<=281474976710656):
 ∃ (b:ad) (w':J),Sem.run P (Builtin.append_ #[cS,cS] cB #[.slice s.a s.len s.cap,.slice (some ⟨w.heap.size,0,none⟩) 1 1]) (w.alloc (.cells xs.toArray e))=.ok (.slice b.a b.len b.cap) w'/\
  aR sz e w' b (vs++xs)/\b.len=s.len+1/\ag (aD s) w w'/\(∀k,aD b k->aD s k\/w.heap.size<=k):=by
 have hc:Ext w (w.alloc (.cells xs.toArray e)):=ag.alloc (.refl _ _) _;obtain⟨b,w',h1,h2,g,i,j⟩:=h.append (cB:=cB) (Src.new (T:=e) w xs 1 (by simpa using hx)) (c.ext hc) d f;exact⟨b,w',h1,h2,g,(ag.cX hc).trans i,λk l=>(j k l).imp id (λh=>by simp at h;omega)⟩
theorem ij.clone{P:Program}{w:J}{cS e cB:TypeId}{sz bytes:Nat}{x:ad}{xs:O aa}(h:ij P cS e sz bytes)
 (m:Src sz w x xs) (q:∀v∈xs,Plain v) (r:(2*x.len+1000)*bytes<=281474976710656):
 ∃ (f:ad) (w':J),Sem.run P (Builtin.append_ #[cS,cS] cB #[.slice (some ⟨w,0,none⟩) 0 0,.slice x.a x.len x.cap]) (w.alloc (.cells #[] e))=.ok (.slice f.a f.len f.cap) w'/\
  aR sz e w' f xs/\f.len=x.len/\Ext w w'/\(∀k,aD f k->w<=k)/\f.a.isSome=true:=by
 have t:=aR.new (sz:=sz) (T:=e) w [] 0 U9 (by decide);have n:=m.alloc (.cells #[] e);obtain⟨f,w',h1,h2,o,g,u⟩:=h.append (cB:=cB) n t q (by simpa using r);refine⟨f,w',h1,by simpa using h2,by simpa using o,?_,λk j=>?_,?_⟩
 .refine⟨g.os.trans rfl,g.tape.trans rfl,g.output.trans rfl,?_,λk j _=>?_⟩
  .have:=g.size;simp at this;omega
  .rw[g.block k (by simp;omega) (by rintro⟨A,av,h⟩;cases av;simp at h;omega)]
   exact Below.heap_alloc _ _ _ j
 .rcases u k j with ⟨A,av,h⟩|h
  .cases av;simp at h;omega
  .simp at h;omega
 .obtain⟨_,i,z,F,y,G,H,B,rfl,I⟩:=h.out
  have l:=h2.2.2.2;rcases l with ⟨C,hc⟩|⟨b,c,l,_⟩
  .
   exfalso;have K:=h2.2.1;have p:x.len=0:=by simp at o;omega
   have D:xs=[]:=mo.1 (by rw[m.len,p,qJ]);obtain⟨d,hd⟩:=kV _ y;have:=zv (P:=P) (w:=w.alloc (.cells #[] e)) (gT:= #[cS,cS]) (cB:=cB) (s:=⟨some ⟨w,0,Option.none⟩,0,0⟩) rfl rfl h.out.1 h.out.1 hd B n (by simp[p]) (λa _=>by
    rw[D];exact⟨λi hi=>by simp at hi,λv E=>by simp at E⟩)
   rw[this]at h1;simp only[Result.ok.injEq,Value.slice.injEq]at h1;rw[C]at h1
   cases h1.1.1
  .rw[l];rfl
theorem Hw(k:IntKind)(ns:O Int):∀v∈ns.map (Value.int k),Plain v:=by
 intro v a;obtain⟨n,_,rfl⟩:=eJ.1 a;trivial
theorem aR.at{T:TypeId}{w:J}{s:ad}{vs:O aa}(h:aR 1 T w s vs){i:Nat}{v:aa}(g:vs[i]? =some v):
 ∃A:af,s.a=some A/\((0:Int)<=(i:Int)/\(i:Int)<((s.len:Nat):Int))/\w.cell? (A.add (Int.toNat (i:Int)*1))=some v/\w.frozen? (A.add (Int.toNat (i:Int)*1))=false/\
  aD s (A.add (Int.toNat (i:Int)*1)).block/\∀d,aR 1 T (w.setCell (A.add (Int.toNat (i:Int)*1)) d) s (vs.set i d):=by
 obtain⟨b,c,f,j,k,hi,l,hc,_⟩:=h.cell g;have e:(Addr.mk b 0 Option.none).add (Int.toNat (i:Int)*1)=⟨b,i,Option.none⟩:=by rw[f_,c2,aA,cA]
 exact⟨_,f,⟨I,I⟩,by rw[e];exact hc,by rw[e];exact j.frozen _ rfl,by rw[e];exact⟨_,f,rfl⟩,λd=>by rw[e];exact h.set f d⟩
end aS
namespace aS
open Go Go.RowKit
def C6(ns:O Int):ByteArray:=ns.foldl (λr n=>r.push (UInt8.ofNat n.toNat)) ByteArray.empty
theorem Hx{P:Program}{w:J}{src dst e:TypeId}{s:ad}{ns:O Int}(hs:P.underlying src=some (.slice e))(he:P.underlying e=some (.int .u8))(hd:P.underlying dst=some .string)
 (h:Src 1 w s (ns.map (.int .u8))):Sem.run P (convert src dst (.slice s.a s.len s.cap)) w=.ok (.string (C6 ns)) w:=by
 rw[run_convert_bytes_string w src dst e s.a s.len s.cap hs he hd]
 cases b:s.a with
 |none=>
  have:=h.nil b;have d:ns=[]:=by simpa using this
  subst d;rfl
 |some A=>
  have c:=h.rd A b;rw[f_]at c;exact run_bytesToString w A s.len s.cap ns (by
   unfold loadCells;rw[run_loadCellsFrom _ _ _ _ c];simp)
theorem C7{P:Program}{e:TypeId}{v:aa}(a:((P.info? e).bind (·.zero)).map (·.cells)=some #[v])(hc:P.cellsOf e=1)(n:Nat):ig P e n=(List.replicate n v).toArray:=by
 unfold ig;rw[hc]
 cases hi:(P.info? e).bind (·.zero) with
 |none=>rw[hi]at a;cases a
 |some z=>
  rw[hi]at a;simp only[mq,Option.some.injEq]at a;simp only[sM,a,f_];apply Array.ext
  .simp
  .intro i h1 h2
   have b:n≠0:=by
    intro h;subst h;simp at h2
   simp[b,Nat.mod_one]
structure oe(P:Program)(w:J)(e:TypeId)(s:ad):Prop where
 le:s.len<=s.cap
 cap:s.cap<=maxLen
 nil:s.a=none->s.cap=0
 cell:∀a,s.a=some a->∀i,i<s.cap->∃vs,bf w (a.add (i*P.cellsOf e)) 0 (P.cellsOf e)=some vs/\∃fuel,fR P w fuel e vs
section
variable {P:Program}{w:J}{T:TypeId}{fuel:Nat}{cs:O aa}
theorem tf{k:IntKind}(h:fR P w fuel T cs)(a:P.underlying T=some (.int k)):∃n:Int,cs=[.int k n]/\k.min<=n/\n<=k.max:=by
 cases fuel with
 |zero=>cases h
 |succ f=>simpa only[fR,a] using h
theorem zw{e:TypeId}(h:fR P w fuel T cs)(b:P.underlying T=some (.slice e)):∃s:ad,cs=[.slice s.a s.len s.cap]/\oe P w e s:=by
 cases fuel with
 |zero=>cases h
 |succ f=>
  simp only[fR,b]at h;obtain⟨s,h0,h1,h2,c,d⟩:=h;exact⟨s,h0,h1,h2,c,λa g i hi=>by
   obtain⟨vs,j,k⟩:=d a g i hi;exact⟨vs,j,f,k⟩⟩
theorem C8{fs:Array Field}(h:fR P w fuel T cs)(a:P.underlying T=some (.struct fs)):cs.length=P.cellsOf T/\∀f∈fs,∃fuel,fR P w fuel f.type ((cs.drop f.offset).take (P.cellsOf f.type)):=by
 cases fuel with
 |zero=>cases h
 |succ f=>
  simp only[fR,a]at h;exact⟨h.1,λg hg=>⟨f,h.2 g hg⟩⟩
theorem oe.of{e:TypeId}{v:aa}(h:mD P w T v)(b:P.underlying T=some (.slice e)):∃s:ad,v=.slice s.a s.len s.cap/\oe P w e s:=by
 simp only[mD,b]at h;obtain⟨fuel,h⟩:=h;obtain⟨s,h1,h2⟩:=zw h b;exact⟨s,by simpa using h1,h2⟩
end
theorem nj{w:J}{A:af}:∀ {n i:Nat}{vs:O aa}{j:Nat}{v:aa},bf w A i n=some vs->vs[j]? =some v->w.cell? (A.add (i+j))=some v
 |0,i,vs,j,v,h,a=>by simp[bf]at h;subst h;simp at a
 |n+1,i,vs,j,v,h,a=>by
  simp only[bf]at h
  cases h1:w.cell? (A.add i) with
  |none=>simp[h1]at h
  |some u=>
   cases h2:bf w A (i+1) n with
   |none=>simp[h1,h2]at h
   |some us=>
    simp only[h1,h2,Option.some.injEq]at h
    subst h
    cases j with
    |zero=>simp at a;subst a;exact h1
    |succ j=>
     have:=nj h2 (j:=j) (by simpa using a)
     rw[show i+(j+1)=i+1+j from I]
     exact this
theorem Src.at{w:J}{s:ad}{vs:O aa}(h:Src 1 w s vs){i:Nat}{v:aa}(b:vs[i]? =some v):
 ∃A:af,s.a=some A/\((0:Int)<=(i:Int)/\(i:Int)<((s.len:Nat):Int))/\w.cell? (A.add (Int.toNat (i:Int)*1))=some v:=by
 have hi:i<vs.length:=(kn.1 b).1;have d:=h.len
 cases c:s.a with
 |none=>have:=h.nil c;subst this;simp at hi
 |some A=>
  have:=nj (h.rd A c) b;exact⟨A,rfl,⟨I,I⟩,by rw[f_,c2];simpa using this⟩
end aS
