/- What a Go program of the model must show, as text that can be read; sound against the kit. -/
import Derived.Below
import Derived.KernelRfl
import Derived.Laws.BytesString
import Derived.OpenShut
import Derived.OrdersHeld
import Derived.ProofKit
import Derived.Scope
import Derived.StillTail
import Derived.Tactics
import Derived.WalkKit
import Derived.WideKeyArgs
namespace Go
theorem bu:type_of% @Nat.le_refl:=@Nat.le_refl
theorem bI:type_of% @of_decide_eq_true:=@of_decide_eq_true
theorem bW:type_of% @List.length_append:=@List.length_append
theorem b3:type_of% @Nat.zero_add:=@Nat.zero_add
theorem ck:type_of% @of_decide_eq_false:=@of_decide_eq_false
theorem cB:type_of% @Nat.le_trans:=@Nat.le_trans
theorem c4:type_of% @List.mem_cons:=@List.mem_cons
theorem dg:type_of% @List.append_assoc:=@List.append_assoc
theorem dC:type_of% @Nat.zero_le:=@Nat.zero_le
theorem dD:type_of% @List.getElem_mem:=@List.getElem_mem
theorem dH:type_of% @List.mem_singleton:=@List.mem_singleton
theorem dM:type_of% @Bool.and_eq_true:=@Bool.and_eq_true
theorem dN:type_of% @decide_eq_true_eq:=@decide_eq_true_eq
theorem dU:type_of% @List.length_set:=@List.length_set
theorem dX:type_of% @List.mem_map:=@List.mem_map
theorem d_:type_of% @List.length_cons:=@List.length_cons
theorem eB:type_of% @Nat.mul_one:=@Nat.mul_one
theorem eL:type_of% @List.mem_append:=@List.mem_append
theorem eM:type_of% @List.length_map:=@List.length_map
theorem eN:type_of% @List.take_left':=@List.take_left'
theorem eR:type_of% @Int.toNat_natCast:=@Int.toNat_natCast
theorem fb:type_of% @List.take_of_length_le:=@List.take_of_length_le
theorem fu:type_of% @Nat.lt_of_lt_of_le:=@Nat.lt_of_lt_of_le
theorem fv:type_of% @List.map_append:=@List.map_append
theorem fE:type_of% @List.length_nil:=@List.length_nil
theorem fF:type_of% @decide_eq_true:=@decide_eq_true
theorem fG:type_of% @List.getElem_set_ne:=@List.getElem_set_ne
theorem fN:type_of% @Bool.not_eq_true:=@Bool.not_eq_true
theorem fO:type_of% @Nat.lt_or_ge:=@Nat.lt_or_ge
theorem fP:type_of% @List.length_take:=@List.length_take
theorem fQ:type_of% @List.getElem_of_mem:=@List.getElem_of_mem
theorem f_:type_of% @List.map_cons:=@List.map_cons
theorem ga:type_of% @List.drop_left':=@List.drop_left'
theorem gE:type_of% @Bool.false_eq_true:=@Bool.false_eq_true
theorem gQ:type_of% @List.getElem?_eq_getElem:=@List.getElem?_eq_getElem
theorem g1:type_of% @List.not_mem_nil:=@List.not_mem_nil
theorem hE:type_of% @Bool.eq_iff_iff:=@Bool.eq_iff_iff
theorem hF:type_of% @or_false:=@or_false
theorem hV:type_of% @List.drop_drop:=@List.drop_drop
theorem hW:type_of% @Nat.mod_eq_of_lt:=@Nat.mod_eq_of_lt
theorem hY:type_of% @decide_eq_false:=@decide_eq_false
theorem ia:type_of% @List.mem_filter:=@List.mem_filter
theorem ib:type_of% @Nat.mod_lt:=@Nat.mod_lt
theorem iT:type_of% @List.drop_zero:=@List.drop_zero
theorem je:type_of% @Nat.eq_of_beq_eq_true:=@Nat.eq_of_beq_eq_true
theorem jf:type_of% @Bool.true_and:=@Bool.true_and
theorem jg:type_of% @List.take_length:=@List.take_length
theorem jh:type_of% @List.getElem_set_self:=@List.getElem_set_self
theorem jE:type_of% @List.map_map:=@List.map_map
theorem jX:type_of% @List.mem_range:=@List.mem_range
theorem jY:type_of% @beq_iff_eq:=@beq_iff_eq
theorem jZ:type_of% @List.length_drop:=@List.length_drop
theorem j0:type_of% @Nat.min_eq_left:=@Nat.min_eq_left
theorem km:type_of% @Nat.add_mul:=@Nat.add_mul
theorem kn:type_of% @List.take_append_drop:=@List.take_append_drop
theorem ko:type_of% @List.nil_append:=@List.nil_append
theorem kp:type_of% @Option.some_get:=@Option.some_get
theorem kN:type_of% @Nat.add_zero:=@Nat.add_zero
theorem kO:type_of% @Array.getElem?_eq_some_iff:=@Array.getElem?_eq_some_iff
theorem kP:type_of% @List.getElem?_drop:=@List.getElem?_drop
theorem kQ:type_of% @List.drop_eq_getElem_cons:=@List.drop_eq_getElem_cons
theorem kR:type_of% @List.take_succ_eq_append_getElem:=@List.take_succ_eq_append_getElem
theorem kS:type_of% @List.take_append_of_le_length:=@List.take_append_of_le_length
theorem kT:type_of% @List.count_pos_iff:=@List.count_pos_iff
theorem lu:type_of% @List.append_nil:=@List.append_nil
theorem lv:type_of% @List.mem_of_find?_eq_some:=@List.mem_of_find?_eq_some
theorem l6:type_of% @Bool.or_eq_true:=@Bool.or_eq_true
theorem l7:type_of% @Nat.pow_succ:=@Nat.pow_succ
theorem l8:type_of% @List.getD_eq_getElem?_getD:=@List.getD_eq_getElem?_getD
theorem mL:type_of% @Bool.not_eq_true':=@Bool.not_eq_true'
theorem mM:type_of% @Option.map_some:=@Option.map_some
theorem mN:type_of% @List.map_congr_left:=@List.map_congr_left
theorem mO:type_of% @Bool.false_and:=@Bool.false_and
theorem mP:type_of% @List.find?_some:=@List.find?_some
theorem nx:type_of% @List.mem_cons_of_mem:=@List.mem_cons_of_mem
theorem ny:type_of% @decide_eq_false_iff_not:=@decide_eq_false_iff_not
theorem nz:type_of% @Int.tmod_eq_emod_of_nonneg:=@Int.tmod_eq_emod_of_nonneg
theorem nA:type_of% @Int.fdiv_eq_ediv_of_nonneg:=@Int.fdiv_eq_ediv_of_nonneg
theorem nB:type_of% @Nat.pow_le_pow_right:=@Nat.pow_le_pow_right
theorem nC:type_of% @UInt8.toNat_lt:=@UInt8.toNat_lt
theorem nD:type_of% @List.getElem?_eq_none:=@List.getElem?_eq_none
theorem nE:type_of% @List.length_replicate:=@List.length_replicate
theorem oC:type_of% @List.all_eq_true:=@List.all_eq_true
theorem oD:type_of% @List.any_eq_false:=@List.any_eq_false
theorem oE:type_of% @Nat.testBit_or:=@Nat.testBit_or
theorem oF:type_of% @List.getElem?_cons_zero:=@List.getElem?_cons_zero
theorem oG:type_of% @List.any_eq_true:=@List.any_eq_true
theorem oH:type_of% @Nat.le_of_ble_eq_true:=@Nat.le_of_ble_eq_true
theorem oI:type_of% @List.length_eq_zero_iff:=@List.length_eq_zero_iff
theorem oJ:type_of% @List.ext_getElem:=@List.ext_getElem
theorem oK:type_of% @List.getElem?_map:=@List.getElem?_map
theorem oL:type_of% @List.find?_eq_none:=@List.find?_eq_none
theorem pS:type_of% @List.getElem?_eq_some_iff:=@List.getElem?_eq_some_iff
theorem pT:type_of% @List.cons_append:=@List.cons_append
theorem pU:type_of% @Nat.mul_le_mul_right:=@Nat.mul_le_mul_right
theorem pV:type_of% @Nat.add_comm:=@Nat.add_comm
theorem pW:type_of% @List.map_drop:=@List.map_drop
theorem pX:type_of% @List.getElem?_append_right:=@List.getElem?_append_right
theorem pY:type_of% @List.mem_or_eq_of_mem_set:=@List.mem_or_eq_of_mem_set
theorem rf:type_of% @Array.toList_inj:=@Array.toList_inj
theorem rh:type_of% @List.getElem_set:=@List.getElem_set
theorem ri:type_of% @List.perm_middle:=@List.perm_middle
theorem rj:type_of% @List.nodup_append:=@List.nodup_append
theorem rk:type_of% @Nat.eq_zero_or_pos:=@Nat.eq_zero_or_pos
theorem rl:type_of% @UInt8.toNat_inj:=@UInt8.toNat_inj
theorem rm:type_of% @List.map_take:=@List.map_take
theorem rn:type_of% @List.pairwise_cons:=@List.pairwise_cons
theorem rp:type_of% @Nat.xor_lt_two_pow:=@Nat.xor_lt_two_pow
theorem rq:type_of% @List.take_take:=@List.take_take
theorem tn:type_of% @Array.getElem?_modify:=@Array.getElem?_modify
theorem tp:type_of% @List.filterMap_cons:=@List.filterMap_cons
theorem tq:type_of% @List.filterMap_append:=@List.filterMap_append
theorem tr:type_of% @Nat.testBit_two_pow:=@Nat.testBit_two_pow
theorem tt:type_of% @Bool.false_or:=@Bool.false_or
theorem tu:type_of% @Nat.add_assoc:=@Nat.add_assoc
theorem tv:type_of% @List.getElem?_toArray:=@List.getElem?_toArray
theorem tw:type_of% @List.foldl_cons:=@List.foldl_cons
theorem tx:type_of% @List.mem_append_left:=@List.mem_append_left
theorem tz:type_of% @List.pairwise_iff_getElem:=@List.pairwise_iff_getElem
theorem tA:type_of% @List.set_append_right:=@List.set_append_right
theorem tB:type_of% @Bool.and_false:=@Bool.and_false
theorem tC:type_of% @List.drop_eq_nil_of_le:=@List.drop_eq_nil_of_le
theorem vO:type_of% @Option.isSome_iff_exists:=@Option.isSome_iff_exists
theorem vP:type_of% @Int.tdiv_eq_ediv_of_nonneg:=@Int.tdiv_eq_ediv_of_nonneg
theorem vQ:type_of% @Nat.div_div_eq_div_mul:=@Nat.div_div_eq_div_mul
theorem vR:type_of% @List.drop_of_length_le:=@List.drop_of_length_le
theorem vS:type_of% @Nat.div_lt_iff_lt_mul:=@Nat.div_lt_iff_lt_mul
theorem vT:type_of% @List.foldl_append:=@List.foldl_append
theorem vU:type_of% @List.length_singleton:=@List.length_singleton
theorem vV:type_of% @List.flatten_append:=@List.flatten_append
theorem vW:type_of% @List.toList_toArray:=@List.toList_toArray
theorem AU:type_of% @List.getElem?_take_of_lt:=@List.getElem?_take_of_lt
theorem AV:type_of% @List.eq_of_mem_replicate:=@List.eq_of_mem_replicate
theorem AW:type_of% @Int.eq_ofNat_of_zero_le:=@Int.eq_ofNat_of_zero_le
theorem J{p:Prop}(h:p:=by omega):p:=h
abbrev I:=World
abbrev O:=Value
abbrev aw(α:Type):=Option α
abbrev Y(α:Type):=List α
abbrev av:=Addr
abbrev ah:=Bool
end Go
namespace aQ
open Go
structure ai where
 a:aw av
 len:Nat
 cap:Nat
instance:Coe ai Value:=⟨λs=>.slice s.a s.len s.cap⟩
instance:Coe Int Value:=⟨λn=>.int .i64 n⟩
instance:Coe Nat Value:=⟨λn=>.int .i64 (n:Int)⟩
instance:Coe Bool Value:=⟨λb=>.bool b⟩
instance:Coe Nat Addr:=⟨λb=>⟨b,0,none⟩⟩
instance:Coe (Option Addr) Value:=⟨λp=>.pointer p⟩
instance:Coe Unit Value:=⟨λ_=>.slice none 0 0⟩
structure ic where
 f:FuncId
 pre:Array O
 cap:Array O
inductive cI where
 |int (k:IntKind)|bool|str|ptr|slice|map|agg|fn|any
def cI.T:cI->Type
 | .int _=>Int
 | .bool=>ah
 | .str=>ByteArray
 | .ptr=>aw av
 | .slice=>ai
 | .map=>aw Nat
 | .agg=>Array O
 | .fn=>ic
 | .any=>O
def cI.v:(l:cI)->l.T->O
 | .int k,(n:Int)=>.int k n
 | .bool,(b:ah)=>.bool b
 | .str,(s:ByteArray)=>.string s
 | .ptr,(p:aw av)=>.pointer p
 | .slice,(s:ai)=>.slice s.a s.len s.cap
 | .map,(r:aw Nat)=>.map r
 | .agg,(cs:Array O)=>.agg cs
 | .fn,(F:ic)=>.func (.func F.f) F.pre F.cap
 | .any,(v:O)=>v
inductive Kd where
 |one (l:cI)
 |flat (ls:Y cI)
def pZ(l:cI)(K:O->Prop):Prop:=
 match l with
 | .int k=>∃n:Int,K (.int k n)
 | .bool=>∃b:ah,K (.bool b)
 | .str=>∃s:ByteArray,K (.string s)
 | .ptr=>∃p:aw av,K (.pointer p)
 | .slice=>∃s:ai,K (.slice s.a s.len s.cap)
 | .map=>∃r:aw Nat,K (.map r)
 | .agg=>∃cs:Array O,K (.agg cs)
 | .fn=>∃F:ic,K (.func (.func F.f) F.pre F.cap)
 | .any=>∃v:O,K v
def AX:Y cI->(Y O->Prop)->Prop
 | [],K=>K []
 |l::ls,K=>pZ l λv=>AX ls λvs=>K (v::vs)
def AY(k:Kd)(K:O->Prop):Prop:=
 match k with
 | .one l=>pZ l K
 | .flat ls=>AX ls λvs=>K (.agg vs.toArray)
def vX:Y Kd->(Y O->Prop)->Prop
 | [],K=>K []
 |k::a,K=>AY k λv=>vX a λvs=>K (v::vs)
theorem rr{l:cI}{K:O->Prop}(h:pZ l K):∃v,K v:=by
 cases l<;>simp only[pZ]at h<;>obtain⟨x,h⟩:=h<;>exact⟨_,h⟩
theorem Dj:∀ {ls:Y cI}{K:Y O->Prop},AX ls K->∃vs,K vs
 | [],_,h=>⟨_,h⟩
 |_::_,_,h=>let ⟨_,h⟩:=rr h;let ⟨_,h⟩:=Dj h;⟨_,h⟩
theorem Dk{k:Kd}{K:O->Prop}(h:AY k K):∃v,K v:=by
 cases k with
 |one l=>exact rr h
 |flat ls=>obtain⟨_,h⟩:=Dj h;exact⟨_,h⟩
theorem AZ:∀ {ls:Y Kd}{K:Y O->Prop},vX ls K->∃vs,K vs
 | [],_,h=>⟨_,h⟩
 |_::_,_,h=>let ⟨_,h⟩:=Dk h;let ⟨_,h⟩:=AZ h;⟨_,h⟩
abbrev Env:=Y (Nat×O)
def Env.get:Env->Nat->aw O
 | [],_=>none
 |(k,v)::e,s=>bif Nat.beq k s then some v else Env.get e s
def ev(e:Env):Operand->aw O
 | .tmp t=>e.get t
 | .const v=>some v
 | .global g=>some (.pointer (some ⟨g,0,none⟩))
 | .func f=>some (.func (.func f) #[] #[])
def ro(e:Env)(x:Operand):O:=(ev e x).getD undef
def known(e:Env)(xs:Array Operand):ah:=xs.toList.all λx=>(ev e x).isSome
structure dh(e:Env)(a:Act):Prop where
 get:∀s v,e.get s=some v->a.tmps[s]? =some v
theorem dh.ev{e:Env}{a:Act}(h:dh e a){x:Operand}{v:O}(hx:ev e x=some v):a.eval x=v:=by
 cases x with
 |tmp t=>
  have:=h.get t v hx;simp[Act.eval,Array.getD_eq_getD_getElem?,this]
 |const c=>simpa[aQ.ev,Act.eval] using hx
 |global g=>simpa[aQ.ev,Act.eval] using hx
 |func f=>simpa[aQ.ev,Act.eval] using hx
theorem dh.ro{e:Env}{a:Act}(h:dh e a){x:Operand}(hx:(aQ.ev e x).isSome=true):a.eval x=ro e x:=by
 obtain⟨v,b⟩:=vO.1 hx;rw[h.ev b,aQ.ro,b];rfl
def c_(d:aw Nat)(v:O)(e:Env):Env:=
 match d with
 |some d=>(d,v)::e
 |none=>e
theorem p0(d:Nat)(v:O)(e:Env)(s:Nat):Env.get ((d,v)::e) s=if d=s then some v else e.get s:=by
 simp only[Env.get,cond_eq_ite];by_cases a:d=s
 .subst a;simp
 .have:Nat.beq d s=false:=by
   cases hb:Nat.beq d s
   .rfl
   .exact absurd (je hb) a
  simp[this,a]
theorem dh.put{e:Env}{a:Act}(h:dh e a){d:aw Nat}{v:O}(hd:∀k,d=some k->k<a.tmps.size):dh (c_ d v e) (a.put d v):=by
 cases d with
 |none=>exact h
 |some d=>
  constructor;intro s u b;rw[c_,p0]at b;simp only[Act.put];by_cases c:d=s
  .subst c
   simp only[if_true,Option.some.injEq]at b;subst b;simp[hd d rfl]
  .rw[if_neg c]at b
   rw[Array.getElem?_setIfInBounds_ne c];exact h.get s u b
inductive dO where
 |one (k:Kd)
 |dP (a:Y Kd)
def iU(r:dO)(K:O->Prop):Prop:=
 match r with
 | .one k=>AY k K
 | .dP a=>vX a λvs=>K (.tuple vs.toArray)
theorem ji{r:dO}{K:O->Prop}(h:iU r K):∃v,K v:=by
 cases r with
 |one k=>exact Dk h
 |dP a=>obtain⟨_,h⟩:=AZ h;exact⟨_,h⟩
def aG(w:I)(A:av):Nat->Nat->aw (Y O)
 |_,0=>some []
 |i,n+1=>match w.cell? (A.add i),aG w A (i+1) n with
  |some v,some vs=>some (v::vs)
  |_,_=>none
def setCells(w:I)(A:av):Nat->Y O->I
 |_,[]=>w
 |i,v::vs=>setCells (w.setCell (A.add i) v) A (i+1) vs
def Plain:O->Prop
 | .agg _=>False
 | .tuple _=>False
 |_=>True
def bE(w:I)(A:av)(vs:Y O):Prop:=
 (∀i,i<vs.length->(w.cell? (A.add i)).isSome=true/\w.frozen? (A.add i)=false)/\∀v∈vs,Plain v
def g2:TypeDesc->ah
 | .struct _=>true
 | .array _ _=>true
 |_=>false
def gF(P:Program)(elem:TypeId)(n:Nat):Array O:=
 let zero:=if n*P.cellsOf elem=0 then #[] else (((P.info? elem).bind (·.zero)).getD undef).cells
 (Array.range (n*P.cellsOf elem)).map (zero[· %zero.size]!)
section
variable {P:Program}{w:I}
theorem cL{t:TypeId}{d:TypeDesc}(h:P.underlying t=some d):(underlying t).run P w=.ok d w:=by
 simp[underlying,program,Sem.run,bind,Sem.bind,h,pure]
theorem oM{t:TypeId}{d:TypeInfo}(h:P.info? t=some d):(typeInfo t).run P w=.ok d w:=by
 simp[typeInfo,program,Sem.run,bind,Sem.bind,h,pure]
theorem info_of_underlying{t:TypeId}{d:TypeDesc}(h:P.underlying t=some d):∃i,P.info? t=some i:=by
 unfold Program.underlying at h
 cases hi:P.info? t with
 |none=>simp[hi]at h
 |some i=>exact⟨i,rfl⟩
theorem g3{t:TypeId}{d:TypeDesc}(h:P.underlying t=some d):(Go.sizeOf t).run P w=.ok (P.cellsOf t) w:=by
 obtain⟨i,hi⟩:=info_of_underlying h;simp[Go.sizeOf,oM hi,Program.cellsOf,hi]
theorem ru{t:TypeId}{d:TypeDesc}(h:P.underlying t=some d):(isAgg t).run P w=.ok (g2 d) w:=by
 simp only[isAgg,Sem.run_bind,cL h,Result.andThen]
 cases d<;>rfl
theorem A0{A:av}{v:O}(h:w.cell? A=some v):(load A).run P w=.ok v w:=by
 simp[load,Sem.run,h]
theorem run_loadCellsFrom{A:av}:∀ (n i:Nat) (a:Array O) (vs:Y O),aG w A i n=some vs->
 (loadCellsFrom A i n a).run P w=.ok (a++vs.toArray) w
 |0,i,a,vs,h=>by
  simp only[aG,Option.some.injEq]at h
  subst h
  simp[loadCellsFrom]
 |n+1,i,a,vs,h=>by
  simp only[aG]at h
  cases h1:w.cell? (A.add i) with
  |none=>simp[h1]at h
  |some v=>
   cases h2:aG w A (i+1) n with
   |none=>simp[h1,h2]at h
   |some us=>
    simp only[h1,h2,Option.some.injEq]at h
    subst h
    simp only[loadCellsFrom,Sem.run_bind,A0 h1,Result.andThen]
    rw[run_loadCellsFrom n (i+1) (a.push v) us h2]
    simp
theorem vY{T:TypeId}{d:TypeDesc}(a:P.underlying T=some d)(hd:g2 d=true){A:av}{vs:Y O}(h:aG w A 0 (P.cellsOf T)=some vs):
 (loadVar T A).run P w=.ok (.agg vs.toArray) w:=by
 simp only[loadVar,Sem.run_bind,ru a,Result.andThen,hd,if_true,g3 a,loadCells,run_loadCellsFrom _ _ _ _ h];simp
theorem Dl{T:TypeId}{d:TypeDesc}(a:P.underlying T=some d)(hd:g2 d=false){A:av}{v:O}(h:w.cell? A=some v):
 (loadVar T A).run P w=.ok v w:=by
 simp only[loadVar,Sem.run_bind,ru a,Result.andThen,hd,gE,if_false,A0 h]
theorem ID{A:av}{v u:O}(a:Plain v)(h:w.cell? A=some u)(hf:w.frozen? A=false):(store A v).run P w=.ok () (w.setCell A v):=by
 cases v<;>simp_all [store,Sem.run,Plain]
theorem IE(w:I)(A B:av)(v:O):((w.setCell A v).cell? B).isSome=(w.cell? B).isSome:=by
 simp only[World.setCell,World.cell?,tn];by_cases hb:A.block=B.block
 .simp only[hb,if_true]
  cases w.heap[B.block]? with
  |none=>rfl
  |some o=>
   cases o<;>simp
   by_cases a:B.spot.isSome<;>simp[a]
   by_cases b:A.spot.isSome<;>simp[b]
   rw[hE];simp
 .simp[hb]
theorem IF(w:I)(A B:av)(v:O):(w.setCell A v).frozen? B=w.frozen? B:=by
 simp only[World.setCell,World.frozen?,tn];by_cases hb:A.block=B.block
 .simp only[hb,if_true]
  cases w.heap[B.block]? with
  |none=>rfl
  |some o=>cases o<;>rfl
 .simp[hb]
theorem rv{A:av}:∀ (vs:Y O) (i:Nat) (w:I),(∀j,j<vs.length->(w.cell? (A.add (i+j))).isSome=true/\w.frozen? (A.add (i+j))=false)->(∀v∈vs,Plain v)->
 (storeCells A vs i).run P w=.ok () (setCells w A i vs)
 | [],i,w,_,_=>rfl
 |v::vs,i,w,h,a=>by
  have h0:=h 0 (by simp)
  simp only[kN]at h0
  obtain⟨u,hu⟩:=vO.1 h0.1
  simp only[storeCells,Sem.run_bind,ID (P:=P) (a v (by simp)) hu h0.2,Result.andThen,setCells]
  refine rv vs (i+1) (w.setCell (A.add i) v) (λj b=>?_) (λx hx=>a x (by simp[hx]))
  have:=h (j+1) (by simp;omega)
  rw[IE,IF,show i+1+j=i+(j+1) from J]
  exact this
theorem Dm{T:TypeId}{d:TypeDesc}(a:P.underlying T=some d){A:av}{v:O}(b:v.cells.size=P.cellsOf T)(h:bE w A v.cells.toList):
 (storeVar T A v).run P w=.ok () (setCells w A 0 v.cells.toList):=by
 simp only[storeVar,Sem.run_bind,g3 a,Result.andThen,b,ne_eq,not_true,if_false];simpa using rv v.cells.toList 0 w (by simpa using h.1) h.2
end
def A1:Y cI->av->Nat->I->(Y O->Prop)->Prop
 | [],_,_,_,K=>K []
 |l::ls,A,i,w,K=>pZ l λv=>w.cell? (A.add i)=some v/\A1 ls A (i+1) w λvs=>K (v::vs)
def ry(P:Program)(tk:TypeId->dO)(T:TypeId)(A:av)(w:I)(K:O->Prop):Prop:=
 match P.underlying T with
 |none=>False
 |some d=>
  bif g2 d then
   match tk T with
   | .one (.flat ls)=>bif Nat.beq (P.cellsOf T) ls.length then A1 ls A 0 w λvs=>K (.agg vs.toArray) else False
   |_=>∃cs:Y O,aG w A 0 (P.cellsOf T)=some cs/\K (.agg cs.toArray)
  else
   match tk T with
   | .one (.one l)=>pZ l λv=>w.cell? A=some v/\K v
   |_=>False
def A2(P:Program)(tk:TypeId->dO)(T:TypeId)(A:av)(x:O)(w:I)(K:I->Prop):Prop:=
 match P.underlying T with
 |none=>False
 |some d=>
  bif g2 d then
   match x with
   | .agg cs=>bE w A cs.toList/\cs.size=P.cellsOf T/\K (setCells w A 0 cs.toList)
   |_=>False
  else bif Nat.beq (P.cellsOf T) 1 then
   match tk T with
   | .one (.one .any)=>Plain x/\(∃u,w.cell? A=some u)/\w.frozen? A=false/\K (w.setCell A x)
   |_=>match x with
    | .agg _=>False
    | .tuple _=>False
    |_=>(∃u,w.cell? A=some u)/\w.frozen? A=false/\K (w.setCell A x)
  else False
def jj(P:Program)(T:TypeId)(xs ys:Array O)(b:ah):Prop:=
 P.eqGuardType P.depth T=false/\∀w,(Op.equal T (.agg xs) (.agg ys)).run P w=.ok b w
def p1:O->aw ah
 | .nilIface=>some true
 | .iface _ _=>some false
 |_=>none
def p2:aw TypeDesc->ah
 |some (.interface _)=>true
 |_=>false
def nF:aw TypeDesc->ah
 |some (.pointer _)=>true
 |_=>false
def oN:aw TypeDesc->ah
 |some (.slice _)=>true
 |_=>false
def rz:aw TypeDesc->ah
 |some (.map _ _)=>true
 |_=>false
def kU:IntKind->IntKind->ah:=λa b=>decide (a=b)
def vZ(P:Program)(op:BinOp)(T:TypeId)(x y:O)(K:O->Prop)(G:Prop):Prop:=
 match y with
 | .nilIface=>bif p2 (P.underlying T) then
  match op with
  | .eql=>∃b,p1 x=some b/\K (.bool b)
  | .neq=>∃b,p1 x=some b/\K (.bool (!b))
  |_=>False
  else False
 | .pointer none=>bif nF (P.underlying T) then
  match op,x with
  | .eql,.pointer p=>K (.bool p.isNone)
  | .neq,.pointer p=>K (.bool (!p.isNone))
  |_,_=>False
  else False
 | .slice none _ _=>bif oN (P.underlying T) then
  match op,x with
  | .eql,.slice a _ _=>K (.bool a.isNone)
  | .neq,.slice a _ _=>K (.bool (!a.isNone))
  |_,_=>False
  else False
 | .map none=>bif rz (P.underlying T) then
  match op,x with
  | .eql,.map r=>K (.bool r.isNone)
  | .neq,.map r=>K (.bool (!r.isNone))
  |_,_=>False
  else False
 | .agg ys=>
  match op,x with
  | .eql,.agg xs=>∃b,jj P T xs ys b/\K (.bool b)
  | .neq,.agg xs=>∃b,jj P T xs ys b/\K (.bool (!b))
  |_,_=>False
 | .int c b=>
  match op,x with
  | .quo,.int k a=>bif kU k c then b≠0/\K (.int k (k.wrap (a.tdiv b))) else False
  | .rem,.int k a=>bif kU k c then b≠0/\K (.int k (a.tmod b)) else False
  | .shl,.int k a=>0<=b/\K (.int k (k.wrap (a*2^(min b.toNat k.bits))))
  | .shr,.int k a=>0<=b/\K (.int k (a.fdiv (2^(min b.toNat k.bits))))
  |_,_=>G
 | .bool b=>match P.underlying T with
  |some .bool=>match op,x with
   | .eql,.bool a=>K (.bool (a==b))
   | .neq,.bool a=>K (.bool (!(a==b)))
   |_,_=>False
  |_=>False
 | .string b=>
  match op,x with
  | .add,.string a=>((a.size+b.size:Nat):Int)<=9223372036854775807/\K (.string (a++b))
  |_,_=>G
 |_=>G
section
variable {P:Program}
theorem p3(T:TypeId)(x y:O):Op.equal T x y=Op.equalIn (9999+1) T x y:=rfl
theorem IG(d:Nat){T:TypeId}{x:O}{b:ah}(a:p2 (P.underlying T)=true)(h:p1 x=some b)(w:I):
 (Op.equalIn (d+1) T x .nilIface).run P w=.ok b w:=by
 cases hu:P.underlying T with
 |none=>simp[hu,p2]at a
 |some d=>
  cases d<;>simp only[hu,p2,gE]at a
  simp only[Op.equalIn,Sem.run_bind,cL hu,Result.andThen]
  cases x<;>simp only[p1,reduceCtorEq,Option.some.injEq]at h<;>subst h<;>rfl
theorem IH(d:Nat){T:TypeId}{p:aw av}(a:nF (P.underlying T)=true)(w:I):
 (Op.equalIn (d+1) T (.pointer p) (.pointer none)).run P w=.ok p.isNone w:=by
 cases hu:P.underlying T with
 |none=>simp[hu,nF]at a
 |some d=>
  cases d<;>simp only[hu,nF,gE]at a
  simp only[Op.equalIn,Sem.run_bind,cL hu,Result.andThen]
  cases p<;>rfl
theorem II(d:Nat){T:TypeId}{a:aw av}{l c e c':Nat}(b:oN (P.underlying T)=true)(w:I):
 (Op.equalIn (d+1) T (.slice a l c) (.slice none e c')).run P w=.ok a.isNone w:=by
 cases hu:P.underlying T with
 |none=>simp[hu,oN]at b
 |some d=>
  cases d<;>simp only[hu,oN,gE]at b
  simp only[Op.equalIn,Sem.run_bind,cL hu,Result.andThen]
  cases a<;>rfl
theorem IJ(d:Nat){T:TypeId}{r:aw Nat}(a:rz (P.underlying T)=true)(w:I):
 (Op.equalIn (d+1) T (.map r) (.map none)).run P w=.ok r.isNone w:=by
 cases hu:P.underlying T with
 |none=>simp[hu,rz]at a
 |some d=>
  cases d<;>simp only[hu,rz,gE]at a
  simp only[Op.equalIn,Sem.run_bind,cL hu,Result.andThen]
  cases r<;>rfl
theorem Dn{T:TypeId}{x:O}{b:ah}(a:p2 (P.underlying T)=true)(h:p1 x=some b)(w:I):
 (Op.equal T x .nilIface).run P w=.ok b w:=by rw[p3];exact IG _ a h w
theorem v7{T:TypeId}{p:aw av}(a:nF (P.underlying T)=true)(w:I):
 (Op.equal T (.pointer p) (.pointer none)).run P w=.ok p.isNone w:=by rw[p3];exact IH _ a w
theorem v8{T:TypeId}{a:aw av}{l c b c':Nat}(d:oN (P.underlying T)=true)(w:I):
 (Op.equal T (.slice a l c) (.slice none b c')).run P w=.ok a.isNone w:=by rw[p3];exact II _ d w
theorem Dp{T:TypeId}{r:aw Nat}(a:rz (P.underlying T)=true)(w:I):
 (Op.equal T (.map r) (.map none)).run P w=.ok r.isNone w:=by rw[p3];exact IJ _ a w
theorem Dq{T:TypeId}{xs ys:Array O}(h:P.eqGuardType P.depth T=false)(op:BinOp)(x y:Operand)(w:I):
 (eqGuard op T x y (.agg xs) (.agg ys)).run P w=.ok () w:=by
 cases op<;>simp[eqGuard,program,Sem.run,bind,Sem.bind,h,pure]
theorem Dr{T:TypeId}{a b:ah}(c:P.underlying T=some .bool)(w:I):(Op.equal T (.bool a) (.bool b)).run P w=.ok (a==b) w:=by
 have aT:∀ (d:Nat) (w:I),(Op.equalIn (d+1) T (.bool a) (.bool b)).run P w=.ok (a==b) w:=by
  intro d w;simp[Op.equalIn,cL c]
 rw[p3];exact aT _ w
theorem Ds{op:BinOp}{T:TypeId}{x y:O}{p4 oO:Operand}{K:O->Prop}{G:Prop}
 (i:y=.nilIface->∃c,oO=.const c)
 (h:vZ P op T x y K G):
 G\/∃v,(∀w,(do eqGuard op T p4 oO x y;binOp op T x y:Sem O).run P w=.ok v w)/\K v:=by
 unfold vZ at h;split at h
 case h_1=>
  obtain⟨c,hc⟩:=i rfl;by_cases d:p2 (P.underlying T)=true
  .rw[d]at h
   simp only[cond_true]at h;split at h
   .obtain⟨b,hb,e⟩:=h
    refine .inr ⟨_,λw=>?_,e⟩;have:=Dn (P:=P) d hb w
    cases x<;>simp only[p1,reduceCtorEq,Option.some.injEq]at hb<;>subst hc hb<;>simp[eqGuard,binOp,this]
   .obtain⟨b,hb,e⟩:=h
    refine .inr ⟨_,λw=>?_,e⟩;have:=Dn (P:=P) d hb w
    cases x<;>simp only[p1,reduceCtorEq,Option.some.injEq]at hb<;>subst hc hb<;>simp[eqGuard,binOp,this]
   .exact h.elim
  .simp only[fN]at d;rw[d]at h;exact h.elim
 case h_2=>
  by_cases d:nF (P.underlying T)=true
  .rw[d]at h
   simp only[cond_true]at h;split at h
   .exact .inr ⟨_,λw=>by simp[eqGuard,binOp,v7 (P:=P) d],h⟩
   .exact .inr ⟨_,λw=>by simp[eqGuard,binOp,v7 (P:=P) d],h⟩
   .exact h.elim
  .simp only[fN]at d;rw[d]at h;exact h.elim
 case h_3=>
  by_cases d:oN (P.underlying T)=true
  .rw[d]at h
   simp only[cond_true]at h;split at h
   .exact .inr ⟨_,λw=>by simp[eqGuard,binOp,v8 (P:=P) d],h⟩
   .exact .inr ⟨_,λw=>by simp[eqGuard,binOp,v8 (P:=P) d],h⟩
   .exact h.elim
  .simp only[fN]at d;rw[d]at h;exact h.elim
 case h_4=>
  by_cases d:rz (P.underlying T)=true
  .rw[d]at h
   simp only[cond_true]at h;split at h
   .exact .inr ⟨_,λw=>by simp[eqGuard,binOp,Dp (P:=P) d],h⟩
   .exact .inr ⟨_,λw=>by simp[eqGuard,binOp,Dp (P:=P) d],h⟩
   .exact h.elim
  .simp only[fN]at d;rw[d]at h;exact h.elim
 case h_5=>
  split at h
  .obtain⟨b,⟨h1,h2⟩,e⟩:=h
   exact .inr ⟨_,λw=>by simp[Dq h1,binOp,h2],e⟩
  .obtain⟨b,⟨h1,h2⟩,e⟩:=h
   exact .inr ⟨_,λw=>by simp[Dq h1,binOp,h2],e⟩
  .exact h.elim
 case h_6 g b=>
  split at h
  .rename_i k a
   by_cases f:k=g
   .subst f
    simp only[kU,decide_true,cond_true]at h;exact .inr ⟨_,λw=>by simp[eqGuard,binOp,Op.intDiv,h.1],h.2⟩
   .simp[kU,f]at h
  .rename_i k a
   by_cases f:k=g
   .subst f
    simp only[kU,decide_true,cond_true]at h;exact .inr ⟨_,λw=>by simp[eqGuard,binOp,Op.intDiv,h.1],h.2⟩
   .simp[kU,f]at h
  .exact .inr ⟨_,λw=>by simp[eqGuard,binOp,Op.shift,show¬b<0 from J],h.2⟩
  .exact .inr ⟨_,λw=>by simp[eqGuard,binOp,Op.shift,show¬b<0 from J],h.2⟩
  .exact .inl h
 case h_7 b=>
  split at h
  .rename_i d
   split at h
   .exact .inr ⟨_,λw=>by simp[eqGuard,binOp,Dr d],h⟩
   .exact .inr ⟨_,λw=>by simp[eqGuard,binOp,Dr d],h⟩
   .exact h.elim
  .exact h.elim
 case h_8 b=>
  split at h
  .rename_i a
   refine .inr ⟨_,λw=>?_,h.2⟩;have h1:=h.1;simp[eqGuard,binOp,Op.stringOp,IntKind.max,IntKind.signed,IntKind.bits];omega
  .exact .inl h
 case h_9=>exact .inl h
end
def v_(P:Program)(T:TypeId)(x:O)(K:O->Prop):Prop:=
 match P.underlying T with
 |some (.array n _)=>match x with
  | .slice a len _=>n<=len/\∃A,a=some A/\K (.pointer (some A))
  |_=>False
 |_=>False
def wa(P:Program)(T:TypeId)(x i:O)(K:O->Prop):Prop:=
 match i with
 | .int _ n=>
  match P.underlying T with
  |some (.slice elem)=>bif (P.underlying elem).isSome then
   match x with
   | .slice a len _=>∃A,a=some A/\(0<=n/\n<(len:Int))/\K (.pointer (some (A.add (n.toNat*P.cellsOf elem))))
   |_=>False
   else False
  |some (.array len elem)=>bif (P.underlying elem).isSome then
   match x with
   | .pointer (some A)=>(0<=n/\n<(len:Int))/\K (.pointer (some (A.add (n.toNat*P.cellsOf elem))))
   |_=>False
   else False
  |_=>False
 |_=>False
def tD(P:Program)(tk:TypeId->dO)(T:TypeId)(cs:Array O)(off:Nat)(K:O->Prop):Prop:=
 match P.underlying T with
 |none=>False
 |some d=>
  bif g2 d then K (.agg (cs.extract off (off+P.cellsOf T)))
  else match tk T with
   | .one (.one l)=>pZ l λv=>cs[off]? =some v/\K v
   |_=>False
def wc(P:Program)(tk:TypeId->dO)(T:TypeId)(x i:O)(K:O->Prop):Prop:=
 match i with
 | .int _ n=>
  match P.underlying T with
  |some (.array len elem)=>match x with
   | .agg cs=>(0<=n/\n<(len:Int))/\tD P tk elem cs (n.toNat*P.cellsOf elem) K
   |_=>False
  |some .string=>match x with
   | .string s=>0<=n/\∃b:UInt8,s.data.toList[n.toNat]? =some b/\K (.int .u8 b.toNat)
   |_=>False
  |_=>False
 |_=>False
def we(P:Program)(tk:TypeId->dO)(T:TypeId)(x:O)(i:Nat)(K:O->Prop):Prop:=
 match P.underlying T with
 |some (.struct fs)=>match fs[i]? with
  |some f=>match x with
   | .agg cs=>tD P tk f.type cs f.offset K
   |_=>False
  |none=>False
 |_=>False
def l9(v:aw O)(y d:Nat)(K:Nat->Prop):Prop:=
 match v with
 |none=>K d
 |some (.int _ i)=>(0<=i/\i<=(y:Int))/\K i.toNat
 |_=>False
def bj(a:aw av)(sz l m:Nat):aw av:=if m=l then a else a.map (·.add (l*sz))
def wg(P:Program)(T:TypeId)(x:O)(lo hi b:aw O)(K:O->Prop):Prop:=
 match P.underlying T with
 |some .string=>match b,x with
  |none,.string s=>l9 hi s.size s.size λh=>l9 lo h 0 λl=>K (.string (s.extract l h))
  |_,_=>False
 |some (.slice elem)=>bif (P.underlying elem).isSome then
  match x with
  | .slice a len cap=>match b with
   |none=>l9 hi cap len λh=>l9 lo h 0 λl=>K (.slice (bj a (P.cellsOf elem) l cap) (h-l) (cap-l))
   |some c=>match hi with
    |none=>False
    |some d=>l9 (some c) cap 0 λm=>l9 (some d) m 0 λh=>l9 lo h 0 λl=>K (.slice (bj a (P.cellsOf elem) l m) (h-l) (m-l))
  |_=>False
  else False
 |some (.array n elem)=>bif (P.underlying elem).isSome then
  match b,x with
  |none,.pointer (some A)=>l9 hi n n λh=>l9 lo h 0 λl=>K (.slice (bj (some A) (P.cellsOf elem) l n) (h-l) (n-l))
  |_,_=>False
  else False
 |_=>False
def A3(P:Program)(T:TypeId)(l c:O)(w:I)(K:O->I->Prop):Prop:=
 match P.underlying T with
 |some (.slice elem)=>bif (P.underlying elem).isSome then
  bif ((P.info? elem).bind (·.zero)).isSome then
  match l,c with
  | .int _ n,.int _ m=>(0<=n/\n<=m/\m<=9223372036854775807/\(P.bytesOf elem:Int)*m<=140737488355328)/\
   K (.slice (some ⟨w.heap.size,0,none⟩) n.toNat m.toNat) {w with heap:=w.heap.push (.cells (gF P elem m.toNat) elem)}
  |_,_=>False
  else False
  else False
 |_=>False
section
variable {P:Program}{w:I}
theorem kV(o:aw TypeDesc)(h:o.isSome=true):∃d,o=some d:=vO.1 h
theorem Dt{T:TypeId}{x:O}{K:O->Prop}(h:v_ P T x K):∃v,(∀w,(Instr.arrayAt T x).run P w=.ok v w)/\K v:=by
 unfold v_ at h;split at h
 .rename_i n e b
  split at h
  .rename_i a len cap
   obtain⟨h1,A,rfl,c⟩:=h;exact⟨_,λw=>by simp[Instr.arrayAt,cL b,Nat.not_lt.2 h1],c⟩
  .exact h.elim
 .exact h.elim
theorem Du{T:TypeId}{x i:O}{K:O->Prop}(h:wa P T x i K):∃v,(∀w,(Instr.indexAt T x i).run P w=.ok v w)/\K v:=by
 unfold wa at h;split at h
 .rename_i k n
  split at h
  .rename_i elem a
   by_cases he:(P.underlying elem).isSome=true
   .rw[he]at h
    simp only[cond_true]at h;split at h
    .obtain⟨A,rfl,hb,b⟩:=h
     obtain⟨d,hd⟩:=kV _ he;exact⟨_,λw=>by simp[Instr.indexAt,asIntOf,cL a,hb,g3 hd],b⟩
    .exact h.elim
   .simp only[fN]at he;rw[he]at h;exact h.elim
  .rename_i len elem a
   by_cases he:(P.underlying elem).isSome=true
   .rw[he]at h
    simp only[cond_true]at h;split at h
    .obtain⟨hb,b⟩:=h
     obtain⟨d,hd⟩:=kV _ he;exact⟨_,λw=>by simp[Instr.indexAt,asIntOf,Instr.sureAddr,cL a,hb,g3 hd],b⟩
    .exact h.elim
   .simp only[fN]at he;rw[he]at h;exact h.elim
  .exact h.elim
 .exact h.elim
theorem Dv{tk:TypeId->dO}{T:TypeId}{cs:Array O}{off:Nat}{K:O->Prop}(h:tD P tk T cs off K):∃v,(∀w,(part T cs off).run P w=.ok v w)/\K v:=by
 unfold tD at h;split at h
 .exact h.elim
 .rename_i d a
  cases hd:g2 d with
  |true=>
   rw[hd]at h;exact⟨_,λw=>by simp[part,ru a,hd,g3 a],h⟩
  |false=>
   rw[hd]at h;simp only[cond_false]at h;split at h
   .obtain⟨v,b,c⟩:=rr h
    exact⟨v,λw=>by simp[part,ru a,hd,b],c⟩
   .exact h.elim
theorem Dw{tk:TypeId->dO}{T:TypeId}{x i:O}{K:O->Prop}(h:wc P tk T x i K):∃v,(∀w,(Instr.index T x i).run P w=.ok v w)/\K v:=by
 unfold wc at h;split at h
 .rename_i k n
  split at h
  .rename_i len elem a
   split at h
   .obtain⟨hb,h⟩:=h
    obtain⟨v,f,c⟩:=Dv h;refine⟨v,λw=>?_,c⟩;have e:(Go.sizeOf elem).run P w=.ok (P.cellsOf elem) w:=by
     unfold tD at h
     cases he:P.underlying elem with
     |none=>simp[he]at h
     |some d=>exact g3 he
    simp[Instr.index,asIntOf,cL a,hb,e,f]
   .exact h.elim
  .rename_i a
   split at h
   .rename_i s
    obtain⟨hb,b,e,c⟩:=h;have g:s[n.toNat]? =some b:=by
     obtain⟨h1,h2⟩:=pS.1 e;have j:n.toNat<s.size:=by simpa using h1
     rw[getElem?_pos s n.toNat j];simp only[Option.some.injEq];rw[←h2];rfl
    exact⟨_,λw=>by simp[Instr.index,asIntOf,cL a,hb,g],c⟩
   .exact h.elim
  .exact h.elim
 .exact h.elim
theorem Dx{tk:TypeId->dO}{T:TypeId}{x:O}{i:Nat}{K:O->Prop}(h:we P tk T x i K):∃v,(∀w,(Instr.field T x i).run P w=.ok v w)/\K v:=by
 unfold we at h;split at h
 .rename_i fs a
  split at h
  .rename_i f hf
   split at h
   .obtain⟨v,b,c⟩:=Dv h
    exact⟨v,λw=>by simp[Instr.field,cL a,hf,asAgg,b],c⟩
   .exact h.elim
  .exact h.elim
 .exact h.elim
theorem ly{v:aw O}{y d:Nat}{c:BoundsCode}{K:Nat->Prop}(h:l9 v y d K):
 (v=none/\K d)\/∃u n,v=some u/\(∀w,(Instr.sliceBound u y c).run P w=.ok n w)/\K n:=by
 unfold l9 at h;split at h
 .exact .inl ⟨rfl,h⟩
 .exact .inr ⟨_,_,rfl,λw=>by simp[Instr.sliceBound,asIntOf,h.1],h.2⟩
 .exact h.elim
theorem Dy{T:TypeId}{x:O}{lo hi l:aw O}{K:O->Prop}(h:wg P T x lo hi l K):
 ∃v,(∀w,(Instr.sliceAt T x lo hi l).run P w=.ok v w)/\K v:=by
 unfold wg at h;split at h
 .rename_i b
  split at h
  .rename_i s
   rcases ly (P:=P) (c:=.sliceAlen) h with ⟨aT,h1⟩|⟨u,n,aT,f,h1⟩
   .rcases ly (P:=P) (c:=.sliceB) h1 with ⟨a6,h2⟩|⟨j,bB,a6,e,h2⟩
    .exact⟨_,λw=>by simp[Instr.sliceAt,Instr.slice,cL b,Instr.sliceBounds,aT,a6],h2⟩
    .exact⟨_,λw=>by simp[Instr.sliceAt,Instr.slice,cL b,Instr.sliceBounds,aT,a6,e],h2⟩
   .rcases ly (P:=P) (c:=.sliceB) h1 with ⟨a6,h2⟩|⟨j,bB,a6,e,h2⟩
    .exact⟨_,λw=>by simp[Instr.sliceAt,Instr.slice,cL b,Instr.sliceBounds,aT,a6,f],h2⟩
    .exact⟨_,λw=>by simp[Instr.sliceAt,Instr.slice,cL b,Instr.sliceBounds,aT,a6,f,e],h2⟩
  .exact h.elim
 .rename_i elem b
  by_cases he:(P.underlying elem).isSome=true
  .rw[he]at h
   simp only[cond_true]at h;obtain⟨d,hd⟩:=kV _ he;have g:=λw:I=>g3 (w:=w) hd;split at h
   .rename_i a len cap
    split at h
    .rcases ly (P:=P) (c:=.sliceAcap) h with ⟨aT,h1⟩|⟨u,n,aT,f,h1⟩
     .rcases ly (P:=P) (c:=.sliceB) h1 with ⟨a6,h2⟩|⟨j,bB,a6,e,h2⟩
      .exact⟨_,λw=>by simp[Instr.sliceAt,Instr.slice,cL b,Instr.sliceBounds,g,bj,aT,a6],h2⟩
      .exact⟨_,λw=>by simp[Instr.sliceAt,Instr.slice,cL b,Instr.sliceBounds,e,g,bj,aT,a6],h2⟩
     .rcases ly (P:=P) (c:=.sliceB) h1 with ⟨a6,h2⟩|⟨j,bB,a6,e,h2⟩
      .exact⟨_,λw=>by simp[Instr.sliceAt,Instr.slice,cL b,Instr.sliceBounds,f,g,bj,aT,a6],h2⟩
      .exact⟨_,λw=>by simp[Instr.sliceAt,Instr.slice,cL b,Instr.sliceBounds,f,e,g,bj,aT,a6],h2⟩
    .split at h
     .exact h.elim
     .rcases ly (P:=P) (c:=.slice3Acap) h with ⟨i,h1⟩|⟨u,n,i,f,h1⟩
      .cases i
      .cases i
       rcases ly (P:=P) (c:=.slice3B) h1 with ⟨i,h2⟩|⟨o,cx,i,m,h2⟩
       .cases i
       .cases i
        rcases ly (P:=P) (c:=.slice3C) h2 with ⟨a6,k⟩|⟨j,bB,a6,e,k⟩
        .exact⟨_,λw=>by simp[Instr.sliceAt,Instr.slice,cL b,Instr.sliceBounds,f,m,g,bj,a6],k⟩
        .exact⟨_,λw=>by simp[Instr.sliceAt,Instr.slice,cL b,Instr.sliceBounds,f,m,e,g,bj,a6],k⟩
   .exact h.elim
  .simp only[fN]at he;rw[he]at h;exact h.elim
 .rename_i n elem b
  by_cases he:(P.underlying elem).isSome=true
  .rw[he]at h
   simp only[cond_true]at h;obtain⟨d,hd⟩:=kV _ he;have g:=λw:I=>g3 (w:=w) hd;split at h
   .rename_i A
    rcases ly (P:=P) (c:=.sliceAlen) h with ⟨aT,h1⟩|⟨u,cx,aT,f,h1⟩
    .rcases ly (P:=P) (c:=.sliceB) h1 with ⟨a6,h2⟩|⟨j,bB,a6,e,h2⟩
     .refine⟨_,λw=>?_,h2⟩
      simp[Instr.sliceAt,cL b,Instr.sureAddr,Instr.sliceBounds,g,bj,aT,a6];try (split<;>rfl)
     .refine⟨_,λw=>?_,h2⟩
      simp[Instr.sliceAt,cL b,Instr.sureAddr,Instr.sliceBounds,e,g,bj,aT,a6];try (split<;>rfl)
    .rcases ly (P:=P) (c:=.sliceB) h1 with ⟨a6,h2⟩|⟨j,bB,a6,e,h2⟩
     .refine⟨_,λw=>?_,h2⟩
      simp[Instr.sliceAt,cL b,Instr.sureAddr,Instr.sliceBounds,f,g,bj,aT,a6];try (split<;>rfl)
     .refine⟨_,λw=>?_,h2⟩
      simp[Instr.sliceAt,cL b,Instr.sureAddr,Instr.sliceBounds,f,e,g,bj,aT,a6];try (split<;>rfl)
   .exact h.elim
  .simp only[fN]at he;rw[he]at h;exact h.elim
 .exact h.elim
theorem A4{n:Int}(h0:0<=n)(h1:n<=9223372036854775807):IntKind.i64.wrap n=n:=by
 have e:n%18446744073709551616=n:=Int.emod_eq_of_lt h0 J;simp[IntKind.wrap,IntKind.signed,IntKind.bits,e];omega
theorem IK{T:TypeId}{l c:O}{K:O->I->Prop}(h:A3 P T l c w K):
 ∃v w',(Instr.makeSlice T l c).run P w=.ok v w'/\K v w':=by
 unfold A3 at h;split at h
 .rename_i elem f
  by_cases he:(P.underlying elem).isSome=true
  .rw[he]at h
   simp only[cond_true]at h;by_cases a:((P.info? elem).bind (·.zero)).isSome=true
   .rw[a]at h
    simp only[cond_true]at h;split at h
    .rename_i k n q m
     obtain⟨⟨h0,h1,h2,g⟩,j⟩:=h;obtain⟨d,hd⟩:=kV _ he;obtain⟨i,hi⟩:=info_of_underlying hd;obtain⟨z,b⟩:=vO.1 a;simp only[hi,Option.bind_some]at b;have hb:P.bytesOf elem=i.bytes:=by simp[Program.bytesOf,hi]
     have hc:P.cellsOf elem=i.size:=by simp[Program.cellsOf,hi]
     rw[hb]at g;have aT:=A4 h0 J;have a6:=A4 (n:=m) J h2;refine⟨_,_,?_,j⟩;have o:¬(m<0):=by omega
     have p:¬(281474976710656<(i.bytes:Int)*m):=by omega
     simp[Instr.makeSlice,cL f,asInt,asIntOf,oM hi,aT,a6,o,p,g3 hd,show¬n<0 from J,show¬m<n from J];by_cases e:m.toNat*P.cellsOf elem=0
     .simp[e,newRow,newObj,Sem.run,gF]
     .simp[zeroValue,oM hi,b,newRow,newObj,Sem.run,gF,e,hi]
    .exact h.elim
   .simp only[fN]at a;rw[a]at h;exact h.elim
  .simp only[fN]at he;rw[he]at h;exact h.elim
 .exact h.elim
end
def aq(w:I)(K:I->Prop):Prop:=K w
def fR(s:ByteArray)(n:Nat):aw UInt8:=s.data.toList[n]?
def cellAt(cs:Array O)(n:Nat):aw O:=cs[n]?
def dI(k:IntKind)(a b:Int):Int:=k.wrap ((BitVec.ofInt k.bits a&&&BitVec.ofInt k.bits b).toNat:Int)
def j1(k:IntKind)(a b:Int):Int:=k.wrap ((BitVec.ofInt k.bits a|||BitVec.ofInt k.bits b).toNat:Int)
def fj(k:IntKind)(a b:Int):Int:=k.wrap ((BitVec.ofInt k.bits a^^^BitVec.ofInt k.bits b).toNat:Int)
def Dz(k:IntKind)(a b:Int):Int:=k.wrap ((BitVec.ofInt k.bits a&&&~~~BitVec.ofInt k.bits b).toNat:Int)
def tE(P:Program)(o:Oper)(K:O->I->Prop)(e:Env)(w:I):Prop:=
 bif known e o.op.operands then
  match (execOp (ro e) o).run P w with
  | .ok (.value v) w'=>aq w' λw1=>K v w1
  |_=>False
 else False
def DA(P:Program)(tk:TypeId->dO)(T:TypeId):dO:=
 match P.underlying T with
 |some (.slice e)=>tk e
 |_=>.one (.one .agg)
def cI.IL:cI->ah
 | .slice=>true
 |_=>false
def DB:dO->ah
 | .one (.one .agg)=>true
 | .one (.flat ls)=>ls.any cI.IL
 |_=>false
def gen(P:Program)(tk:TypeId->dO)(o:Oper)(K:O->I->Prop)(e:Env)(w:I):Prop:=
 bif known e o.op.operands then
  match (execOp (ro e) o).run P w with
  | .ok (.value v) w'=>K v w'
  | .ok .skip w'=>K undef w'
  | .ok (.enter f args) w'=>Calls P f args w' λa b=>iU (tk o.type) λv=>a=.returned v/\K v b
  |_=>False
 else False
def iA(P:Program)(f:FuncId):Prop:=∃fn,P.funcs[f]? =some fn/\(fn.name== "runtime.NumGoroutine")=false/\fn.body.isNone=false
theorem DC{P:Program}{f:FuncId}(h:iA P f)(args:Array O)(w:I):(callFunc f args).run P w=.ok (.enter f args) w:=by
 obtain⟨fn,h1,h2,a⟩:=h;have b:¬fn.name= "runtime.NumGoroutine" :=by simpa using h2
 have c:¬fn.body=none:=by
  intro h;rw[h]at a;cases a
 simp[callFunc,program,Sem.run,bind,Sem.bind,h1,b,c,pure]
def A5:Op->ah
 | .select _ _=>true
 |_=>false
def DD(P:Program)(T:TypeId):Operand->ah
 | .const _=>false
 |_=>p2 (P.underlying T)||nF (P.underlying T)
def A6(P:Program)(op:BinOp)(T:TypeId)(p4 oO:Operand)(x y:O)(b:ah):Prop:=
 ∀w,Sem.run P (do eqGuard op T p4 oO x y;binOp op T x y:Sem O) w=.ok (.bool b) w
def rA:Operand->O->ah
 | .const _,_=>true
 |_,.nilIface=>false
 |_,_=>true
def kq(P:Program)(tk:TypeId->dO)(o:Oper)(K:O->I->Prop)(e:Env)(w:I):Prop:=
 match o.op with
 | .nilCheck x=>match ev e x with
  |some (.pointer p)=>∃A,p=some A/\K (.pointer (some A)) w
  |_=>False
 | .load T x=>match ev e x with
  |some (.pointer (some A))=>ry P tk T A w λv=>K v w
  |_=>False
 | .store T x y=>match ev e x,ev e y with
  |some (.pointer (some A)),some v=>A2 P tk T A v w λw'=>aq w' λw1=>K undef w1
  |_,_=>False
 | .binOp op T x y _=>match ev e x,ev e y with
  |some a,some u=>bif DD P T y then (∃b:ah,A6 P op T x y a u b/\K (.bool b) w) else
   bif rA y u then vZ P op T a u (λv=>K v w) (gen P tk o K e w) else False
  |_,_=>False
 | .indexAddr T x i=>match ev e x,ev e i with
  |some a,some g=>wa P T a g λv=>K v w
  |_,_=>False
 | .index T x i=>match ev e x,ev e i with
  |some a,some g=>wc P tk T a g λv=>K v w
  |_,_=>False
 | .field T x i=>match ev e x with
  |some a=>we P tk T a i λv=>K v w
  |_=>False
 | .alloc _=>tE P o K e w
 | .box _ _=>tE P o K e w
 | .buildSlice T n ps=>bif DB (DA P tk T) then
  (bif known e o.op.operands then
    iU (tk o.type) λr=>∃w1,(Instr.buildSlice T n (ps.map λp=>(p.1,ro e p.2))).run P w=.ok r w1/\K r w1
  else False)
  else tE P o K e w
 | .slice T x lo hi z=>bif known e o.op.operands then
  wg P T (ro e x) (lo.map (ro e)) (hi.map (ro e)) (z.map (ro e)) λv=>K v w
  else False
 | .makeSlice T l c=>match ev e l,ev e c with
  |some p5,some B=>A3 P T p5 B w λv w'=>aq w' λw1=>K v w1
  |_,_=>False
 | .convert s d x=>match ev e x with
  |some (.int j n)=>bif (P.underlying s).isSome then
   match P.underlying d with
   |some (.int k)=>K (.int k (k.wrap n)) w
   |_=>iU (tk o.type) λr=>∃w1,(convert s d (.int j n)).run P w=.ok r w1/\K r w1
   else False
  |some v=>iU (tk o.type) λr=>∃w1,(convert s d v).run P w=.ok r w1/\K r w1
  |none=>False
 | .build t ps=>match tk t with
  | .one (.flat _)=>gen P tk o K e w
  |_=>bif known e o.op.operands then
   ∃cs:Array O,(Instr.build t (ps.map λp=>(p.1,ro e p.2))).run P w=.ok (.agg cs) w/\K (.agg cs) w
   else False
 | .lookup T m i ok=>match ev e m,ev e i with
  |some h,some g=>iU (tk o.type) λr=>∃w1,(Instr.lookup T h g ok).run P w=.ok r w1/\K r w1
  |_,_=>False
 | .mapUpdate T m i x=>match ev e m,ev e i,ev e x with
  |some h,some g,some a=>∃w1,(Instr.mapUpdate T h g a).run P w=.ok () w1/\K undef w1
  |_,_,_=>False
 | .makeMap T r=>bif known e o.op.operands then iU (tk o.type) λv=>∃w1,(Instr.makeMap T (r.map (ro e))).run P w=.ok v w1/\K v w1 else False
 | .range T x=>match ev e x with
  |some a=>∃v w1,(Instr.range T a).run P w=.ok v w1/\K v w1
  |_=>False
 | .next it q=>match ev e it with
  |some a=>(bif q then ∃ (n:Int) (c:Int) (w1:I),(Instr.next a q o.type).run P w=.ok (.tuple #[.bool true,.int .i64 n,.int .i32 c]) w1/\K (.tuple #[.bool true,.int .i64 n,.int .i32 c]) w1
   else ∃ (k:O) (v:O) (w1:I),(Instr.next a q o.type).run P w=.ok (.tuple #[.bool true,k,v]) w1/\K (.tuple #[.bool true,k,v]) w1)\/
   (∃w1:I,(Instr.next a q o.type).run P w=.ok (.tuple #[.bool false]) w1/\K (.tuple #[.bool false]) w1)
  |_=>False
 | .call c=>match c.callee with
  | .value (.tmp k)=>match e.get k with
   |some (.func (.func f) pre cap)=>bif known e o.op.operands then
    iA P f/\Calls P f (pre++c.args.map (ro e)++cap) w λC w1=>iU (tk o.type) λv=>C=.returned v/\K v w1
    else False
   |_=>gen P tk o K e w
  | .builtin .append=>bif known e o.op.operands then iU (tk o.type) λr=>∃w1,(Builtin.append_ c.argTypes o.type (c.args.map (ro e))).run P w=.ok r w1/\K r w1 else False
  | .builtin .copy=>bif known e o.op.operands then iU (tk o.type) λr=>∃w1,(Builtin.copy_ c.argTypes o.type (c.args.map (ro e))).run P w=.ok r w1/\K r w1 else False
  | .builtin .min=>bif known e o.op.operands then iU (tk o.type) λr=>∃w1,(Builtin.min_ c.argTypes o.type (c.args.map (ro e))).run P w=.ok r w1/\K r w1 else False
  | .builtin .max=>bif known e o.op.operands then iU (tk o.type) λr=>∃w1,(Builtin.max_ c.argTypes o.type (c.args.map (ro e))).run P w=.ok r w1/\K r w1 else False
  | .builtin .delete=>bif known e o.op.operands then ∃r w1,(Builtin.delete_ c.argTypes o.type (c.args.map (ro e))).run P w=.ok r w1/\K r w1 else False
  | .value (.func f)=>match P.funcs[f]? with
   |some fn=>match fn.body with
    |some _=>gen P tk o K e w
    |none=>bif known e o.op.operands then iU (tk o.type) λr=>∃w1,(callFunc f (c.args.map (ro e))).run P w=.ok (.value r) w1/\K r w1 else False
   |none=>False
  | .builtin .unsafeString=>bif known e o.op.operands then iU (tk o.type) λr=>∃w1,(Builtin.unsafeString_ c.argTypes o.type (c.args.map (ro e))).run P w=.ok r w1/\K r w1 else False
  | .builtin .unsafeSliceData=>bif known e o.op.operands then iU (tk o.type) λr=>∃w1,(Builtin.unsafeSliceData_ c.argTypes o.type (c.args.map (ro e))).run P w=.ok r w1/\K r w1 else False
  | .builtin .clear=>bif known e o.op.operands then ∃r w1,(Builtin.clear_ c.argTypes o.type (c.args.map (ro e))).run P w=.ok r w1/\K r w1 else False
  | .builtin .len=>match ((c.args.map (ro e))[0]? :aw O) with
   |some (Value.map _)=>bif known e o.op.operands then iU (tk o.type) λr=>∃w1,(Builtin.len_ c.argTypes o.type (c.args.map (ro e))).run P w=.ok r w1/\K r w1 else False
   |_=>gen P tk o K e w
  |_=>gen P tk o K e w
 | .sliceToArrayPointer T x=>match ev e x with
  |some a=>v_ P T a λv=>K v w
  |_=>False
 | .mapEntry T m i=>match ev e m,ev e i with
  |some h,some g=>∃ (v0:O) (st:Int) (w1:I),(Instr.mapEntry T h g).run P w=.ok (.tuple #[v0,.int .i64 st]) w1/\K (.tuple #[v0,.int .i64 st]) w1
  |_,_=>False
 | .entryStore T m s x=>match ev e m,ev e s,ev e x with
  |some h,some vs,some a=>∃w1,(Instr.entryStore T h vs a).run P w=.ok () w1/\K undef w1
  |_,_,_=>False
 | .entry it=>match ev e it with
  |some a=>iU (tk o.type) λv=>∃w1,(Instr.entry a).run P w=.ok v w1/\K v w1
  |_=>False
 | .select _ _=>False
 |_=>gen P tk o K e w
def nG(P:Program)(o:Oper)(a:Act)(w:I)(K:O->I->Prop):Prop:=
 (∃v w',(execOp a.eval o).run P w=.ok (.value v) w'/\K v w')\/
 (∃w',(execOp a.eval o).run P w=.ok .skip w'/\K undef w')\/
 (∃f args w',(execOp a.eval o).run P w=.ok (.enter f args) w'/\Calls P f args w' λb c=>∃v,b=.returned v/\K v c)
theorem nG.wp{P:Program}{o:Oper}{a:Act}{w:I}{K:O->I->Prop}{next:Act->I->Prop}{Q:Exit->Act->I->Prop}
 (h:nG P o a w K) (c:∀v w',K v w'->next (a.put o.dst v) w'):o.wp P a w next Q:=by
 unfold Oper.wp;rcases h with ⟨v,w',h,b⟩|⟨w',h,b⟩|⟨f,args,w',h,hc⟩
 .rw[h];exact c _ _ b
 .rw[h];exact c _ _ b
 .rw[h]
  exact hc.mono λe g ⟨v,d,b⟩=>by subst d;exact c _ _ b
section
variable {P:Program}{tk:TypeId->dO}{o:Oper}{K:O->I->Prop}{e:Env}{a:Act}{w:I}
theorem IM(ar:dh e a){xs:Array Operand}(h:known e xs=true):∀x∈xs,a.eval x=ro e x:=by
 intro x hx;exact ar.ro (oC.1 h x (by simpa using hx))
theorem lz(ar:dh e a)(c:A5 o.op=false)(h:known e o.op.operands=true):execOp a.eval o=execOp (ro e) o:=
 execOp_congr o (λcs b hc=>by rw[hc]at c;cases c) (IM ar h)
theorem p6(ar:dh e a)(d:A5 o.op=false)(h:gen P tk o K e w):nG P o a w K:=by
 unfold gen at h;by_cases c:known e o.op.operands=true
 .rw[c]at h
  simp only[cond_true]at h;have hc:=lz ar d c;unfold nG;rw[hc];split at h
  .rename_i v w' b
   exact .inl ⟨v,w',b,h⟩
  .rename_i w' b
   exact .inr (.inl ⟨w',b,h⟩)
  .rename_i f args w' b
   refine .inr (.inr ⟨f,args,w',b,h.mono λi j g=>?_⟩);exact ji g
  .exact h.elim
 .simp only[fN]at c
  rw[c]at h;exact h.elim
theorem A7(ar:dh e a)(c:A5 o.op=false)(h:tE P o K e w):nG P o a w K:=by
 unfold tE at h;by_cases b:known e o.op.operands=true
 .rw[b]at h
  simp only[cond_true]at h;have hc:=lz ar c b;unfold nG;rw[hc];split at h
  .rename_i v w' d
   exact .inl ⟨v,w',d,h⟩
  .exact h.elim
 .simp only[fN]at b
  rw[b]at h;exact h.elim
theorem A8:∀ {ls:Y cI}{A:av}{i:Nat}{K:Y O->Prop},A1 ls A i w K->∃vs,aG w A i ls.length=some vs/\K vs
 | [],_,_,_,h=>⟨[],rfl,h⟩
 |l::ls,A,i,K,h=>by
  obtain⟨v,a,h⟩:=rr h
  obtain⟨vs,b,h⟩:=A8 h
  exact⟨v::vs,by simp[aG,a,b],h⟩
theorem DE{T:TypeId}{A:av}{K:O->Prop}(h:ry P tk T A w K):∃v,(Instr.loadAt T (.pointer (some A))).run P w=.ok v w/\K v:=by
 have aT:(Instr.loadAt T (.pointer (some A))).run P w=(loadVar T A).run P w:=by simp[Instr.loadAt,Instr.sureAddr]
 rw[aT];unfold ry at h;split at h
 .exact h.elim
 .rename_i d a
  cases hd:g2 d with
  |true=>
   rw[hd]at h;simp only[cond_true]at h;split at h
   .rename_i ls _
    by_cases hb:Nat.beq (P.cellsOf T) ls.length=true
    .rw[hb]at h
     simp only[cond_true]at h;obtain⟨vs,b,h⟩:=A8 h;rw[←je hb]at b;exact⟨_,vY a hd b,h⟩
    .simp only[fN]at hb;rw[hb]at h;exact h.elim
   .obtain⟨cs,hc,h⟩:=h
    exact⟨_,vY a hd hc,h⟩
  |false=>
   rw[hd]at h;simp only[cond_false]at h;split at h
   .obtain⟨v,c,h⟩:=rr h
    exact⟨v,Dl a hd c,h⟩
   .exact h.elim
theorem A9{v:O}(h:Plain v):v.cells= #[v]:=by cases v<;>first|rfl|exact h.elim
theorem add_zero'(A:av):A.add 0=A:=rfl
theorem IN{T:TypeId}{A:av}{x:O}{K:I->Prop}(h:A2 P tk T A x w K):
 ∃w',(Instr.storeAt T (.pointer (some A)) x).run P w=.ok () w'/\K w':=by
 have aT:(Instr.storeAt T (.pointer (some A)) x).run P w=(storeVar T A x).run P w:=by simp[Instr.storeAt,Instr.sureAddr]
 rw[aT];unfold A2 at h;split at h
 .exact h.elim
 .rename_i d b
  cases hd:g2 d with
  |true=>
   rw[hd]at h;simp only[cond_true]at h;split at h
   .rename_i cs
    exact⟨_,Dm (v:=.agg cs) b h.2.1 h.1,h.2.2⟩
   .exact h.elim
  |false=>
   rw[hd]at h;simp only[cond_false]at h;have one:∀ (a:Plain x) (hb:Nat.beq (P.cellsOf T) 1=true),((∃u,w.cell? A=some u)/\w.frozen? A=false/\K (w.setCell A x))->∃w',(storeVar T A x).run P w=.ok () w'/\K w':=by
    intro a hb ⟨⟨u,hu⟩,hf,e⟩;refine⟨_,Dm (v:=x) b ?_ ?_,?_⟩
    .rw[A9 a,je hb];rfl
    .rw[A9 a]
     refine⟨λi hi=>?_,λv f=>?_⟩
     .have:i=0:=by simpa using hi
      subst this;rw[add_zero',hu];exact⟨rfl,hf⟩
     .have:v=x:=by simpa using f
      subst this;exact a
    .rw[A9 a]
     exact e
   by_cases hb:Nat.beq (P.cellsOf T) 1=true
   .have c:=hb
    rw[hb]at h;simp only[cond_true]at h;split at h
    .exact one h.1 c h.2
    .split at h
     .exact h.elim
     .exact h.elim
     .rename_i h1 h2
      refine one ?_ c h
      cases x<;>first|exact trivial|(exact absurd rfl (h1 _))|(exact absurd rfl (h2 _))
   .simp only[fN]at hb;rw[hb]at h;exact h.elim
theorem wh(ar:dh e a)(h:kq P tk o K e w):nG P o a w K:=by
 unfold kq at h;split at h
 case h_1 x bC=>
  split at h
  .rename_i p hx
   obtain⟨A,rfl,g⟩:=h;exact .inl ⟨_,_,by simp[execOp,bC,ar.ev hx],g⟩
  .exact h.elim
 case h_2 T x bC=>
  split at h
  .rename_i A hx
   obtain⟨v,u,g⟩:=DE h;exact .inl ⟨v,w,by simp[execOp,bC,ar.ev hx,u],g⟩
  .exact h.elim
 case h_3 T x y bC=>
  split at h
  .rename_i A v hx F
   obtain⟨w',S,g⟩:=IN h;exact .inr (.inl ⟨w',by simp[execOp,bC,ar.ev hx,ar.ev F,S],g⟩)
  .exact h.elim
 case h_4 op T x y Z bC=>
  split at h
  .rename_i B Q hx F
   by_cases L:DD P T y=true
   .rw[L]at h
    simp only[cond_true]at h;obtain⟨b,hb,g⟩:=h;exact .inl ⟨_,w,by
     simp only[execOp,bC,ar.ev hx,ar.ev F];have E:=hb w;simp only[Sem.run_bind]at E⊢;rw[E];rfl,g⟩
   simp only[fN]at L;rw[L]at h;simp only[cond_false]at h;by_cases G:rA y Q=true
   .rw[G]at h
    simp only[cond_true]at h;have U:Q=.nilIface->∃c,y=.const c:=by
     intro u;subst u
     cases y<;>simp[rA]at G⊢
    rcases Ds (p4:=x) (oO:=y) U h with hg|⟨v,u,g⟩
    .exact p6 ar (by rw[bC];rfl) hg
    .exact .inl ⟨v,w,by
      simp only[execOp,bC,ar.ev hx,ar.ev F];have E:=u w;simp only[Sem.run_bind]at E⊢;rw[E];rfl,g⟩
   .simp only[fN]at G;rw[G]at h;exact h.elim
  .exact h.elim
 case h_5 T x i bC=>
  split at h
  .rename_i B H hx hi
   obtain⟨v,u,g⟩:=Du h;exact .inl ⟨v,w,by simp[execOp,bC,ar.ev hx,ar.ev hi,u],g⟩
  .exact h.elim
 case h_6 T x i bC=>
  split at h
  .rename_i B H hx hi
   obtain⟨v,u,g⟩:=Dw h;exact .inl ⟨v,w,by simp[execOp,bC,ar.ev hx,ar.ev hi,u],g⟩
  .exact h.elim
 case h_7 T x i bC=>
  split at h
  .rename_i B hx
   obtain⟨v,u,g⟩:=Dx h;exact .inl ⟨v,w,by simp[execOp,bC,ar.ev hx,u],g⟩
  .exact h.elim
 case h_8 T bC=>exact A7 ar (by rw[bC];rfl) h
 case h_9 T x bC=>exact A7 ar (by rw[bC];rfl) h
 case h_10 T n ps bC=>
  cases R:DB (DA P tk T) with
  |true=>
   rw[R]at h;simp only[cond_true]at h;by_cases q:known e o.op.operands=true
   .rw[q]at h
    simp only[cond_true]at h;have hc:=lz ar (by rw[bC];rfl) q;obtain⟨r,w1,j,g⟩:=ji h;exact .inl ⟨r,w1,by rw[hc];simp[execOp,bC];rw[j];rfl,g⟩
   .simp only[fN]at q;rw[q]at h;exact h.elim
  |false=>
   rw[R]at h;exact A7 ar (by rw[bC];rfl) h
 case h_11 T x lo hi aa bC=>
  by_cases q:known e o.op.operands=true
  .rw[q]at h
   simp only[cond_true]at h;have hc:=lz ar (by rw[bC];rfl) q;obtain⟨v,u,g⟩:=Dy h;exact .inl ⟨v,w,by rw[hc];simp[execOp,bC,u],g⟩
  .simp only[fN]at q;rw[q]at h;exact h.elim
 case h_12 T l c bC=>
  split at h
  .rename_i p5 ab hl hc
   obtain⟨v,w',u,g⟩:=IK h;exact .inl ⟨v,w',by simp[execOp,bC,ar.ev hl,ar.ev hc,u],g⟩
  .exact h.elim
 case h_13 s d x bC=>
  split at h
  .rename_i k n hx
   by_cases D:(P.underlying s).isSome=true
   .rw[D]at h
    simp only[cond_true]at h;obtain⟨ds,V⟩:=kV _ D;split at h
    .rename_i ac hd
     exact .inl ⟨_,_,by simp[execOp,bC,ar.ev hx,convert,cL V,cL hd,Conv.intToInt],h⟩
    .obtain⟨r,w1,j,g⟩:=ji h
     exact .inl ⟨r,w1,by simp[execOp,bC,ar.ev hx,j],g⟩
   .simp only[fN]at D;rw[D]at h;exact h.elim
  .rename_i v _ hx
   obtain⟨r,w1,j,g⟩:=ji h;exact .inl ⟨r,w1,by simp[execOp,bC,ar.ev hx,j],g⟩
  .exact h.elim
 case h_14 t ps bC=>
  split at h
  .exact p6 ar (by rw[bC];rfl) h
  .by_cases q:known e o.op.operands=true
   .rw[q]at h
    simp only[cond_true]at h;have hc:=lz ar (by rw[bC];rfl) q;obtain⟨cs,j,g⟩:=h;exact .inl ⟨_,_,by rw[hc];simp[execOp,bC];rw[j];rfl,g⟩
   .simp only[fN]at q;rw[q]at h;exact h.elim
 case h_15 T m i ok bC=>
  split at h
  .rename_i M H hm hi
   obtain⟨r,w1,j,g⟩:=ji h;exact .inl ⟨r,w1,by simp[execOp,bC,ar.ev hm,ar.ev hi,j],g⟩
  .exact h.elim
 case h_16 T m i x bC=>
  split at h
  .rename_i M H B hm hi hx
   obtain⟨w1,j,g⟩:=h;exact .inr (.inl ⟨w1,by simp[execOp,bC,ar.ev hm,ar.ev hi,ar.ev hx,j],g⟩)
  .exact h.elim
 case h_17 T r bC=>
  by_cases q:known e o.op.operands=true
  .rw[q]at h
   simp only[cond_true]at h;have hc:=lz ar (by rw[bC];rfl) q;obtain⟨v,w1,j,g⟩:=ji h;exact .inl ⟨v,w1,by rw[hc];simp[execOp,bC,j],g⟩
  .simp only[fN]at q;rw[q]at h;exact h.elim
 case h_18 T x bC=>
  split at h
  .rename_i B hx
   obtain⟨v,w1,j,g⟩:=h;exact .inl ⟨v,w1,by simp[execOp,bC,ar.ev hx,j],g⟩
  .exact h.elim
 case h_19 it W bC=>
  split at h
  .rename_i B hx
   rcases h with h|⟨w1,j,g⟩
   .cases W with
    |true=>
     obtain⟨n,c,w1,j,g⟩:=h;exact .inl ⟨_,w1,by simp[execOp,bC,ar.ev hx,j],g⟩
    |false=>
     obtain⟨k,v,w1,j,g⟩:=h;exact .inl ⟨_,w1,by simp[execOp,bC,ar.ev hx,j],g⟩
   .exact .inl ⟨_,w1,by simp[execOp,bC,ar.ev hx,j],g⟩
  .exact h.elim
 case h_20 c bC=>
  have C:∀ (b:Builtin) (r:O) (w1:I),c.callee=.builtin b->known e o.op.operands=true->
   (∀cs,(Go.builtin b c.argTypes o.type cs (c.args.map (ro e))).run P w=.ok (.value r) w1)->K r w1->nG P o a w K:=by
   intro b r w1 hb q j g;have hc:=lz ar (by rw[bC];rfl) q;exact .inl ⟨r,w1,by rw[hc];simp[execOp,bC,resolve,hb,invoke,j],g⟩
  have z:∀ {X:Prop},(bif known e o.op.operands then X else False)->known e o.op.operands=true/\X:=by
   intro X J;by_cases q:known e o.op.operands=true
   .rw[q]at J;exact⟨q,J⟩
   .simp only[fN]at q;rw[q]at J;exact J.elim
  split at h
  .rename_i k hb
   split at h
   .rename_i f pre cap hg
    obtain⟨q,Y,h⟩:=z h;have hc:=lz ar (by rw[bC];rfl) q;refine .inr (.inr ⟨f,pre++c.args.map (ro e)++cap,w,?_,h.mono λad w1 h1=>?_⟩)
    .have N:ro e (.tmp k)=.func (.func f) pre cap:=by simp[ro,ev,hg]
     rw[hc];simp[execOp,bC,resolve,hb,N,Deferred.ofValue,invoke,DC Y]
    .obtain⟨v,u,g⟩:=ji h1
     exact⟨v,u,g⟩
   .exact p6 ar (by rw[bC];rfl) h
  .rename_i hb
   obtain⟨q,h⟩:=z h;obtain⟨r,w1,j,g⟩:=ji h;exact C _ r w1 hb q (λ_=>by simp[Go.builtin,j]) g
  .rename_i hb
   obtain⟨q,h⟩:=z h;obtain⟨r,w1,j,g⟩:=ji h;exact C _ r w1 hb q (λ_=>by simp[Go.builtin,j]) g
  .rename_i hb
   obtain⟨q,h⟩:=z h;obtain⟨r,w1,j,g⟩:=ji h;exact C _ r w1 hb q (λ_=>by simp[Go.builtin,j]) g
  .rename_i hb
   obtain⟨q,h⟩:=z h;obtain⟨r,w1,j,g⟩:=ji h;exact C _ r w1 hb q (λ_=>by simp[Go.builtin,j]) g
  .rename_i hb
   obtain⟨q,r,w1,j,g⟩:=z h;exact C _ r w1 hb q (λ_=>by simp[Go.builtin,j]) g
  .rename_i f hb
   split at h
   .rename_i fn kr
    split at h
    .exact p6 ar (by rw[bC];rfl) h
    .obtain⟨q,h⟩:=z h
     obtain⟨r,w1,j,g⟩:=ji h;have hc:=lz ar (by rw[bC];rfl) q;refine .inl ⟨r,w1,?_,g⟩;rw[hc];have N:ro e (.func f)=.func (.func f) #[] #[]:=by simp[ro,ev]
     simp[execOp,bC,resolve,hb,N,Deferred.ofValue,invoke,j]
   .exact h.elim
  .rename_i hb
   obtain⟨q,h⟩:=z h;obtain⟨r,w1,j,g⟩:=ji h;exact C _ r w1 hb q (λ_=>by simp[Go.builtin,j]) g
  .rename_i hb
   obtain⟨q,h⟩:=z h;obtain⟨r,w1,j,g⟩:=ji h;exact C _ r w1 hb q (λ_=>by simp[Go.builtin,j]) g
  .rename_i hb
   obtain⟨q,r,w1,j,g⟩:=z h;exact C _ r w1 hb q (λ_=>by simp[Go.builtin,j]) g
  .rename_i hb
   split at h
   .obtain⟨q,h⟩:=z h
    obtain⟨r,w1,j,g⟩:=ji h;exact C _ r w1 hb q (λ_=>by simp[Go.builtin,j]) g
   .exact p6 ar (by rw[bC];rfl) h
  .exact p6 ar (by rw[bC];rfl) h
 case h_21 T x bC=>
  split at h
  .rename_i B hx
   obtain⟨v,u,g⟩:=Dt h;exact .inl ⟨v,w,by simp[execOp,bC,ar.ev hx,u],g⟩
  .exact h.elim
 case h_22 T m i bC=>
  split at h
  .rename_i M H hm hi
   obtain⟨v0,st,w1,j,g⟩:=h;exact .inl ⟨_,w1,by simp[execOp,bC,ar.ev hm,ar.ev hi,j],g⟩
  .exact h.elim
 case h_23 T m s x bC=>
  split at h
  .rename_i M vs B hm D hx
   obtain⟨w1,j,g⟩:=h;exact .inr (.inl ⟨w1,by simp[execOp,bC,ar.ev hm,ar.ev D,ar.ev hx,j],g⟩)
  .exact h.elim
 case h_24 it bC=>
  split at h
  .rename_i B hx
   obtain⟨v,w1,j,g⟩:=ji h;exact .inl ⟨v,w1,by simp[execOp,bC,ar.ev hx,j],g⟩
  .exact h.elim
 case h_25=>exact h.elim
 case h_26=>
  refine p6 ar ?_ h
  cases bC:o.op<;>first|rfl|simp_all
end
end aQ
namespace aQ
open Go
inductive lA where
 |run
 |split (n:Nat)
 |pure (n:Nat)
 |tF (a:Y Kd)
def fS(P:Program)(o:Oper)(e:Env):aw O:=
 match o.op with
 | .move x=>ev e x
 | .assign x=>ev e x
 | .unOp .not _ x=>match ev e x with
  |some (.bool b)=>some (.bool (!b))
  |_=>none
 | .binOp op T x y _=>match ev e y with
  |some (.int f b)=>match ev e x with
   |some (.int k a)=>bif kU k f then
    match op with
    | .add=>some (.int k (k.wrap (a+b)))
    | .sub=>some (.int k (k.wrap (a-b)))
    | .mul=>some (.int k (k.wrap (a*b)))
    | .quo=>match b with
     | .ofNat (.succ m)=>some (.int k (k.wrap (a.tdiv (.ofNat (.succ m)))))
     |_=>none
    | .rem=>match b with
     | .ofNat (.succ m)=>some (.int k (a.tmod (.ofNat (.succ m))))
     |_=>none
    | .and=>some (.int k (k.wrap (BitVec.ofInt k.bits a&&&BitVec.ofInt k.bits b).toNat))
    | .or=>some (.int k (k.wrap (BitVec.ofInt k.bits a|||BitVec.ofInt k.bits b).toNat))
    | .xor=>some (.int k (k.wrap (BitVec.ofInt k.bits a^^^BitVec.ofInt k.bits b).toNat))
    | .eql=>some (.bool (a==b))
    | .neq=>some (.bool (a !=b))
    | .lss=>some (.bool (a<b))
    | .leq=>some (.bool (a<=b))
    | .gtr=>some (.bool (a>b))
    | .geq=>some (.bool (a>=b))
    |_=>none
    else none
   |_=>none
  |some (.bool b)=>match ev e x with
   |some (.bool a)=>match P.underlying T with
    |some .bool=>match op with
     | .eql=>some (.bool (a==b))
     | .neq=>some (.bool (!(a==b)))
     |_=>none
    |_=>none
   |_=>none
  |some (.string b)=>match ev e x with
   |some (.string a)=>match op with
    | .eql=>some (.bool (a.toList==b.toList))
    | .neq=>some (.bool (!(a.toList==b.toList)))
    |_=>none
   |_=>none
  |some (.pointer none)=>match ev e x with
   |some (.pointer p)=>bif nF (P.underlying T) then match op with
    | .eql=>some (.bool p.isNone)
    | .neq=>some (.bool (!p.isNone))
    |_=>none
    else none
   |_=>none
  |some (.slice none _ _)=>match ev e x with
   |some (.slice p _ _)=>bif oN (P.underlying T) then match op with
    | .eql=>some (.bool p.isNone)
    | .neq=>some (.bool (!p.isNone))
    |_=>none
    else none
   |_=>none
  |_=>none
 | .convert s d x=>match ev e x with
  |some (.int _ n)=>match P.underlying d with
   |some (.int k)=>bif (P.underlying s).isSome then some (.int k (k.wrap n)) else none
   |_=>none
  |_=>none
 | .call {callee:=.builtin .len,args:=args,argTypes:=gR}=>match args[0]?,gR[0]? with
  |some x,some T=>match ev e x,P.underlying T with
   |some (.slice _ n _),some (.slice _)=>some (.int .i64 n)
   |some (.string s),some .string=>some (.int .i64 s.size)
   |_,_=>none
  |_,_=>none
 | .call {callee:=.builtin .cap,args:=args,argTypes:=gR}=>match args[0]?,gR[0]? with
  |some x,some T=>match ev e x,P.underlying T with
   |some (.slice _ _ c),some (.slice _)=>some (.int .i64 c)
   |_,_=>none
  |_,_=>none
 |_=>none
def tG(ops:Array Oper)(e:Env)(j:Nat):aw O:=((ops[j]?).bind (·.dst)).bind e.get
def IP(ops:Array Oper)(j:Nat):aw Nat:=(ops[j]?).bind (·.dst)
def Rx(o:Oper)(e:Env)(K:ah->Prop):Prop:=
 match o.guard with
 |none=>match o.op with
  | .pick x y z=>match ev e x with
   |some (.bool b)=>match ev e (bif b then y else z) with
    |some (.bool r)=>K r
    |_=>False
   |_=>False
  |_=>False
 |some _=>False
def hZ(ops:Array Oper)(o:Oper)(e:Env)(run skip:Prop):Prop:=
 match o.guard with
 |none=>run
 |some (j,want)=>match tG ops e j with
  |none=>False
  |some (.bool b)=>bif Bool.xor b want then skip else run
  |some _=>skip
def mQ{α:Type}(ops:Array Oper)(o:Oper)(e:Env)(run skip:aw α):aw α:=
 match o.guard with
 |none=>run
 |some (j,want)=>match tG ops e j with
  |none=>none
  |some (.bool b)=>bif Bool.xor b want then skip else run
  |some _=>skip
def l_(o:Oper)(e:Env):aw ah:=
 match o.op with
 | .pick x y z=>match ev e x with
  |some (.bool b)=>match ev e (bif b then y else z) with
   |some (.bool r)=>some r
   |_=>none
  |_=>none
 |_=>none
def tH(ops:Array Oper)(o:Oper)(e:Env):aw (Nat×ah):=
 match o.guard with
 |none=>none
 |some (j,_)=>match IP ops j with
  |none=>none
  |some s=>match e.get s with
   |some (.bool c)=>some (s,c)
   |_=>none
def nH(ops:Array Oper)(o:Oper)(e:Env):ah:=
 match o.guard with
 |none=>true
 |some (j,want)=>match tG ops e j with
  |some (.bool b)=> !(Bool.xor b want)
  |_=>false
def oP(e:Env)(ds:Y Nat):ah:=e.all λp=> !(ds.any λd=>Nat.beq d p.1)
def bP(l:Y Oper):Y Nat:=l.filterMap (·.dst)
def jF(P:Program)(ops:Array Oper):Nat->Y Oper->Y lA->Env->aw Env
 |0,_,_,_=>none
 |_+1,[],_,e=>some e
 |n+1,o::rest,.pure m::as,e=>
  match tH ops o e,rest.drop (m-1) with
  |none,_=>
   match mQ ops o e none (some undef) with
   |some v=>jF P ops n rest as (c_ o.dst v e)
   |none=>none
  |some (s,c),a::b=>
   match jF P ops n (o::rest.take (m-1)) (.run::as.take (m-1)) ((s,.bool true)::e),jF P ops n (o::rest.take (m-1)) (.run::as.take (m-1)) ((s,.bool false)::e) with
   |some aT,some a6=>
    match l_ a aT,l_ a a6 with
    |some r1,some a_=>bif nH ops a e&&oP e (bP (o::rest.take (m-1))) then jF P ops n b (as.drop m) (c_ a.dst (.bool (cond c r1 a_)) e) else none
    |_,_=>none
   |_,_=>none
  |_,_=>none
 |n+1,o::rest,_::as,e=>
  match mQ ops o e (fS P o e) (some undef) with
  |some v=>jF P ops n rest as (c_ o.dst v e)
  |none=>none
 |n+1,o::rest,[],e=>
  match mQ ops o e (fS P o e) (some undef) with
  |some v=>jF P ops n rest [] (c_ o.dst v e)
  |none=>none
inductive aV {α:Type} (B:α->Prop) (k:α):Prop where
 |mk (h:B k)
theorem aV.out{α:Type}{B:α->Prop}{k:α}(h:aV B k):B k:=by cases h with|mk h=>exact h
def wi(P:Program)(a:Y Kd)(o:Oper)(K:O->I->Prop)(e:Env)(w:I):Prop:=
 match o.op with
 | .entry it=>match ev e it with
  |some b=>vX a λvs=>∃w1,(Instr.entry b).run P w=.ok (.tuple vs.toArray) w1/\K (.tuple vs.toArray) w1
  |_=>False
 |_=>False
theorem IQ{P:Program}{b:Y Kd}{o:Oper}{K:O->I->Prop}{e:Env}{w:I}{a:Act}(ar:dh e a)(h:wi P b o K e w):nG P o a w K:=by
 unfold wi at h;split at h
 .rename_i it bC
  split at h
  .rename_i f hx
   obtain⟨v,w1,c,d⟩:=AZ h;exact .inl ⟨_,w1,by simp[execOp,bC,ar.ev hx,c],d⟩
  .exact h.elim
 .exact h.elim
def gk(P:Program)(tk:TypeId->dO)(ops:Array Oper):Nat->Y Oper->Y lA->(Env->I->Prop)->Env->I->Prop
 |0,_,_,_,_,_=>False
 |_+1,[],_,K,e,w=>K e w
 |n+1,o::rest,.tF d::as,K,e,w=>
  hZ ops o e (wi P d o (λv w'=>gk P tk ops n rest as K (c_ o.dst v e) w') e w) (gk P tk ops n rest as K (c_ o.dst undef e) w)
 |n+1,o::rest,.pure m::as,K,e,w=>
  match tH ops o e,rest.drop (m-1) with
  |none,_=>hZ ops o e False (gk P tk ops n rest as K (c_ o.dst undef e) w)
  |some (s,c),a::b=>
   match jF P ops n (o::rest.take (m-1)) (.run::as.take (m-1)) ((s,.bool true)::e),jF P ops n (o::rest.take (m-1)) (.run::as.take (m-1)) ((s,.bool false)::e) with
   |some aT,some a6=>
    match l_ a aT,l_ a a6 with
    |some r1,some a_=>bif nH ops a e&&oP e (bP (o::rest.take (m-1))) then gk P tk ops n b (as.drop m) K (c_ a.dst (.bool (cond c r1 a_)) e) w else False
    |_,_=>False
   |_,_=>False
  |_,_=>False
 |n+1,o::rest,.split m::as,K,e,w=>
  match tH ops o e,rest.drop (m-1) with
  |none,_=>hZ ops o e False (gk P tk ops n rest as K (c_ o.dst undef e) w)
  |some (s,c),a::b=>
   bif nH ops a e&&oP e (bP (o::rest.take (m-1))) then
    aV (λk:ah->I->Prop=>
     (c=true->gk P tk ops n (o::rest.take (m-1)) (.run::as.take (m-1)) (λe' w'=>match l_ a e' with|some r=>k r w'|none=>False) ((s,.bool true)::e) w)/\
     (c=false->gk P tk ops n (o::rest.take (m-1)) (.run::as.take (m-1)) (λe' w'=>match l_ a e' with|some r=>k r w'|none=>False) ((s,.bool false)::e) w))
     (λr w'=>gk P tk ops n b (as.drop m) K (c_ a.dst (.bool r) e) w')
   else False
  |_,_=>False
 |n+1,o::rest,_::as,K,e,w=>
  hZ ops o e (kq P tk o (λv w'=>gk P tk ops n rest as K (c_ o.dst v e) w') e w) (gk P tk ops n rest as K (c_ o.dst undef e) w)
 |n+1,o::rest,[],K,e,w=>
  hZ ops o e (kq P tk o (λv w'=>gk P tk ops n rest [] K (c_ o.dst v e) w') e w) (gk P tk ops n rest [] K (c_ o.dst undef e) w)
structure dV(ds:Y Nat)(a a':Act):Prop where
 defers:a'.defers=a.defers
 size:a'.tmps.size=a.tmps.size
 same:∀s,s∉ds->a'.tmps[s]? =a.tmps[s]?
theorem dV.refl(ds:Y Nat)(a:Act):dV ds a a:=⟨rfl,rfl,λ_ _=>rfl⟩
theorem dV.trans{ds:Y Nat}{a b c:Act}(h:dV ds a b)(k:dV ds b c):dV ds a c:=
 ⟨k.defers.trans h.defers,k.size.trans h.size,λs d=>(k.same s d).trans (h.same s d)⟩
theorem dV.mono{ds es:Y Nat}{a b:Act}(h:dV ds a b)(c:∀s,s∈ds->s∈es):dV es a b:=
 ⟨h.defers,h.size,λs d=>h.same s λhm=>d (c s hm)⟩
theorem dV.put{a:Act}{d:aw Nat}{v:O}{ds:Y Nat}(hd:∀k,d=some k->k∈ds):dV ds a (a.put d v):=by
 cases d with
 |none=>exact .refl _ _
 |some d=>exact⟨rfl,by simp[Act.put],λs b=>by
  have:d≠s:=λh=>b (h▸hd d rfl);simp[Act.put,Array.getElem?_setIfInBounds_ne this]⟩
def g4(a:Act)(ds:Y Nat)(K:Env->I->Prop)(x:Exit)(a':Act)(w':I):Prop:=
 x=.normal/\dV ds a a'/\∃e',dh e' a'/\K e' w'
theorem jG{P:Program}{ops:Array Oper}{Q Q':Exit->Act->I->Prop}(b:∀x a w,Q x a w->Q' x a w):
 ∀ (l:Y Oper) (a:Act) (w:I),wpList P ops Q l a w->wpList P ops Q' l a w
 | [],_,_,h=>b _ _ _ h
 |o::l,a,w,h=>by
  simp only[wpList]at h⊢
  split
  .rename_i d
   rw[if_pos d]at h
   refine h.imp (λh=>?_) (λ⟨h1,a',w',h2⟩=>⟨h1,a',w',b _ _ _ h2⟩)
   have:=Oper.wp_mono (Q:=Q) (λa w=>jG b l a w) h
   unfold Oper.wp at this⊢
   revert this
   generalize (execOp a.eval o).run P w=r
   intro this
   cases r with
   |ok aL w'=>
    cases aL<;>simp only[Oper.upon]at this⊢<;>first
     |exact this
     |(exact Calls.mono this λe f he=>by
        cases e with
        |returned v=>exact he
        |panicked c=>exact b _ _ _ he
        |outgrown=>exact let ⟨a',w',h2⟩:=he;⟨a',w',b _ _ _ h2⟩)
   |halt x w'=>cases x<;>simp only[Oper.upon]at this⊢<;>first|exact b _ _ _ this|exact this
  .rename_i d
   rw[if_neg d]at h
   exact jG b l _ _ h
theorem tI{P:Program}{ops:Array Oper}{Q:Exit->Act->I->Prop}(cq:Y Oper):
 ∀ (d:Y Oper) (a:Act) (w:I),wpList P ops (λx a w=>x=.normal/\wpList P ops Q cq a w) d a w->wpList P ops Q (d++cq) a w
 | [],_,_,h=>h.2
 |o::l,a,w,h=>by
  simp only[pT,wpList]at h⊢
  split
  .rename_i b
   rw[if_pos b]at h
   rcases h with h|⟨_,a',w',h2,_⟩
   .left
    have:=Oper.wp_mono (λa w=>tI cq l a w) h
    unfold Oper.wp at this⊢
    revert this
    generalize (execOp a.eval o).run P w=r
    intro this
    cases r with
    |ok aL w'=>
     cases aL<;>simp only[Oper.upon]at this⊢<;>first
      |exact this
      |(exact Calls.mono this λe f he=>by
         cases e with
         |returned v=>exact he
         |panicked c=>cases he.1
         |outgrown=>exact let ⟨a',w',h2⟩:=he;by cases h2.1)
    |halt x w'=>cases x<;>simp only[Oper.upon]at this⊢<;>first|(cases this.1;done)|exact this
   .cases h2
  .rename_i b
   rw[if_neg b]at h
   exact tI cq l _ _ h
section
variable {P:Program}{tk:TypeId->dO}{ops:Array Oper}
def iB:O->aw ah
 | .bool b=>some b
 |_=>none
theorem tJ{e:Env}{a:Act}(ar:dh e a){j:Nat}{v:O}(h:tG ops e j=some v):
 yielded ops a.tmps j=iB v:=by
 unfold tG at h;unfold yielded
 cases hd:(ops[j]?).bind (·.dst) with
 |none=>rw[hd]at h;simp at h
 |some s=>
  rw[hd]at h;simp only[Option.bind_some]at h⊢;rw[ar.get _ _ h]
  cases v<;>rfl
theorem tK{o:Oper}{e:Env}{a:Act}(ar:dh e a){R S:Prop}(h:hZ ops o e R S):
 (Region.wanted o (yielded ops a.tmps)=true/\R)\/(Region.wanted o (yielded ops a.tmps)=false/\S):=by
 unfold hZ at h;unfold Region.wanted;split at h
 .rename_i hg;rw[hg];exact .inl ⟨rfl,h⟩
 .rename_i j want hg
  rw[hg];simp only;split at h
  .exact h.elim
  .rename_i b c
   rw[tJ ar c]
   cases b<;>cases want<;>first|exact .inl ⟨rfl,h⟩|exact .inr ⟨rfl,h⟩
  .rename_i v d c
   rw[tJ ar c]
   cases v<;>first|exact absurd rfl (d _)|exact .inr ⟨by cases want<;>rfl,h⟩
theorem DF{o:Oper}{e:Env}{R a S:Prop}(h:hZ ops o e R S)(c:R->a):hZ ops o e a S:=by
 unfold hZ at h⊢;split at h
 .exact c h
 .rename_i j want hg
  split at h
  .exact h
  .rename_i b d
   cases hb:Bool.xor b want<;>rw[hb]at h<;>first|exact c h|exact h
  .exact h
theorem IS{α:Type}{o:Oper}{e:Env}{R S:aw α}{r:α}(h:mQ ops o e none S=some r):mQ ops o e R S=some r:=by
 unfold mQ at h⊢;split at h
 .cases h
 .rename_i j want hg
  split at h
  .exact h
  .rename_i b a
   cases hb:Bool.xor b want with
   |true=>rw[hb]at h;exact h
   |false=>rw[hb]at h;cases h
  .exact h
theorem IT{α:Type}{o:Oper}{e:Env}{a:Act}(ar:dh e a){R S:aw α}{r:α}(h:mQ ops o e R S=some r):
 (Region.wanted o (yielded ops a.tmps)=true/\R=some r)\/(Region.wanted o (yielded ops a.tmps)=false/\S=some r):=by
 unfold mQ at h;unfold Region.wanted;split at h
 .rename_i hg;rw[hg];exact .inl ⟨rfl,h⟩
 .rename_i j want hg
  rw[hg];simp only;split at h
  .cases h
  .rename_i b c
   rw[tJ ar c]
   cases b<;>cases want<;>first|exact .inl ⟨rfl,h⟩|exact .inr ⟨rfl,h⟩
  .rename_i v d c
   rw[tJ ar c]
   cases v<;>first|exact absurd rfl (d _)|exact .inr ⟨by cases want<;>rfl,h⟩
theorem DG{o:Oper}{e:Env}{a:Act}(ar:dh e a){v:O}(h:fS P o e=some v)(w:I):(execOp a.eval o).run P w=.ok (.value v) w:=by
 unfold fS at h;split at h
 .rename_i x bC
  simp[execOp,bC,ar.ev h]
 .rename_i x bC
  simp[execOp,bC,ar.ev h]
 .rename_i t x bC
  split at h
  .rename_i b hx
   cases h;simp[execOp,bC,ar.ev hx,Op.unary]
  .cases h
 .rename_i op T x y B bC
  split at h
  .rename_i r b g
   split at h
   .rename_i k c hx
    by_cases u:k=r
    .subst u
     simp only[kU,decide_true,cond_true]at h;split at h
     case h_4=>
      split at h
      .cases h
       simp[execOp,bC,ar.ev hx,ar.ev g,eqGuard,binOp,Op.intDiv];intro q;exfalso;revert q;simp;omega
      .cases h
     case h_5=>
      split at h
      .cases h
       simp[execOp,bC,ar.ev hx,ar.ev g,eqGuard,binOp,Op.intDiv];intro q;exfalso;revert q;simp;omega
      .cases h
     all_goals first
      |(cases h;simp[execOp,bC,ar.ev hx,ar.ev g,eqGuard,binOp,Op.intArith,Op.intBits,Op.intCmp];done)
      |cases h
    .simp[kU,u]at h
   .cases h
  .rename_i b g
   split at h
   .rename_i c hx
    split at h
    .rename_i f
     have aT:∀ (d:Nat) (w:I),(Op.equalIn (d+1) T (.bool c) (.bool b)).run P w=.ok (c==b) w:=by
      intro d w;simp[Op.equalIn,cL f]
     have a6:∀w:I,(Op.equal T (.bool c) (.bool b)).run P w=.ok (c==b) w:=λw=>by rw[p3];exact aT _ w
     split at h
     .cases h
      simp[execOp,bC,ar.ev hx,ar.ev g,eqGuard,binOp,a6]
     .cases h
      simp[execOp,bC,ar.ev hx,ar.ev g,eqGuard,binOp,a6]
     .cases h
    .cases h
   .cases h
  .rename_i b g
   split at h
   .rename_i c hx
    split at h
    .cases h
     have aT:(binOp .eql T (.string c) (.string b)).run P w=.ok (.bool (c.toList==b.toList)) w:=rfl;simp only[execOp,bC,ar.ev hx,ar.ev g];simp[eqGuard,aT]
    .cases h
     have aT:(binOp .neq T (.string c) (.string b)).run P w=.ok (.bool (!(c.toList==b.toList))) w:=rfl;simp only[execOp,bC,ar.ev hx,ar.ev g];simp[eqGuard,aT]
    .cases h
   .cases h
  .rename_i g
   split at h
   .rename_i p hx
    by_cases f:nF (P.underlying T)=true
    .rw[f]at h
     simp only[cond_true]at h;split at h
     .cases h;simp[execOp,bC,ar.ev hx,ar.ev g,eqGuard,binOp,v7 (P:=P) f]
     .cases h;simp[execOp,bC,ar.ev hx,ar.ev g,eqGuard,binOp,v7 (P:=P) f]
     .cases h
    .simp only[fN]at f;rw[f]at h;cases h
   .cases h
  .rename_i l c g
   split at h
   .rename_i p _ _ hx
    by_cases f:oN (P.underlying T)=true
    .rw[f]at h
     simp only[cond_true]at h;split at h
     .cases h;simp[execOp,bC,ar.ev hx,ar.ev g,eqGuard,binOp,v8 (P:=P) f]
     .cases h;simp[execOp,bC,ar.ev hx,ar.ev g,eqGuard,binOp,v8 (P:=P) f]
     .cases h
    .simp only[fN]at f;rw[f]at h;cases h
   .cases h
  .cases h
 .rename_i s d x bC
  split at h
  .rename_i k n hx
   split at h
   .rename_i r hd
    by_cases i:(P.underlying s).isSome=true
    .rw[i]at h
     cases h;obtain⟨ds,z⟩:=kV _ i;simp[execOp,bC,ar.ev hx,convert,cL z,cL hd,Conv.intToInt]
    .simp only[fN]at i;rw[i]at h;cases h
   .cases h
  .cases h
 .rename_i args gR bC
  split at h
  .rename_i x T j m
   split at h
   .rename_i p n c A hx f
    cases h;simp[execOp,bC,resolve,invoke,Go.builtin,Builtin.len_,m,j,cL f,ar.ev hx,goInt]
   .rename_i s hx f
    cases h;simp[execOp,bC,resolve,invoke,Go.builtin,Builtin.len_,m,j,cL f,ar.ev hx,goInt]
   .cases h
  .cases h
 .rename_i args gR bC
  split at h
  .rename_i x T j m
   split at h
   .rename_i p n c A hx f
    cases h;simp[execOp,bC,resolve,invoke,Go.builtin,Builtin.cap_,m,j,cL f,ar.ev hx,goInt]
   .cases h
  .cases h
 .cases h
theorem A_{e:Env}{ds:Y Nat}{a a':Act}(ar:dh e a)(hd:oP e ds=true)(d:dV ds a a'):dh e a':=by
 constructor;intro s v b;have hm:∃u,(s,u)∈e:=by
  clear hd ar
  induction e with
  |nil=>cases b
  |cons p e f=>
   obtain⟨k,u⟩:=p;rw[p0]at b;by_cases c:k=s
   .subst c;exact⟨u,by simp⟩
   .rw[if_neg c]at b
    obtain⟨u,hu⟩:=f b;exact⟨u,by simp[hu]⟩
 obtain⟨u,hu⟩:=hm;have h1:=oC.1 hd _ hu;simp only[mL,oD]at h1;rw[d.same s λg=>h1 s g (Nat.beq_refl s)];exact ar.get s v b
theorem Ba{d:Oper}{e:Env}{a:Act}(ar:dh e a){r:ah}(h:l_ d e=some r)(w:I):
 (execOp a.eval d).run P w=.ok (.value (.bool r)) w:=by
 unfold l_ at h;split at h
 .rename_i x y z bC
  split at h
  .rename_i b hb
   split at h
   .rename_i f c
    cases h;simp only[execOp,bC,ar.ev hb]
    cases b
    .simp only[cond_false]at c
     simp[asBool,ar.ev c]
    .simp only[cond_true]at c
     simp[asBool,ar.ev c]
   .cases h
  .cases h
 .cases h
theorem Bb{c:Oper}{e:Env}{a:Act}(ar:dh e a)(h:nH ops c e=true):Region.wanted c (yielded ops a.tmps)=true:=by
 unfold nH at h;unfold Region.wanted;split at h
 .rename_i hg;rw[hg]
 .rename_i j want hg
  rw[hg];simp only;split at h
  .rename_i b d
   rw[tJ ar d]
   cases b<;>cases want<;>first|rfl|cases h
  .cases h
theorem Bc{o:Oper}{e:Env}{s:Nat}{c:ah}(h:tH ops o e=some (s,c)):e.get s=some (.bool c):=by
 unfold tH at h;split at h
 .cases h
 .split at h
  .cases h
  .split at h
   .rename_i a;cases h;exact a
   .cases h
theorem dh.lit{e:Env}{a:Act}(ar:dh e a){s:Nat}{v:O}(h:e.get s=some v):dh ((s,v)::e) a:=by
 constructor;intro t u ht;rw[p0]at ht;by_cases b:s=t
 .subst b
  rw[if_pos rfl]at ht
  cases ht;exact ar.get _ _ h
 .rw[if_neg b]at ht
  exact ar.get _ _ ht
theorem Bd{α:Type}(o:α)(rest:Y α)(m:Nat){a:α}{b:Y α}(h:rest.drop m=a::b):
 o::rest=(o::rest.take m)++(a::b):=by
 rw[←h];simp
theorem IU{b c:ah}{α:Type}{x y z:α}(h:(bif b&&c then x else y)=z)(a:y≠z):b=true/\c=true/\x=z:=by
 cases b<;>cases c<;>first|exact absurd h a|exact⟨rfl,rfl,h⟩
theorem DH:∀ (n:Nat) (l:Y Oper) (as:Y lA) (e e':Env) (a:Act) (w:I),dh e a->(∀d∈bP l,d<a.tmps.size)->
 jF P ops n l as e=some e'->wpList P ops (λx a' w'=>x=.normal/\dV (bP l) a a'/\dh e' a'/\w'=w) l a w:=by
 intro n
 induction n with
 |zero=>intro l as e e' a w _ _ h;cases h
 |succ n u=>
  intro l as e e' a w ar hb h;have one:∀ (o:Oper) (rest:Y Oper) (A:Y lA),(∀d∈bP (o::rest),d<a.tmps.size)->
   (match mQ ops o e (fS P o e) (some undef) with|some v=>jF P ops n rest A (c_ o.dst v e)|none=>none)=some e'->
   wpList P ops (λx a' w'=>x=.normal/\dV (bP (o::rest)) a a'/\dh e' a'/\w'=w) (o::rest) a w:=by
   intro o rest A hb h;have E:∀k,o.dst=some k->k∈bP (o::rest):=λk b=>by simp[bP,b]
   have i:∀k,k∈bP rest->k∈bP (o::rest):=λk b=>by
    simp only[bP,tp];split
    .exact b
    .exact nx _ b
   split at h
   .rename_i v j
    have next:∀ (a':Act),a'=a.put o.dst v->wpList P ops (λx a' w'=>x=.normal/\dV (bP (o::rest)) a a'/\dh e' a'/\w'=w) rest a' w:=by
     intro a' K;subst K;have b:dV (bP (o::rest)) a (a.put o.dst v):=dV.put E;have:=u rest A (c_ o.dst v e) e' (a.put o.dst v) w (ar.put λk b=>hb k (E k b)) (λd hd=>by rw[b.size];exact hb d (i d hd)) h;exact jG (λx a' w' ⟨h1,h2,L,M⟩=>⟨h1,b.trans (h2.mono i),L,M⟩) _ _ _ this
    rcases IT ar j with ⟨B,p⟩|⟨B,p⟩
    .simp only[wpList,B,if_true]
     left;unfold Oper.wp;rw[DG ar p w];exact next _ rfl
    .simp only[wpList,B,gE,if_false]
     cases p;exact next _ rfl
   .cases h
  cases l with
  |nil=>
   simp only[jF,Option.some.injEq]at h;subst h;exact⟨rfl,.refl _ _,ar,rfl⟩
  |cons o rest=>
   cases as with
   |nil=>exact one o rest [] hb (by simpa only[jF] using h)
   |cons N as=>
    cases N with
    |run=>exact one o rest as hb (by simpa only[jF] using h)
    |split m=>exact one o rest as hb (by simpa only[jF] using h)
    |tF V=>exact one o rest as hb (by simpa only[jF] using h)
    |pure m=>
     simp only[jF]at h;split at h
     .refine one o rest as hb ?_
      cases j:mQ ops o e none (some undef) with
      |none=>rw[j]at h;cases h
      |some v=>rw[j]at h;rw[IS j];exact h
     .rename_i s c f g hg hd
      split at h
      .rename_i aT a6 h1 h2
       split at h
       .rename_i r1 a_ O Q
        obtain⟨R,S,h⟩:=IU h (by simp);rw[Bd o rest (m-1) hd]at hb⊢;have F:=Bc hg;refine tI _ _ _ _ ?_;have C:∀k,k∈bP (o::rest.take (m-1))->k∈bP ((o::rest.take (m-1))++(f::g)):=λk b=>by
         simp only[bP,tq,eL];exact .inl b
        have y:∀k,k∈bP (f::g)->k∈bP ((o::rest.take (m-1))++(f::g)):=λk b=>by
         simp only[bP,tq,eL];exact .inr b
        have G:∀k,f.dst=some k->k∈bP (f::g):=λk b=>by simp[bP,b]
        have i:∀k,k∈bP g->k∈bP (f::g):=λk b=>by
         simp only[bP,tp];split
         .exact b
         .exact nx _ b
        have fin:∀ (D:Env) (r:ah) (a1:Act),dV (bP (o::rest.take (m-1))) a a1->dh D a1->l_ f D=some r->r=cond c r1 a_->
         wpList P ops (λx a' w'=>x=.normal/\dV (bP ((o::rest.take (m-1))++(f::g))) a a'/\dh e' a'/\w'=w) (f::g) a1 w:=by
         intro D r a1 z T p U;have H:=A_ ar S z;simp only[wpList,Bb H R,if_true];left;unfold Oper.wp;rw[Ba T p w];simp only[Oper.upon];have J:dV (bP (f::g)) a1 (a1.put f.dst (.bool r)):=dV.put G;have:=u g (as.drop m) (c_ f.dst (.bool (cond c r1 a_)) e) e' (a1.put f.dst (.bool r)) w
          (by rw[U];exact H.put λk b=>by rw[z.size];exact hb k (y k (G k b)))
          (λd hd=>by rw[J.size,z.size];exact hb d (y d (i d hd))) h
         refine jG (λx a' w' ⟨aS,bf,q,t⟩=>⟨aS,(z.mono C).trans ((J.mono y).trans (bf.mono λk b=>y k (i k b))),q,t⟩) _ _ _ this
        cases c with
        |true=>
         have:=u _ _ _ aT a w (ar.lit F) (λd hd=>hb d (C d hd)) h1;exact jG (λx a' w' ⟨aS,bf,q,t⟩=>⟨aS,by subst t;exact fin aT r1 a' bf q O rfl⟩) _ _ _ this
        |false=>
         have:=u _ _ _ a6 a w (ar.lit F) (λd hd=>hb d (C d hd)) h2;exact jG (λx a' w' ⟨aS,bf,q,t⟩=>⟨aS,by subst t;exact fin a6 a_ a' bf q Q rfl⟩) _ _ _ this
       .cases h
      .cases h
     .cases h
theorem DI:∀ (n:Nat) (l:Y Oper) (as:Y lA) (K:Env->I->Prop) (e:Env) (a:Act) (w:I),dh e a->(∀d∈bP l,d<a.tmps.size)->
 gk P tk ops n l as K e w->wpList P ops (g4 a (bP l) K) l a w:=by
 intro n
 induction n with
 |zero=>intro l as K e a w _ _ h;cases h
 |succ n A=>
  intro l as K e a w ar hb h;have one:∀ (o:Oper) (rest:Y Oper) (i:Y lA),(∀d∈bP (o::rest),d<a.tmps.size)->
   hZ ops o e (kq P tk o (λv w'=>gk P tk ops n rest i K (c_ o.dst v e) w') e w) (gk P tk ops n rest i K (c_ o.dst undef e) w)->
   wpList P ops (g4 a (bP (o::rest)) K) (o::rest) a w:=by
   intro o rest i hb h;have B:∀k,o.dst=some k->k∈bP (o::rest):=λk b=>by simp[bP,b]
   have j:∀k,k∈bP rest->k∈bP (o::rest):=λk b=>by
    simp only[bP,tp];split
    .exact b
    .exact nx _ b
   have next:∀ (v:O) (w':I),gk P tk ops n rest i K (c_ o.dst v e) w'->wpList P ops (g4 a (bP (o::rest)) K) rest (a.put o.dst v) w':=by
    intro v w' h;have b:dV (bP (o::rest)) a (a.put o.dst v):=dV.put B;have:=A rest i K (c_ o.dst v e) (a.put o.dst v) w' (ar.put λk b=>hb k (B k b)) (λd hd=>by rw[b.size];exact hb d (j d hd)) h;exact jG (λx a' w' ⟨h1,h2,J⟩=>⟨h1,b.trans (h2.mono j),J⟩) _ _ _ this
   rcases tK ar h with ⟨u,p⟩|⟨u,p⟩
   .simp only[wpList,u,if_true]
    exact .inl ((wh ar p).wp next)
   .simp only[wpList,u,gE,if_false]
    exact next _ _ p
  have R:∀ (o:Oper) (rest:Y Oper) (G:Y Kd) (i:Y lA),(∀d∈bP (o::rest),d<a.tmps.size)->
   hZ ops o e (wi P G o (λv w'=>gk P tk ops n rest i K (c_ o.dst v e) w') e w) (gk P tk ops n rest i K (c_ o.dst undef e) w)->
   wpList P ops (g4 a (bP (o::rest)) K) (o::rest) a w:=by
   intro o rest G i hb h;have B:∀k,o.dst=some k->k∈bP (o::rest):=λk b=>by simp[bP,b]
   have j:∀k,k∈bP rest->k∈bP (o::rest):=λk b=>by
    simp only[bP,tp];split
    .exact b
    .exact nx _ b
   have next:∀ (v:O) (w':I),gk P tk ops n rest i K (c_ o.dst v e) w'->wpList P ops (g4 a (bP (o::rest)) K) rest (a.put o.dst v) w':=by
    intro v w' h;have b:dV (bP (o::rest)) a (a.put o.dst v):=dV.put B;have:=A rest i K (c_ o.dst v e) (a.put o.dst v) w' (ar.put λk b=>hb k (B k b)) (λd hd=>by rw[b.size];exact hb d (j d hd)) h;exact jG (λx a' w' ⟨h1,h2,J⟩=>⟨h1,b.trans (h2.mono j),J⟩) _ _ _ this
   rcases tK ar h with ⟨u,p⟩|⟨u,p⟩
   .simp only[wpList,u,if_true]
    exact .inl ((IQ ar p).wp next)
   .simp only[wpList,u,gE,if_false]
    exact next _ _ p
  cases l with
  |nil=>exact⟨rfl,.refl _ _,e,ar,h⟩
  |cons o rest=>
   cases as with
   |nil=>exact one o rest [] hb (by simpa only[gk] using h)
   |cons S as=>
    cases S with
    |run=>exact one o rest as hb (by simpa only[gk] using h)
    |tF G=>exact R o rest G as hb (by simpa only[gk] using h)
    |split m=>
     simp only[gk]at h;split at h
     .exact one o rest as hb (DF h False.elim)
     .rename_i s c f g hg hd
      obtain⟨L,M,h⟩:nH ops f e=true/\oP e (bP (o::rest.take (m-1)))=true/\_:=by
       cases h1:nH ops f e<;>cases h2:oP e (bP (o::rest.take (m-1)))<;>rw[h1,h2]at h<;>first|exact h.elim|exact⟨rfl,rfl,h⟩
      rw[Bd o rest (m-1) hd]at hb⊢;have C:=Bc hg;refine tI _ _ _ _ ?_;have y:∀k,k∈bP (o::rest.take (m-1))->k∈bP ((o::rest.take (m-1))++(f::g)):=λk b=>by
       simp only[bP,tq,eL];exact .inl b
      have q:∀k,k∈bP (f::g)->k∈bP ((o::rest.take (m-1))++(f::g)):=λk b=>by
       simp only[bP,tq,eL];exact .inr b
      have D:∀k,f.dst=some k->k∈bP (f::g):=λk b=>by simp[bP,b]
      have j:∀k,k∈bP g->k∈bP (f::g):=λk b=>by
       simp only[bP,tp];split
       .exact b
       .exact nx _ b
      have fin:∀ (x:Exit) (a1:Act) (w1:I),g4 a (bP (o::rest.take (m-1)))
       (λe' w'=>match l_ f e' with|some r=>gk P tk ops n g (as.drop m) K (c_ f.dst (.bool r) e) w'|none=>False) x a1 w1->
       x=.normal/\wpList P ops (g4 a (bP ((o::rest.take (m-1))++(f::g))) K) (f::g) a1 w1:=by
       rintro x a1 w1 ⟨hx,t,H,N,h⟩;refine⟨hx,?_⟩;have E:=A_ ar M t;split at h
       .rename_i r p
        simp only[wpList,Bb E L,if_true];left;unfold Oper.wp;rw[Ba N p w1];simp only[Oper.upon];have F:dV (bP (f::g)) a1 (a1.put f.dst (.bool r)):=dV.put D;have:=A g (as.drop m) K (c_ f.dst (.bool r) e) (a1.put f.dst (.bool r)) w1
         (E.put λk b=>by rw[t.size];exact hb k (q k (D k b)))
         (λd hd=>by rw[F.size,t.size];exact hb d (q d (j d hd))) h
        refine jG (λx a' w' ⟨aS,bf,z⟩=>⟨aS,(t.mono y).trans ((F.mono q).trans (bf.mono λk b=>q k (j k b))),z⟩) _ _ _ this
       .exact h.elim
      have h:=h.out
      cases c with
      |true=>
       have:=A _ _ _ _ a w (ar.lit C) (λd hd=>hb d (y d hd)) (h.1 rfl);exact jG fin _ _ _ this
      |false=>
       have:=A _ _ _ _ a w (ar.lit C) (λd hd=>hb d (y d hd)) (h.2 rfl);exact jG fin _ _ _ this
     .exact h.elim
    |pure m=>
     simp only[gk]at h;split at h
     .exact one o rest as hb (DF h False.elim)
     .rename_i s c f g hg hd
      split at h
      .rename_i aT a6 h1 h2
       split at h
       .rename_i r1 a_ T U
        obtain⟨L,M,h⟩:nH ops f e=true/\oP e (bP (o::rest.take (m-1)))=true/\_:=by
         cases aS:nH ops f e<;>cases bf:oP e (bP (o::rest.take (m-1)))<;>rw[aS,bf]at h<;>first|exact h.elim|exact⟨rfl,rfl,h⟩
        rw[Bd o rest (m-1) hd]at hb⊢;have C:=Bc hg;refine tI _ _ _ _ ?_;have y:∀k,k∈bP (o::rest.take (m-1))->k∈bP ((o::rest.take (m-1))++(f::g)):=λk b=>by
         simp only[bP,tq,eL];exact .inl b
        have q:∀k,k∈bP (f::g)->k∈bP ((o::rest.take (m-1))++(f::g)):=λk b=>by
         simp only[bP,tq,eL];exact .inr b
        have D:∀k,f.dst=some k->k∈bP (f::g):=λk b=>by simp[bP,b]
        have j:∀k,k∈bP g->k∈bP (f::g):=λk b=>by
         simp only[bP,tp];split
         .exact b
         .exact nx _ b
        have fin:∀ (H:Env) (r:ah) (a1:Act),dV (bP (o::rest.take (m-1))) a a1->dh H a1->l_ f H=some r->r=cond c r1 a_->
         wpList P ops (g4 a (bP ((o::rest.take (m-1))++(f::g))) K) (f::g) a1 w:=by
         intro H r a1 t N p V;have E:=A_ ar M t;simp only[wpList,Bb E L,if_true];left;unfold Oper.wp;rw[Ba N p w];simp only[Oper.upon];have F:dV (bP (f::g)) a1 (a1.put f.dst (.bool r)):=dV.put D;have:=A g (as.drop m) K (c_ f.dst (.bool (cond c r1 a_)) e) (a1.put f.dst (.bool r)) w
          (by rw[V];exact E.put λk b=>by rw[t.size];exact hb k (q k (D k b)))
          (λd hd=>by rw[F.size,t.size];exact hb d (q d (j d hd))) h
         refine jG (λx a' w' ⟨aS,bf,z⟩=>⟨aS,(t.mono y).trans ((F.mono q).trans (bf.mono λk b=>q k (j k b))),z⟩) _ _ _ this
        cases c with
        |true=>
         have:=DH n _ _ _ aT a w (ar.lit C) (λd hd=>hb d (y d hd)) h1;exact jG (λx a' w' ⟨aS,bf,z,Q⟩=>⟨aS,by subst Q;exact fin aT r1 a' bf z T rfl⟩) _ _ _ this
        |false=>
         have:=DH n _ _ _ a6 a w (ar.lit C) (λd hd=>hb d (y d hd)) h2;exact jG (λx a' w' ⟨aS,bf,z,Q⟩=>⟨aS,by subst Q;exact fin a6 a_ a' bf z U rfl⟩) _ _ _ this
       .exact h.elim
      .exact h.elim
     .exact h.elim
end
end aQ
namespace aQ
open Go
structure af(W:Nat->Prop)(w w':I):Prop where
 os:w'.os=w.os
 tape:w'.tape=w.tape
 output:w'.output=w.output
 size:w.heap.size<=w'.heap.size
 block:∀k,k<w.heap.size->¬W k->w'.heap[k]? =w.heap[k]?
theorem af.refl(W:Nat->Prop)(w:I):af W w w:=⟨rfl,rfl,rfl,bu _,λ_ _ _=>rfl⟩
theorem af.trans{W:Nat->Prop}{a b c:I}(h:af W a b)(k:af W b c):af W a c:=
 ⟨k.os.trans h.os,k.tape.trans h.tape,k.output.trans h.output,cB h.size k.size,λi hi d=>(k.block i (fu hi h.size) d).trans (h.block i hi d)⟩
theorem af.mono{W V:Nat->Prop}{a b:I}(h:af W a b)(c:∀k,k<a.heap.size->W k->V k):af V a b:=
 ⟨h.os,h.tape,h.output,h.size,λi hi d=>h.block i hi λcu=>d (c i hi cu)⟩
theorem af.cell{W:Nat->Prop}{w w':I}(h:af W w w'){A:av}(cu:¬W A.block){v:O}(a:w.cell? A=some v):w'.cell? A=some v:=by
 have hb:A.block<w.heap.size:=by
  rcases fO A.block w.heap.size with h1|h1
  .exact h1
  .simp[World.cell?,Array.getElem?_eq_none h1]at a
 unfold World.cell? at a⊢;rw[h.block _ hb cu];exact a
theorem af.aG{W:Nat->Prop}{w w':I}(h:af W w w'){A:av}(cu:¬W A.block):∀ (n i:Nat) (vs:Y O),aG w A i n=some vs->aG w' A i n=some vs
 |0,_,_,a=>a
 |n+1,i,vs,a=>by
  simp only[aQ.aG]at a⊢
  have b:(A.add i).block=A.block:=by unfold Addr.add;split<;>rfl
  cases h1:w.cell? (A.add i) with
  |none=>simp[h1]at a
  |some v=>
   cases h2:aQ.aG w A (i+1) n with
   |none=>simp[h1,h2]at a
   |some us=>
    simp only[h1,h2]at a
    rw[h.cell (by rw[b];exact cu) h1,af.aG h cu n (i+1) us h2]
    exact a
def gl{α:Type}:Sem α->Prop
 | .pure _=>True
 | .program k=>∀p,gl (k p)
 | .halt _=>True
 |_=>False
theorem gl.bind{α β:Type}:∀ {s:Sem α}{f:α->Sem β},gl s->(∀a,gl (f a))->gl (s>>=f)
 | .pure a,_,_,hf=>hf a
 | .program _,_,h,hf=> λp=>gl.bind (h p) hf
 | .halt _,_,_,_=>trivial
 | .load ..,_,h,_=>h.elim
 | .store ..,_,h,_=>h.elim
 | .new ..,_,h,_=>h.elim
 | .shape ..,_,h,_=>h.elim
 | .freeze ..,_,h,_=>h.elim
 | .frozen ..,_,h,_=>h.elim
 | .getObj ..,_,h,_=>h.elim
 | .setObj ..,_,h,_=>h.elim
 | .choose ..,_,h,_=>h.elim
 | .sys ..,_,h,_=>h.elim
 | .mark ..,_,h,_=>h.elim
theorem gl.run{α:Type}{P:Program}:∀ {s:Sem α}{w w':I}{v:α},gl s->s.run P w=.ok v w'->∀u,s.run P u=.ok v u
 | .pure a,w,w',v,_,h,u=>by
  simp only[Sem.run,Result.ok.injEq]at h⊢
  exact⟨h.1,trivial⟩
 | .program k,w,w',v,hf,h,u=>gl.run (hf P) h u
 | .halt _,w,w',v,_,h,_=>by simp[Sem.run]at h
 | .load ..,_,_,_,h,_,_=>h.elim
 | .store ..,_,_,_,h,_,_=>h.elim
 | .new ..,_,_,_,h,_,_=>h.elim
 | .shape ..,_,_,_,h,_,_=>h.elim
 | .freeze ..,_,_,_,h,_,_=>h.elim
 | .frozen ..,_,_,_,h,_,_=>h.elim
 | .getObj ..,_,_,_,h,_,_=>h.elim
 | .setObj ..,_,_,_,h,_,_=>h.elim
 | .choose ..,_,_,_,h,_,_=>h.elim
 | .sys ..,_,_,_,h,_,_=>h.elim
 | .mark ..,_,_,_,h,_,_=>h.elim
theorem DJ:gl program:=λ_=>trivial
theorem DK(t:TypeId):gl (underlying t):=by
 unfold underlying;refine gl.bind DJ λp=>?_;split<;>trivial
theorem IV(t:TypeId):gl (typeInfo t):=by
 unfold typeInfo;refine gl.bind DJ λp=>?_;split<;>trivial
theorem IW(t:TypeId):gl (Go.sizeOf t):=gl.bind (IV t) λ_=>trivial
theorem IX(t:TypeId):gl (isAgg t):=by
 unfold isAgg;refine gl.bind (DK t) λd=>?_;split<;>trivial
theorem IY(t:TypeId)(cs:Array O)(off:Nat):gl (part t cs off):=by
 unfold part;refine gl.bind (IX t) λd=>?_;split
 .exact gl.bind (IW t) λ_=>trivial
 .split<;>trivial
theorem IZ(t:TypeId)(x:O)(i:Nat):gl (Instr.field t x i):=by
 unfold Instr.field;refine gl.bind (DK t) λd=>?_;split
 .split
  .refine gl.bind ?_ λ_=>IY _ _ _
   unfold asAgg;split<;>trivial
  .trivial
 .trivial
def DL:Op->ah
 | .move _=>true
 | .assign _=>true
 | .pick _ _ _=>true
 | .field _ _ _=>true
 |_=>false
def tL(P:Program)(o:Oper)(K:O->Prop)(e:Env)(w:I):Prop:=
 bif DL o.op&&known e o.op.operands then
  match (execOp (ro e) o).run P w with
  | .ok (.value v) _=>K v
  |_=>False
 else False
def rB(P:Program)(o:Oper)(K:O->Prop)(e:Env):Prop:=
 match fS P o e with
 |some v=>K v
 |none=>False
def DM(P:Program)(T:TypeId)(x:O)(i:Nat)(K:O->Prop):Prop:=
 match P.underlying T with
 |some (.struct fs)=>match fs[i]? with
  |some f=>match x with
   | .pointer (some A)=>match P.underlying f.type with
    |some _=>bif Nat.beq (P.cellsOf f.type) 0 then False else K (.pointer (some (A.add f.offset)))
    |none=>False
   |_=>False
  |none=>False
 |_=>False
def DN(x:O)(i:Nat)(K:O->Prop):Prop:=
 match x with
 | .tuple vs=>match vs[i]? with
  |some v=>K v
  |none=>False
 |_=>False
def kt(o:Oper):ah:=
 match o.op with
 | .load _ _=>true
 | .convert _ _ _=>true
 |_=>false
def mb:Nat->Y Oper->Nat
 |_,[]=>0
 |i,o::l=>bif kt o then 2^i|||mb (i+1) l else mb (i+1) l
def Be(P:Program)(tk:TypeId->dO)(W:Nat->Prop)(w:I)(o:Oper)(K:O->Prop)(e:Env):Prop:=
 match o.op with
 | .nilCheck x=>match ev e x with
  |some (.pointer p)=>∃A,p=some A/\K (.pointer (some A))
  |_=>False
 | .load T x=>match ev e x with
  |some (.pointer (some A))=>¬W A.block/\ry P tk T A w K
  |_=>False
 | .binOp op T x y _=>match ev e x,ev e y with
  |some a,some c=>bif rA y c then vZ P op T a c K (rB P o K e) else False
  |_,_=>False
 | .indexAddr T x i=>match ev e x,ev e i with
  |some a,some b=>wa P T a b K
  |_,_=>False
 | .index T x i=>match ev e x,ev e i with
  |some a,some b=>wc P tk T a b K
  |_,_=>False
 | .field T x i=>match ev e x with
  |some a=>we P tk T a i K
  |_=>False
 | .fieldAddr T x i=>match ev e x with
  |some a=>DM P T a i K
  |_=>False
 | .extract x i=>match ev e x with
  |some a=>DN a i K
  |_=>False
 | .slice T x lo hi f=>bif known e o.op.operands then
  wg P T (ro e x) (lo.map (ro e)) (hi.map (ro e)) (f.map (ro e)) K
  else False
 | .convert s d x=>match ev e x with
  |some (.int _ _)=>rB P o K e
  |some v=>iU (tk o.type) λr=>(∀w',af W w w'->(convert s d v).run P w'=.ok r w')/\K r
  |none=>False
 | .build t ps=>bif known e o.op.operands then
  ∃cs:Array O,(∀w',(Instr.build t (ps.map λp=>(p.1,ro e p.2))).run P w'=.ok (.agg cs) w')/\K (.agg cs)
  else False
 | .unOp _ _ _=>rB P o K e
 | .call _=>rB P o K e
 | .move _=>tL P o K e w
 | .assign _=>tL P o K e w
 | .pick _ _ _=>tL P o K e w
 | .sliceToArrayPointer T x=>match ev e x with
  |some a=>v_ P T a K
  |_=>False
 |_=>False
section
variable {P:Program}{tk:TypeId->dO}{W:Nat->Prop}{o:Oper}{K:O->Prop}{e:Env}{a:Act}{w:I}
theorem Bf(ar:dh e a)(h:tL P o K e w):∃v,(∀w',(execOp a.eval o).run P w'=.ok (.value v) w')/\K v:=by
 unfold tL at h
 cases hf:DL o.op with
 |false=>rw[hf]at h;exact h.elim
 |true=>
  cases b:known e o.op.operands with
  |false=>rw[hf,b]at h;exact h.elim
  |true=>
   rw[hf,b]at h;simp only[Bool.and_self,cond_true]at h;have hc:=lz ar (by cases bC:o.op<;>rw[bC]at hf<;>first|rfl|cases hf) b;rw[hc];split at h
   .rename_i v w' c
    refine⟨v,λu=>gl.run ?_ c u,h⟩
    cases bC:o.op<;>rw[bC]at hf<;>first|(cases hf;done)|skip
    .simp only[execOp,bC];trivial
    .simp only[execOp,bC];trivial
    .simp only[execOp,bC]
     refine gl.bind ?_ λ_=>trivial;unfold asBool;split<;>trivial
    .simp only[execOp,bC]
     exact gl.bind (IZ _ _ _) λ_=>trivial
   .exact h.elim
theorem wj(ar:dh e a)(h:rB P o K e):∃v,(∀w',(execOp a.eval o).run P w'=.ok (.value v) w')/\K v:=by
 unfold rB at h;split at h
 .rename_i v b
  exact⟨v,DG ar b,h⟩
 .exact h.elim
theorem I0(ar:dh e a)(h:Be P tk W w o K e):∃v,(∀w',(kt o=true->af W w w')->(execOp a.eval o).run P w'=.ok (.value v) w')/\K v:=by
 have da:(∃v,(∀w',(execOp a.eval o).run P w'=.ok (.value v) w')/\K v)->∃v,(∀w',(kt o=true->af W w w')->(execOp a.eval o).run P w'=.ok (.value v) w')/\K v:=
  λ⟨v,h1,h2⟩=>⟨v,λw' _=>h1 w',h2⟩
 unfold Be at h;split at h
 case h_1 x bC=>
  split at h
  .rename_i p hx
   obtain⟨A,rfl,b⟩:=h;exact⟨_,λw' _=>by simp[execOp,bC,ar.ev hx],b⟩
  .exact h.elim
 case h_2 T x bC=>
  split at h
  .rename_i A hx
   obtain⟨cu,h⟩:=h;have key:∃v,(∀w',af W w w'->(Instr.loadAt T (.pointer (some A))).run P w'=.ok v w')/\K v:=by
    have aT:∀w',(Instr.loadAt T (.pointer (some A))).run P w'=(loadVar T A).run P w':=λw'=>by simp[Instr.loadAt,Instr.sureAddr]
    unfold ry at h;split at h
    .exact h.elim
    .rename_i d l
     cases hd:g2 d with
     |true=>
      rw[hd]at h;simp only[cond_true]at h;split at h
      .rename_i ls _
       by_cases hb:Nat.beq (P.cellsOf T) ls.length=true
       .rw[hb]at h
        simp only[cond_true]at h;obtain⟨vs,u,h⟩:=A8 h;rw[←je hb]at u;exact⟨_,λw' hc=>by rw[aT,vY l hd (hc.aG cu _ _ _ u)],h⟩
       .simp only[fN]at hb;rw[hb]at h;exact h.elim
      .obtain⟨cs,C,h⟩:=h
       exact⟨_,λw' hc=>by rw[aT,vY l hd (hc.aG cu _ _ _ C)],h⟩
     |false=>
      rw[hd]at h;simp only[cond_false]at h;split at h
      .obtain⟨v,g,h⟩:=rr h
       exact⟨v,λw' hc=>by rw[aT,Dl l hd (hc.cell cu g)],h⟩
      .exact h.elim
   obtain⟨v,g,b⟩:=key;exact⟨v,λw' hc=>by simp[execOp,bC,ar.ev hx,g w' (hc (by unfold kt;rw[bC]))],b⟩
  .exact h.elim
 case h_3 op T x y H bC=>
  split at h
  .rename_i k z hx D
   by_cases m:rA y z=true
   .rw[m]at h
    simp only[cond_true]at h;have E:z=.nilIface->∃c,y=.const c:=by
     intro g;subst g
     cases y<;>simp[rA]at m⊢
    rcases Ds (p4:=x) (oO:=y) E h with hg|⟨v,g,b⟩
    .exact da (wj ar hg)
    .exact⟨v,λw' _=>by
      simp only[execOp,bC,ar.ev hx,ar.ev D];have B:=g w';simp only[Sem.run_bind]at B⊢;rw[B];rfl,b⟩
   .simp only[fN]at m;rw[m]at h;exact h.elim
  .exact h.elim
 case h_4 T x i bC=>
  split at h
  .rename_i k F hx hi
   obtain⟨v,g,b⟩:=Du h;exact⟨v,λw' _=>by simp[execOp,bC,ar.ev hx,ar.ev hi,g],b⟩
  .exact h.elim
 case h_5 T x i bC=>
  split at h
  .rename_i k F hx hi
   obtain⟨v,g,b⟩:=Dw h;exact⟨v,λw' _=>by simp[execOp,bC,ar.ev hx,ar.ev hi,g],b⟩
  .exact h.elim
 case h_6 T x i bC=>
  split at h
  .rename_i k hx
   obtain⟨v,g,b⟩:=Dx h;exact⟨v,λw' _=>by simp[execOp,bC,ar.ev hx,g],b⟩
  .exact h.elim
 case h_7 T x i bC=>
  split at h
  .rename_i k hx
   unfold DM at h;split at h
   .rename_i fs l
    split at h
    .rename_i f hf
     split at h
     .rename_i A
      split at h
      .rename_i d hd
       cases n:Nat.beq (P.cellsOf f.type) 0 with
       |true=>rw[n]at h;exact h.elim
       |false=>
        rw[n]at h;have G:¬P.cellsOf f.type=0:=λh0=>by rw[h0]at n;cases n
        exact⟨_,λw' _=>by simp[execOp,bC,ar.ev hx,Instr.fieldAt,cL l,hf,Instr.sureAddr,fieldPlace,g3 hd,G],h⟩
      .exact h.elim
     .exact h.elim
    .exact h.elim
   .exact h.elim
  .exact h.elim
 case h_8 x i bC=>
  split at h
  .rename_i k hx
   unfold DN at h;split at h
   .rename_i vs
    split at h
    .rename_i v g
     exact⟨v,λw' _=>by simp[execOp,bC,ar.ev hx,Instr.extract,g],h⟩
    .exact h.elim
   .exact h.elim
  .exact h.elim
 case h_9 T x lo hi I bC=>
  by_cases j:known e o.op.operands=true
  .rw[j]at h
   simp only[cond_true]at h;have hc:=lz ar (by rw[bC];rfl) j;obtain⟨v,g,b⟩:=Dy h;exact⟨v,λw' _=>by rw[hc];simp[execOp,bC,g],b⟩
  .simp only[fN]at j;rw[j]at h;exact h.elim
 case h_10 s d x bC=>
  split at h
  .exact da (wj ar h)
  .rename_i v _ hx
   obtain⟨r,q,b⟩:=ji h;exact⟨r,λw' hc=>by simp[execOp,bC,ar.ev hx,q w' (hc (by unfold kt;rw[bC]))],b⟩
  .exact h.elim
 case h_11 t ps bC=>
  by_cases j:known e o.op.operands=true
  .rw[j]at h
   simp only[cond_true]at h;have hc:=lz ar (by rw[bC];rfl) j;obtain⟨cs,q,b⟩:=h;exact⟨_,λw' _=>by rw[hc];simp[execOp,bC];rw[q];rfl,b⟩
  .simp only[fN]at j;rw[j]at h;exact h.elim
 case h_12=>exact da (wj ar h)
 case h_13=>exact da (wj ar h)
 case h_14=>exact da (Bf ar h)
 case h_15=>exact da (Bf ar h)
 case h_16=>exact da (Bf ar h)
 case h_17 T x bC=>
  split at h
  .rename_i k hx
   obtain⟨v,g,b⟩:=Dt h;exact⟨v,λw' _=>by simp[execOp,bC,ar.ev hx,g],b⟩
  .exact h.elim
 case h_18=>exact h.elim
end
inductive bM where
 |take (i:Nat) (t:bM)
 |bJ (i:Nat) (t:bM)
 |out (i:Nat) (b:ah) (t:bM)
 |two (i:Nat) (t:bM) (j:Nat) (u:bM)
 |three (i:Nat) (t:bM) (j:Nat) (u:bM) (k:Nat) (v:bM)
 |sp (s:Nat) (t u:bM)
 |fin
 |tail (as:Y lA)
def iV:Y Nat->Nat
 | []=>0
 |d::l=>2^d|||iV l
theorem nI:∀ (l:Y Nat) (k:Nat),(iV l).testBit k=decide (k∈l)
 | [],k=>by simp[iV]
 |d::l,k=>by
  simp only[iV,oE,nI l k,tr]
  by_cases h:d=k
  .subst h;simp
  .have:¬k=d:=λa=>h a.symm
   simp[h,this]
def oQ(o:Oper):Y Nat:=(o.after.toList.filter λe=>Region.binds .any e).map (·.on)
structure lB where
 M:Y Nat
 A:Y Nat
def lC(l:Y Nat)(i:Nat):Nat:=l.getD i 0
def lD(bY:lB)(m i:Nat):ah:= !(m.testBit i)&&Nat.beq (lC bY.M i&&&m) (lC bY.M i)
def DO(bY:lB)(N m i:Nat):ah:=Nat.beq (lC bY.A i&&&((2^N-1)^^^m)) 0
def mc(bY:lB)(m:Nat)(a:Y Nat):Nat->ah
 |0=>true
 |k+1=>(a.any (Nat.beq k)|| !(lD bY m k))&&mc bY m a k
def tM(bY:lB):Nat->Y Oper->ah
 |_,[]=>true
 |i,o::l=>Nat.beq (iV (oQ o)) (lC bY.M i)&&tM bY (i+1) l
def tN(M:Y Nat)(a i b c:Nat):Nat->Y Nat->Y Nat->Y Nat->ah
 |j,e::f,d::g,h::k=>(a.testBit j||(Nat.beq i j||(e.testBit i||(Nat.beq (b&&&(h|||d)) 0&&Nat.beq (d&&&c) 0))))&&tN M a i b c (j+1) f g k
 |_,_,_,_=>true
def wk(bY:lB)(D K:Y Nat):Nat->Y Nat->Y Nat->ah
 |i,d::a,k::b=>tN bY.M (lC bY.A i) i d k 0 bY.M D K&&wk bY D K (i+1) a b
 |_,_,_=>true
def DP(ops:Y Oper):Y Nat:=ops.map λo=>iV o.dst.toList
def DQ(a:Array Oper)(ops:Y Oper):Y Nat:=ops.map λo=>iV (o.looksAt a)
def tO:Y Nat->Y Nat->ah
 | [],[]=>true
 |a::l,b::r=>Nat.beq a b&&tO l r
 |_,_=>false
theorem Bg:∀ {l r:Y Nat},tO l r=true->l=r
 | [],[],_=>rfl
 |a::l,b::r,h=>by
  simp only[tO,dM]at h
  rw[je h.1,Bg h.2]
def mR(bY:lB)(D K:Y Nat)(a:Array Oper):ah:=
 Nat.beq bY.M.length a.size&&(tM bY 0 a.toList&&(tO (DP a.toList) D&&(tO (DQ a a.toList) K&&wk bY D K 0 D K)))
def tP(bY:lB):Nat->Nat->Nat->Nat->ah
 |0,_,N,m=>mc bY m [] N
 |g+1,k,N,m=>(lD bY m k&&mc bY m [k] N)&&tP bY g (k+1) N (m|||2^k)
def dT(P:Program)(tk:TypeId->dO)(ops:Array Oper)(n:Nat)(bY:lB)(W:Nat->Prop):bM->Nat->Nat->(Env->I->Prop)->Env->I->Prop
 | .take i t,f+1,m,K,e,w=>
  bif lD bY m i&&(DO bY ops.size m i&&Nat.blt i n) then
   match ops[i]? with
   |some o=>hZ ops o e (Be P tk W w o (λv=>dT P tk ops n bY W t f (m|||2^i) K (c_ o.dst v e) w) e) (dT P tk ops n bY W t f (m|||2^i) K (c_ o.dst undef e) w)
   |none=>False
  else False
 | .bJ i t,f+1,m,K,e,w=>
  bif (lD bY m i&&mc bY m [i] ops.size)&&Nat.blt i n then
   match ops[i]? with
   |some o=>hZ ops o e (kq P tk o (λv w'=>af W w w'/\dT P tk ops n bY W t f (m|||2^i) K (c_ o.dst v e) w') e w) (dT P tk ops n bY W t f (m|||2^i) K (c_ o.dst undef e) w)
   |none=>False
  else False
 | .out i b t,f+1,m,K,e,w=>
  bif (lD bY m i&&mc bY m [i] ops.size)&&(Nat.blt i n&&Nat.beq ((mb 0 ops.toList&&&m)&&&lC bY.M i) (mb 0 ops.toList&&&m)) then
   match ops[i]? with
   |some o=>hZ ops o e (kq P tk o (λv w'=>bif b then ∃V:Nat->Prop,dT P tk ops n bY V t f (m|||2^i) K (c_ o.dst v e) w' else dT P tk ops n bY W t f (m|||2^i) K (c_ o.dst v e) w') e w) (dT P tk ops n bY W t f (m|||2^i) K (c_ o.dst undef e) w)
   |none=>False
  else False
 | .two i t j u,f+1,m,K,e,w=>
  bif (lD bY m i&&mc bY m [i,j] ops.size)&&(Nat.blt i n&&Nat.blt j n) then
   match ops[i]?,ops[j]? with
   |some o,some q=>
    hZ ops o e (kq P tk o (λv w'=>af W w w'/\dT P tk ops n bY W t f (m|||2^i) K (c_ o.dst v e) w') e w) (dT P tk ops n bY W t f (m|||2^i) K (c_ o.dst undef e) w)/\
    hZ ops q e (kq P tk q (λv w'=>af W w w'/\dT P tk ops n bY W u f (m|||2^j) K (c_ q.dst v e) w') e w) (dT P tk ops n bY W u f (m|||2^j) K (c_ q.dst undef e) w)
   |_,_=>False
  else False
 | .three i t j u k x,f+1,m,K,e,w=>
  bif (lD bY m i&&mc bY m [i,j,k] ops.size)&&(Nat.blt i n&&(Nat.blt j n&&Nat.blt k n)) then
   match ops[i]?,ops[j]?,ops[k]? with
   |some o,some q,some r=>
    hZ ops o e (kq P tk o (λv w'=>af W w w'/\dT P tk ops n bY W t f (m|||2^i) K (c_ o.dst v e) w') e w) (dT P tk ops n bY W t f (m|||2^i) K (c_ o.dst undef e) w)/\
    hZ ops q e (kq P tk q (λv w'=>af W w w'/\dT P tk ops n bY W u f (m|||2^j) K (c_ q.dst v e) w') e w) (dT P tk ops n bY W u f (m|||2^j) K (c_ q.dst undef e) w)/\
    hZ ops r e (kq P tk r (λv w'=>af W w w'/\dT P tk ops n bY W x f (m|||2^k) K (c_ r.dst v e) w') e w) (dT P tk ops n bY W x f (m|||2^k) K (c_ r.dst undef e) w)
   |_,_,_=>False
  else False
 | .sp s t u,f,m,K,e,w=>
  match e.get s with
  |some (.bool c)=>(c=true->dT P tk ops n bY W t f m K ((s,.bool true)::e) w)/\(c=false->dT P tk ops n bY W u f m K ((s,.bool false)::e) w)
  |_=>False
 | .fin,0,m,K,e,w=>bif mc bY m [] ops.size&&Nat.beq n ops.size then K e w else False
 | .tail as,0,m,K,e,w=>bif tP bY (ops.size-n) n ops.size m&&Nat.blt n ops.size then gk P tk ops (ops.size-n+1) (ops.toList.drop n) as K e w else False
 |_,_,_,_,_,_=>False
def eC(N m:Nat):Array ah:=(Array.range N).map λi=>m.testBit i
theorem rC{N m i:Nat}{d:ah}(h:i<N):(eC N m).getD i d=m.testBit i:=by
 simp[eC,h]
theorem I1{N m i:Nat}{d:ah}(h:N<=i):(eC N m).getD i d=d:=by
 simp[eC,h]
theorem wm(N m i:Nat):(eC N m).setIfInBounds i true=eC N (m|||2^i):=by
 apply Array.ext
 .simp[eC]
 .intro j h1 h2
  have b:j<N:=by simpa[eC] using h2
  have c:j<(eC N m).size:=by simpa[eC] using b
  rw[Array.getElem_setIfInBounds c];simp only[eC,Array.getElem_map,Array.getElem_range,oE,tr];by_cases a:i=j
  .subst a;simp
  .simp[a]
theorem DR(N:Nat):eC N 0=Array.replicate N false:=by
 apply Array.ext
 .simp[eC]
 .intro j h1 h2
  simp[eC]
section
variable {ops:Array Oper}{bY:lB}{D K:Y Nat}
theorem DS:∀ (l:Y Oper) (i k:Nat) (o:Oper),tM bY i l=true->l[k]? =some o->lC bY.M (i+k)=iV (oQ o)
 | [],_,_,_,_,h=>by simp at h
 |p::l,i,0,o,hc,h=>by
  simp only[tM,dM]at hc
  simp only[oF,Option.some.injEq]at h
  subst h
  exact(je hc.1).symm
 |p::l,i,k+1,o,hc,h=>by
  simp only[tM,dM]at hc
  have:=DS l (i+1) k o hc.2 (by simpa using h)
  rw[show i+(k+1)=i+1+k from J]
  exact this
theorem wo(h:mR bY D K ops=true){i:Nat}{o:Oper}(a:ops[i]? =some o):lC bY.M i=iV (oQ o):=by
 simp only[mR,dM]at h;have:=DS ops.toList 0 i o h.2.1 (by simpa using a);simpa using this
theorem DT{a b:Nat}(h:a&&&b=a){k:Nat}(c:a.testBit k=true):b.testBit k=true:=by
 have:=congrArg (λx=>x.testBit k) h;simp only[Nat.testBit_and,c,jf]at this;exact this
theorem DU:∀ (l:Y Oper) (i k:Nat) (o:Oper),l[k]? =some o->(mb i l).testBit (i+k)=kt o
 | [],_,_,_,h=>by simp at h
 |p::l,i,0,o,h=>by
  simp only[oF,Option.some.injEq]at h
  subst h
  have low:∀ (l:Y Oper) (i k:Nat),k<i->(mb i l).testBit k=false:=by
   intro l
   induction l with
   |nil=>intro i k _;simp[mb]
   |cons q l a=>
    intro i k b;simp only[mb]
    cases kt q
    .exact a (i+1) k J
    .simp only[cond_true,oE,tr,a (i+1) k J,Bool.or_false,ny]
     omega
  simp only[mb,kN]
  cases kt p
  .exact low l (i+1) i J
  .simp[oE]
 |p::l,i,k+1,o,h=>by
  have:=DU l (i+1) k o (by simpa using h);rw[show i+1+k=i+(k+1) from J]at this;simp only[mb]
  cases kt p
  .exact this
  .simp only[cond_true,oE,tr,this]
   simp
theorem wq{o:Oper}{k:Nat}:k∈oQ o↔∃e∈o.after,Region.binds .any e=true/\e.on=k:=by
 simp only[oQ,dX,ia,Array.mem_toList_iff];constructor
 .rintro⟨e,⟨h1,h2⟩,a⟩;exact⟨e,h1,h2,a⟩
 .rintro⟨e,h1,h2,a⟩;exact⟨e,⟨h1,h2⟩,a⟩
def Small(N m:Nat):Prop:=∀k,N<=k->m.testBit k=false
theorem I2(N:Nat):Small N 0:=λk _=>by simp
theorem wu{N m i:Nat}(h:Small N m)(hi:i<N):Small N (m|||2^i):=λk a=>by
 simp only[oE,h k a,tr,tt,ny]
 omega
theorem wv(hc:mR bY D K ops=true){m i:Nat}(hm:Small ops.size m):i∈Region.ready .any ops (eC ops.size m)↔i<ops.size/\lD bY m i=true:=by
 rw[mem_ready];constructor
 .rintro⟨h1,o,a,cW⟩
  have hi:i<ops.size:=(kO.1 a).1;refine⟨hi,?_⟩;rw[rC hi]at h1;simp only[lD,h1,Bool.not_false,jf];rw[wo hc a];have:iV (oQ o)&&&m=iV (oQ o):=by
   apply Nat.eq_of_testBit_eq;intro k;simp only[Nat.testBit_and,nI];by_cases b:k∈oQ o
   .obtain⟨e,he,hb,d⟩:=wq.1 b
    have h2:=cW e he hb;rw[d]at h2;rcases fO k ops.size with aK|f
    .rw[rC aK]at h2;simp[b,h2]
    .rw[I1 f]at h2;cases h2
   .simp[b]
  rw[this];exact Nat.beq_refl _
 .rintro⟨hi,h⟩
  simp only[lD,dM,mL]at h;have a:ops[i]? =some ops[i]:=by simp[hi]
  refine⟨by rw[rC hi];exact h.1,ops[i],a,λe he hb=>?_⟩;have h2:=je h.2;rw[wo hc a]at h2;have c:m.testBit e.on=true:=DT h2 (by
   rw[nI];simp only[dN];exact wq.2 ⟨e,he,hb,rfl⟩)
  have aK:e.on<ops.size:=by
   rcases fO e.on ops.size with h|h
   .exact h
   .rw[hm _ h]at c;cases c
  rw[rC aK];exact c
theorem DV:∀ (N:Nat) {m:Nat}{a:Y Nat},mc bY m a N=true->∀k,k<N->lD bY m k=true->k∈a
 |0,_,_,_,k,c,_=>by omega
 |N+1,m,a,h,k,c,b=>by
  simp only[mc,dM,l6,mL]at h
  rcases fO k N with h1|h1
  .exact DV N h.2 k h1 b
  .have:k=N:=by omega
   subst this
   rcases h.1 with h2|h2
   .obtain⟨x,hx,hb⟩:=oG.1 h2
    rw[je hb];exact hx
   .rw[b]at h2;cases h2
theorem p7(hc:mR bY D K ops=true){m:Nat}{a:Y Nat}(hm:Small ops.size m)(h:mc bY m a ops.size=true):
 ∀k∈Region.ready .any ops (eC ops.size m),k∈a:=λk b=>
 let ⟨h1,h2⟩:=(wv hc hm).1 b
 DV _ h k h1 h2
theorem DW:∀ (b c d:Y Nat) (n:Y Nat) (e i f g j k:Nat) (l a m:Nat),tN n e i f g j b c d=true->b[k]? =some l->c[k]? =some a->d[k]? =some m->
 e.testBit (j+k)=true\/i=j+k\/l.testBit i=true\/(f&&&(m|||a)=0/\a&&&g=0)
 | [],_,_,_,_,_,_,_,_,_,_,_,_,_,h,_,_=>by simp at h
 |_::_,[],_,_,_,_,_,_,_,_,_,_,_,_,_,h,_=>by simp at h
 |_::_,_::_,[],_,_,_,_,_,_,_,_,_,_,_,_,_,h=>by simp at h
 |p::b,q::c,r::d,n,e,i,f,g,j,k,l,a,m,hc,h1,h2,o=>by
  simp only[tN,dM,l6]at hc
  cases k with
  |zero=>
   simp only[oF,Option.some.injEq]at h1 h2 o
   subst h1 h2 o
   rcases hc.1 with h|h|h|h
   .exact .inl h
   .exact .inr (.inl (je h))
   .exact .inr (.inr (.inl h))
   .exact .inr (.inr (.inr ⟨je h.1,je h.2⟩))
  |succ k=>
   have:=DW b c d n e i f g (j+1) k l a m hc.2 (by simpa using h1) (by simpa using h2) (by simpa using o)
   rw[show j+(k+1)=j+1+k from J]
   exact this
theorem DX:∀ (a b:Y Nat) (i k:Nat) (c e:Nat),wk bY D K i a b=true->a[k]? =some c->b[k]? =some e->
 tN bY.M (lC bY.A (i+k)) (i+k) c e 0 bY.M D K=true
 | [],_,_,_,_,_,_,h,_=>by simp at h
 |_::_,[],_,_,_,_,_,_,h=>by simp at h
 |d::a,f::b,i,k,c,e,hc,h1,h2=>by
  simp only[wk,dM]at hc
  cases k with
  |zero=>
   simp only[oF,Option.some.injEq]at h1 h2
   subst h1 h2
   exact hc.1
  |succ k=>
   have:=DX a b (i+1) k c e hc.2 (by simpa using h1) (by simpa using h2)
   rw[show i+(k+1)=i+1+k from J]
   exact this
theorem Bh{a b:Nat}(h:a&&&b=0){k:Nat}(c:a.testBit k=true):b.testBit k=false:=by
 have:=congrArg (λx=>x.testBit k) h;simp only[Nat.testBit_and,c,jf,Nat.zero_testBit]at this;exact this
theorem I3{x y:Oper}(h1:iV x.dst.toList&&&(iV (y.looksAt ops)|||iV y.dst.toList)=0)(h2:iV y.dst.toList&&&iV (x.looksAt ops)=0):
 x.apart ops y=true:=by
 unfold Oper.apart;simp only[dM];refine⟨?_,?_⟩
 .cases hx:x.dst with
  |none=>rfl
  |some d=>
   rw[hx]at h1;have a:=Bh h1 (k:=d) (by rw[nI];simp);simp only[oE,nI,Bool.or_eq_false_iff,ny]at a;simp only[dM,mL,bne_iff_ne,ne_eq];refine⟨by simpa using a.1,λh=>?_⟩;rw[h]at a;simp at a
 .cases b:y.dst with
  |none=>rfl
  |some d=>
   rw[b]at h2;have a:=Bh h2 (k:=d) (by rw[nI];simp);simp only[nI,ny]at a;simpa using a
theorem I4(hc:mR bY D K ops=true){m i:Nat}{d:Oper}(hi:ops[i]? =some d)(h:DO bY ops.size m i=true):
 ∀j a,ops[j]? =some a->j≠i->(eC ops.size m).getD j true=false->(∀e∈a.after,Region.binds .any e=true->e.on≠i)->d.apart ops a=true:=by
 intro j a b p f q;have r:=hc;simp only[mR,dM]at hc;obtain⟨hlen,A,s,t,ar⟩:=hc;have B:=je hlen;have u:=Bg s;have v:=Bg t;have g:j<ops.size:=(kO.1 b).1;have l:∀ {k:Nat}{o:Oper},ops[k]? =some o->D[k]? =some (iV o.dst.toList):=λ{k o} c=>by
  rw[←u];simp[DP,c]
 have n:∀ {k:Nat}{o:Oper},ops[k]? =some o->K[k]? =some (iV (o.looksAt ops)):=λ{k o} c=>by
  rw[←v];simp[DQ,c]
 have w:=DX D K 0 i _ _ ar (l hi) (n hi);have x:bY.M[j]? =some (lC bY.M j):=by
  unfold lC;have:j<bY.M.length:=by omega
  simp[List.getD,this]
 have:=DW bY.M D K bY.M _ _ _ _ 0 j _ _ _ w x (l b) (n b);simp only[b3]at this;rcases this with h1|h1|h1|h1
 .exfalso
  have h2:=je h;have y:=Bh h2 h1;rw[rC g]at f;simp[Nat.testBit_xor,Nat.testBit_two_pow_sub_one,g,f]at y
 .exact absurd h1.symm p
 .exfalso
  rw[wo r b,nI]at h1;simp only[dN]at h1;obtain⟨e,he,hb,z⟩:=wq.1 h1;exact q e he hb z
 .exact I3 h1.1 h1.2
end
def p8(ops:Array Oper)(listed:Array ah)(j:Nat):Prop:=
 ∀k ok a,ops[k]? =some ok->ops[j]? =some a->kt ok=true->listed.getD k false=true->∃e∈a.after,Region.binds .any e=true/\e.on=k
def mS(P:Program)(ops:Array Oper)(Q:Exit->Act->I->Prop)(n:Nat)(L:Array ah->Act->I->Prop):Nat->(I->Prop)->Array ah->Act->I->Prop
 |0,_,listed,a,w=>L listed a w
 |f+1,S,listed,a,w=>Region.ready .any ops listed≠ []/\
  ∀i∈Region.ready .any ops listed,i<n/\wpOp P ops Q i (λa' w'=>∃aW:I->Prop,((∀x,aW x->S x)\/p8 ops listed i)/\aW w'/\mS P ops Q n L f aW (listed.setIfInBounds i true) a' w') a w
def tQ(ops:Array Oper)(n:Nat):Prop:=
 ∀listed,HeadInv .any ops n listed->∀i,i<n->listed.getD i true=false->∀t,n<=t->t∉Region.ready .any ops listed
theorem I5(ops:Array Oper):tQ ops ops.size:=by
 intro listed _ i _ _ t ht a;obtain⟨_,o,b,_⟩:=mem_ready.1 a;have:=(kO.1 b).1;omega
theorem I6{ops:Array Oper}{n:Nat}(a:Region.sinkB .any ops n=true)(hc:Region.chainB .any ops n=true)(b:n<ops.size):tQ ops n:=
 λ_ inv i hi c t ht=>tail_waits a hc b inv _ i rfl hi c t ht
section
variable {P:Program}{ops:Array Oper}{Q:Exit->Act->I->Prop}{n:Nat}{L:Array ah->Act->I->Prop}
theorem YieldsIf.mono{S aW:I->Prop}{o:Oper}{v:O}{a:Act}(h:YieldsIf P ops S o v a)(b:∀x,aW x->S x):YieldsIf P ops aW o v a:=
 h.imp (λ⟨h1,h2⟩=>⟨h1,λw c=>h2 w (b w c)⟩) id
theorem I7(D:tQ ops n){i:Nat}{g:Oper}{v:O}(hi:ops[i]? =some g)(E:∀ (j:Nat) (o:Oper) cs b,ops[j]? =some o->o.op≠ .select cs b)
 (aa:∀c a w,Q (.panic c) (a.put g.dst v) w->Q (.panic c) a w) (F:i<n) (ab:∀listed a w,L listed a w->∀j∈Region.ready .any ops listed,n<=j):
 ∀ (f:Nat) (S T:I->Prop) (listed:Array ah) (a:Act) (w:I),(∀x,S x->T x)->(kt g=true\/∀x,T x)->HeadInv .any ops n listed->
  (∀j p,ops[j]? =some p->j≠i->listed.getD j true=false->(∀e∈p.after,Region.binds .any e=true->e.on≠i)->g.apart ops p=true)->
  i∈Region.ready .any ops listed->YieldsIf P ops T g v a->S w->
  mS P ops Q n L f S (listed.setIfInBounds i true) (a.put g.dst v) w->mS P ops Q n L (f+1) S listed a w:=by
 intro f
 induction f with
 |zero=>
  intro S T listed a w t G inv _ l u r H;have d:=(mem_ready.1 l).1;refine⟨λh=>(by rw[h]at l;cases l),λj q=>?_⟩;have s:j<n:=by
   rcases fO j n with h|h
   .exact h
   .exact absurd q (D listed inv i F d j h)
  refine⟨s,?_⟩;by_cases m:j=i
  .subst m;exact(YieldsIf.mono u t).wpOp hi r ⟨S,.inl λ_ h=>h,r,H⟩
  .have:=ab _ _ _ H j (ready_mono q m)
   omega
 |succ f J=>
  intro S T listed a w t G inv K l u r H;have d:=(mem_ready.1 l).1;refine⟨λh=>(by rw[h]at l;cases l),λj q=>?_⟩;have s:j<n:=by
   rcases fO j n with h|h
   .exact h
   .exact absurd q (D listed inv i F d j h)
  refine⟨s,?_⟩;by_cases m:j=i
  .subst m;exact(YieldsIf.mono u t).wpOp hi r ⟨S,.inl λ_ h=>h,r,H⟩
  .have h1:=(H.2 j (ready_mono q m)).2
   obtain⟨M,p,y,cW⟩:=mem_ready.1 q;have N:∀e∈p.after,Region.binds .any e=true->e.on≠i:=λe he hb ac=>by
    have h1:=cW e he hb;rw[ac,getD_both d]at h1
    cases h1
   have h2:=wpOp_putIf y (K j p y m M N) (λcs b=>E i g cs b hi) (λcs b=>E j p cs b y) aa u h1;have R:∀k ok,ops[k]? =some ok->k≠i->(listed.setIfInBounds j true).getD k true=false->
    (∀e∈ok.after,Region.binds .any e=true->e.on≠i)->g.apart ops ok=true:=λk ok B ad d ae=>by
    refine K k ok B ad ?_ ae;by_cases U:j=k
    .subst U;exact M
    .rw[getD_set_ne true U]at d;exact d
   refine wpOp_mono (λa' w' af=>?_) h2;obtain⟨V,aW,W,z,ag⟩:=af;have C:=ag;rw[←Array.setIfInBounds_comm _ _ m]at C;have ai:p8 ops (listed.setIfInBounds i true) j->p8 ops listed j:=λaj k ok ak B al A hl=>aj k ok ak B al A (by
    by_cases X:i=k
    .subst X
     have:listed.getD i true=true:=by
      simp only[Array.getD]at hl⊢;split at hl
      .rename_i aK;simp[aK]at hl⊢;exact hl
      .cases hl
     rw[this]at d;cases d
    .simp only[Array.getD,Array.size_setIfInBounds]at hl⊢
     split at hl
     .rename_i aK
      simp only[aK,dif_pos];simp only[Array.getInternal_eq_getElem]at hl⊢;rw[Array.getElem_setIfInBounds_ne _ X];exact hl
     .cases hl)
   rcases G with A|Y
   .have Z:∀x,aW x->S x:=by
     rcases W with h|h
     .exact h
     .exfalso
      obtain⟨e,he,hb,am⟩:=h i g p hi y A (by
       have aK:i<listed.size:=by
        rcases fO i listed.size with h|h
        .exact h
        .simp[Array.getD,Nat.not_lt.2 h]at d
       simp[Array.getD,aK])
      exact N e he hb am
    exact⟨aW,.inl Z,z,J aW T (listed.setIfInBounds j true) a' w' (λx hx=>t x (Z x hx)) (.inl A) (inv.set q s) R (ready_mono l (Ne.symm m)) V z C⟩
   .exact⟨aW,W.imp id ai,z,J aW T (listed.setIfInBounds j true) a' w' (λx _=>Y x) (.inr Y) (inv.set q s) R (ready_mono l (Ne.symm m)) V z C⟩
theorem DY{g:Nat}(fc:∀listed a w,L listed a w->wpAny P .any ops Q g listed a w):
 ∀ (f:Nat) (S:I->Prop) (listed:Array ah) (a:Act) (w:I),mS P ops Q n L f S listed a w->wpAny P .any ops Q (f+g) listed a w
 |0,_,listed,a,w,h=>by rw[b3];exact fc _ _ _ h
 |f+1,S,listed,a,w,h=>by
  rw[show f+1+g=(f+g)+1 from J]
  exact⟨λh0=>absurd h0 h.1,λi hi=>wpOp_mono (λa' w' ⟨aW,_,_,b⟩=>DY fc f aW _ a' w' b) (h.2 i hi).2⟩
def LE(P:Program)(ops:Array Oper)(Q:Exit->Act->I->Prop)(n:Nat)(listed:Array ah)(a:Act)(w:I):Prop:=
 (Region.ready .any ops listed=[]/\n=ops.size/\Q .normal a w)\/
 (Region.seqB .any ops (ops.size-n) n listed=true/\n<ops.size/\wpList P ops Q (ops.toList.drop n) a w)
theorem I8:∀listed a w,LE P ops Q n listed a w->∀j∈Region.ready .any ops listed,n<=j:=by
 rintro listed a w (⟨h,_,_⟩|⟨h,c,_⟩) j b
 .rw[h]at b;cases b
 .exact seqB_ready h j b
theorem I9:∀listed a w,LE P ops Q n listed a w->wpAny P .any ops Q (ops.size-n) listed a w:=by
 rintro listed a w (⟨h,c,b⟩|⟨h,c,b⟩)
 .subst c
  rw[Nat.sub_self];exact⟨h,b⟩
 .have:=wpAny_of_seq (md:=.any) (P:=P) (Q':=Q) (ops.toList.drop n) n listed a w (λj=>by simp[kP]) (by simpa using h) b
  simpa using this
end
section
variable {P:Program}{tk:TypeId->dO}{ops:Array Oper}{n:Nat}{bY:lB}{D0 mT:Y Nat}{W:Nat->Prop}
theorem DZ(hc:mR bY D0 mT ops=true):∀ (g k m:Nat),Small ops.size m->k+g=ops.size->tP bY g k ops.size m=true->Region.seqB .any ops g k (eC ops.size m)=true
 |0,k,m,hm,c,h=>by
  simp only[tP]at h
  simp only[Region.seqB,List.isEmpty_iff]
  cases d:Region.ready .any ops (eC ops.size m) with
  |nil=>rfl
  |cons x l=>
   have:=p7 hc hm h x (by rw[d];simp)
   cases this
 |g+1,k,m,hm,c,h=>by
  simp only[tP,dM]at h
  simp only[Region.seqB,dM,dN]
  have b:k<ops.size:=by omega
  have a:k∈Region.ready .any ops (eC ops.size m):=(wv hc hm).2 ⟨b,h.1.1⟩
  refine⟨?_,?_⟩
  .have cW:=p7 hc hm h.1.2
   have ie:(Region.ready .any ops (eC ops.size m)).Nodup:=by
    unfold Region.ready;exact List.Pairwise.filter _ List.nodup_range
   revert a cW ie
   generalize Region.ready .any ops (eC ops.size m)=l;intro a cW ie
   match l,a,cW,ie with
   | [],a,_,_=>cases a
   | [x],a,cW,_=>rw[dH.1 (cW x (by simp))]
   |x::y::l,_,cW,ie=>
    have hx:=dH.1 (cW x (by simp));have e:=dH.1 (cW y (by simp));simp[hx,e]at ie
  .rw[wm]
   exact DZ hc g (k+1) (m|||2^k) (wu hm b) J h.2
theorem I_(hc:mR bY D0 mT ops=true)(aj:tQ ops n)(aA:n<=ops.size)(ak:Region.noSelect ops=true){a0:Act}(hb:∀d∈bP ops.toList,d<a0.tmps.size):
 ∀ (t:bM) (W:Nat->Prop) (f:Nat) (m:Nat) (K:Env->I->Prop) (e:Env) (a:Act) (w:I),dh e a->dV (bP ops.toList) a0 a->Small ops.size m->HeadInv .any ops n (eC ops.size m)->
  dT P tk ops n bY W t f m K e w->mS P ops (g4 a0 (bP ops.toList) K) n (LE P ops (g4 a0 (bP ops.toList) K) n) f (af W w) (eC ops.size m) a w:=by
 intro t;have N:∀ (i:Nat) (o:Oper),ops[i]? =some o->∀k,o.dst=some k->k∈bP ops.toList:=by
  intro i o p k g;simp only[bP,List.mem_filterMap];exact⟨o,by simpa using Array.mem_of_getElem? p,g⟩
 have Q:∀ (W:Nat->Prop) (t:bM),(∀ (W:Nat->Prop) (f:Nat) (m:Nat) (K:Env->I->Prop) (e:Env) (a:Act) (w:I),dh e a->dV (bP ops.toList) a0 a->Small ops.size m->HeadInv .any ops n (eC ops.size m)->
  dT P tk ops n bY W t f m K e w->mS P ops (g4 a0 (bP ops.toList) K) n (LE P ops (g4 a0 (bP ops.toList) K) n) f (af W w) (eC ops.size m) a w)->
  ∀ (f:Nat) (m:Nat) (K:Env->I->Prop) (e:Env) (a:Act) (w:I) (i:Nat) (o:Oper),dh e a->dV (bP ops.toList) a0 a->Small ops.size m->HeadInv .any ops n (eC ops.size m)->
  i∈Region.ready .any ops (eC ops.size m)->i<n->ops[i]? =some o->
  hZ ops o e (kq P tk o (λv w'=>af W w w'/\dT P tk ops n bY W t f (m|||2^i) K (c_ o.dst v e) w') e w) (dT P tk ops n bY W t f (m|||2^i) K (c_ o.dst undef e) w)->
  wpOp P ops (g4 a0 (bP ops.toList) K) i (λa' w'=>∃aW:I->Prop,((∀x,aW x->af W w x)\/p8 ops (eC ops.size m) i)/\aW w'/\mS P ops (g4 a0 (bP ops.toList) K) n (LE P ops (g4 a0 (bP ops.toList) K) n) f aW ((eC ops.size m).setIfInBounds i true) a' w') a w:=by
  intro W t L f m K e a w i o ar g hm inv R G p h;have next:∀ (v:O) (w':I),af W w w'->dT P tk ops n bY W t f (m|||2^i) K (c_ o.dst v e) w'->
   ∃aW:I->Prop,((∀x,aW x->af W w x)\/p8 ops (eC ops.size m) i)/\aW w'/\mS P ops (g4 a0 (bP ops.toList) K) n (LE P ops (g4 a0 (bP ops.toList) K) n) f aW ((eC ops.size m).setIfInBounds i true) (a.put o.dst v) w':=by
   intro v w' al h;have z:dV (bP ops.toList) a (a.put o.dst v):=dV.put (N i o p);have hinv:=inv.set R G;rw[wm]at hinv⊢;exact⟨af W w',.inl λx hx=>al.trans hx,.refl _ _,L W f _ K _ _ w' (ar.put λk T=>by rw[g.size];exact hb k (N i o p k T)) (g.trans z) (wu hm J) hinv h⟩
  unfold wpOp;simp only[p];rcases tK ar h with ⟨E,F⟩|⟨E,F⟩
  .simp only[E,if_true]
   exact .inl ((wh ar F).wp λv w' ⟨h1,h2⟩=>next v w' h1 h2)
  .simp only[E,gE,if_false]
   exact next _ _ (.refl _ _) F
 have ac:∀ {b c d:ah}{X:Prop},(bif b&&(c&&d) then X else False)->b=true/\c=true/\d=true/\X:=by
  intro b c d X h
  cases b<;>cases c<;>cases d<;>first|exact h.elim|exact⟨rfl,rfl,rfl,h⟩
 have ae:∀ {b c:ah}{X:Prop},(bif b&&c then X else False)->b=true/\c=true/\X:=by
  intro b c X h
  cases b<;>cases c<;>first|exact h.elim|exact⟨rfl,rfl,h⟩
 have A:∀ {i j:Nat},Nat.blt i j=true->i<j:=λh=>by
  have:=oH h;omega
 have ne_nil:∀ {m i:Nat},Small ops.size m->lD bY m i=true->i<ops.size->Region.ready .any ops (eC ops.size m)≠ []:=λhm h hi h0=>by
  have:=(wv hc hm).2 ⟨hi,h⟩;rw[h0]at this;cases this
 induction t with
 |take i t L=>
  intro W f m K e a w ar g hm inv h
  cases f with
  |zero=>simp[dT]at h
  |succ f=>
   simp only[dT]at h;obtain⟨h1,h2,C,h⟩:=ac h;have G:=A C;have R:i∈Region.ready .any ops (eC ops.size m):=(wv hc hm).2 ⟨J,h1⟩;split at h
   .rename_i o p
    have fin:∀v,YieldsIf P ops (λx=>kt o=true->af W w x) o v a->dT P tk ops n bY W t f (m|||2^i) K (c_ o.dst v e) w->
     mS P ops (g4 a0 (bP ops.toList) K) n (LE P ops (g4 a0 (bP ops.toList) K) n) (f+1) (af W w) (eC ops.size m) a w:=by
     intro v am h;have z:dV (bP ops.toList) a (a.put o.dst v):=dV.put (N i o p);refine I7 aj p (Region.noSelect_spec ak) (λc a w U=>by cases U.1) G I8 f (af W w) (λx=>kt o=true->af W w x) _ a w (λ_ h _=>h) (by cases Y:kt o<;>simp) inv (I4 hc p h2) R am (.refl _ _) ?_;have hinv:=inv.set R G;rw[wm]at hinv⊢;exact L W f _ K _ _ w (ar.put λk T=>by rw[g.size];exact hb k (N i o p k T)) (g.trans z) (wu hm J) hinv h
    rcases tK ar h with ⟨E,F⟩|⟨E,F⟩
    .obtain⟨v,an,ao⟩:=I0 ar F
     exact fin v (.inl ⟨E,λw' hc=>an w' hc⟩) ao
    .exact fin undef (.inr ⟨E,rfl⟩) F
   .exact h.elim
 |bJ i t L=>
  intro W f m K e a w ar g hm inv h
  cases f with
  |zero=>simp[dT]at h
  |succ f=>
   simp only[dT]at h;obtain⟨B,C,h⟩:=ae h;simp only[dM]at B;have G:=A C;split at h
   .rename_i o p
    refine⟨ne_nil hm B.1 J,λj Z=>?_⟩;have ag:j=i:=by simpa using p7 hc hm B.2 j Z
    subst ag;exact⟨G,Q W t L f m K e a w j o ar g hm inv Z G p h⟩
   .exact h.elim
 |out i b t L=>
  intro W f m K e a w ar g hm inv h
  cases f with
  |zero=>simp[dT]at h
  |succ f=>
   simp only[dT]at h;obtain⟨B,C,H,h⟩:=ac h;simp only[dM]at B;have G:=A C;have H:=je H;split at h
   .rename_i o p
    refine⟨ne_nil hm B.1 J,λj Z=>?_⟩;have ag:j=i:=by simpa using p7 hc hm B.2 j Z
    subst ag;refine⟨G,?_⟩;have ap:p8 ops (eC ops.size m) j:=by
     intro k ok aB z aq Y hl;have au:k<ops.size:=(kO.1 z).1;rw[rC au]at hl;have av:(mb 0 ops.toList&&&m).testBit k=true:=by
      rw[Nat.testBit_and,hl,Bool.and_true];exact(DU ops.toList 0 k ok (by simpa using z)).trans Y|>(by simpa using ·)
     have S:(lC bY.M j).testBit k=true:=DT H av;rw[wo hc aq,nI]at S;simp only[dN]at S;exact wq.1 S
    have next:∀ (v:O) (w':I) (V:Nat->Prop),dT P tk ops n bY V t f (m|||2^j) K (c_ o.dst v e) w'->
     ∃aW:I->Prop,((∀x,aW x->af W w x)\/p8 ops (eC ops.size m) j)/\aW w'/\mS P ops (g4 a0 (bP ops.toList) K) n (LE P ops (g4 a0 (bP ops.toList) K) n) f aW ((eC ops.size m).setIfInBounds j true) (a.put o.dst v) w':=by
     intro v w' V h;have z:dV (bP ops.toList) a (a.put o.dst v):=dV.put (N j o p);have hinv:=inv.set Z G;rw[wm]at hinv⊢;exact⟨af V w',.inr ap,.refl _ _,L V f _ K _ _ w' (ar.put λk T=>by rw[g.size];exact hb k (N j o p k T)) (g.trans z) (wu hm J) hinv h⟩
    unfold wpOp;simp only[p];rcases tK ar h with ⟨E,F⟩|⟨E,F⟩
    .simp only[E,if_true]
     refine .inl ((wh ar F).wp λv w' h2=>?_)
     cases b with
     |true=>
      obtain⟨V,h2⟩:=h2;exact next v w' V h2
     |false=>exact next v w' W h2
    .simp only[E,gE,if_false]
     exact next _ _ W F
   .exact h.elim
 |two i t j u aa ab=>
  intro W f m K e a w ar g hm inv h
  cases f with
  |zero=>simp[dT]at h
  |succ f=>
   simp only[dT]at h;obtain⟨B,C,H,h⟩:=ac h;simp only[dM]at B;have hi:=A C;split at h
   .rename_i o q p U
    refine⟨ne_nil hm B.1 J,λk z=>?_⟩;have D:k=i\/k=j:=by simpa using p7 hc hm B.2 k z
    rcases D with D|D
    .subst D
     exact⟨A C,Q W t aa f m K e a w k o ar g hm inv z (A C) p h.1⟩
    .subst D
     exact⟨A H,Q W u ab f m K e a w k q ar g hm inv z (A H) U h.2⟩
   .exact h.elim
 |three i t j u k x aa ab aw=>
  intro W f m K e a w ar g hm inv h
  cases f with
  |zero=>simp[dT]at h
  |succ f=>
   simp only[dT]at h;obtain⟨B,C,ax,h⟩:=ac (d:=_) h;obtain⟨H,S⟩:Nat.blt j n=true/\Nat.blt k n=true:=by simpa using ax
   simp only[dM]at B;have hi:=A C;split at h
   .rename_i o q r p U ay
    refine⟨ne_nil hm B.1 J,λy z=>?_⟩;have D:y=i\/y=j\/y=k:=by simpa using p7 hc hm B.2 y z
    rcases D with D|D|D
    .subst D
     exact⟨A C,Q W t aa f m K e a w y o ar g hm inv z (A C) p h.1⟩
    .subst D
     exact⟨A H,Q W u ab f m K e a w y q ar g hm inv z (A H) U h.2.1⟩
    .subst D
     exact⟨A S,Q W x aw f m K e a w y r ar g hm inv z (A S) ay h.2.2⟩
   .exact h.elim
 |sp s t u aa ab=>
  intro W f m K e a w ar g hm inv h;have ad:match e.get s with
   |some (.bool c)=>(c=true->dT P tk ops n bY W t f m K ((s,.bool true)::e) w)/\(c=false->dT P tk ops n bY W u f m K ((s,.bool false)::e) w)
   |_=>False:=by cases f<;>simpa only[dT] using h
  split at ad
  .rename_i c Y
   cases c with
   |true=>exact aa W f m K _ a w (ar.lit Y) g hm inv (ad.1 rfl)
   |false=>exact ab W f m K _ a w (ar.lit Y) g hm inv (ad.2 rfl)
  .exact ad.elim
 |fin=>
  intro W f m K e a w ar g hm inv h
  cases f with
  |succ f=>simp[dT]at h
  |zero=>
   simp only[dT]at h;obtain⟨h1,h2,h⟩:=ae h;refine .inl ⟨?_,je h2,rfl,g,e,ar,h⟩
   cases R:Region.ready .any ops (eC ops.size m) with
   |nil=>rfl
   |cons x l=>
    have:=p7 hc hm h1 x (by rw[R];simp)
    cases this
 |tail as=>
  intro W f m K e a w ar g hm inv h
  cases f with
  |succ f=>simp[dT]at h
  |zero=>
   simp only[dT]at h;obtain⟨h1,h2,h⟩:=ae h;have ai:∀k,k∈bP (ops.toList.drop n)->k∈bP ops.toList:=λk g=>by
    simp only[bP,List.mem_filterMap]at g⊢;obtain⟨o,p,g⟩:=g;exact⟨o,List.mem_of_mem_drop p,g⟩
   have:=DI _ _ _ K e a w ar (λd hd=>by rw[g.size];exact hb d (ai d hd)) h;exact .inr ⟨DZ hc _ _ _ hm J h1,A h2,jG (λx a' w' ⟨aS,bf,az⟩=>⟨aS,g.trans (bf.mono ai),az⟩) _ _ _ this⟩
theorem Ja(ops:Array Oper)(n:Nat):HeadInv .any ops n (Array.replicate ops.size false):=
 ⟨by simp,λj a _ hl=>(by rw[getD_replicate_false]at hl;cases hl),λt _ ht=>getD_in (by simpa using ht) (getD_replicate_false _ _)⟩
def Bi(P:Program)(tk:TypeId->dO)(ops:Array Oper)(n:Nat)(a:ah)(bY:lB)(D0 mT:Y Nat)(t:bM)(K:Env->I->Prop)(e:Env)(w:I):Prop:=
 bif (Region.noSelect ops&&mR bY D0 mT ops)&&(bif Nat.beq n ops.size then true else Nat.blt n ops.size&&(Region.sinkB .any ops n&&Region.chainB .any ops n)) then
  bif a then
   aq w.drew λw1=>∃W:Nat->Prop,dT P tk ops n bY W t n 0 K e w1
  else aq w.drew λw1=>dT P tk ops n bY (λ_=>False) t n 0 K e w1
 else False
theorem Jb{id:Nat}{c:ah}{t:bM}{K:Env->I->Prop}{e:Env}{a:Act}{w:I}(hm:P.follows .mixedOrders=true)
 (ar:dh e a) (hb:∀d∈bP ops.toList,d<a.tmps.size) (h:Bi P tk ops n c bY D0 mT t K e w):
 (Code.region id ops true).wp P (g4 a (bP ops.toList) K) a w:=by
 unfold Bi at h
 cases h0:(Region.noSelect ops&&mR bY D0 mT ops) with
 |false=>rw[h0]at h;exact h.elim
 |true=>
  rw[h0]at h;simp only[jf]at h;simp only[dM]at h0;obtain⟨h1,hc⟩:=h0
  cases h2:(bif Nat.beq n ops.size then true else Nat.blt n ops.size&&(Region.sinkB .any ops n&&Region.chainB .any ops n)) with
  |false=>rw[h2]at h;exact h.elim
  |true=>
   rw[h2]at h;simp only[cond_true]at h;have g:tQ ops n:=by
    cases b:Nat.beq n ops.size with
    |true=>rw[je b];exact I5 ops
    |false=>
     rw[b]at h2;simp only[cond_false,dM]at h2;refine I6 h2.2.1 h2.2.2 ?_;have:=oH h2.1;omega
   have i:n<=ops.size:=by
    cases b:Nat.beq n ops.size with
    |true=>rw[je b];exact bu _
    |false=>
     rw[b]at h2;simp only[cond_false,dM]at h2;have:=oH h2.1;omega
   have key:∀W,dT P tk ops n bY W t n 0 K e w.drew->(Code.region id ops true).wp P (g4 a (bP ops.toList) K) a w:=by
    intro W h;refine wp_region_any hm ?_;have f:=I_ hc g i h1 hb t W n 0 K e a w.drew ar (.refl _ _) (I2 _) (by rw[DR];exact Ja ops n) h;rw[DR]at f;have:=DY I9 _ _ _ _ _ f;rw[show n+(ops.size-n)=ops.size from J]at this;exact this
   cases c with
   |true=>obtain⟨W,h⟩:=h;exact key W h
   |false=>exact key _ h
end
end aQ
namespace aQ
open Go
inductive aB where
 |leaf
 |p9 (as:Y lA)
 |wx (n:Nat) (c:ah) (bY:lB) (D0 mT:Y Nat) (t:bM)
 |seq (a b:aB)
 |cond (a b:aB)
 |bg (a:aB)
 |loop (live:Y (Nat×cI)) (fT:Y Nat) (a:aB)
 |c7 (live:Y (Nat×cI)) (fT:Y Nat) (a:aB)
def gS:Y (Nat×cI)->Type
 | []=>I->Prop
 |(_,l)::r=>l.T->gS r
def oR:Y (Nat×cI)->Type
 | []=>I->Nat
 |(_,l)::r=>l.T->oR r
def rD(l:cI)(v:aw O)(K:l.T->Prop):Prop:=
 match l,v with
 | .int k,some (.int d n)=>bif kU k d then K n else False
 | .bool,some (.bool b)=>K b
 | .str,some (.string s)=>K s
 | .ptr,some (.pointer p)=>K p
 | .slice,some (.slice a n c)=>K ⟨a,n,c⟩
 | .map,some (.map r)=>K r
 | .agg,some (.agg cs)=>K cs
 | .fn,some (.func (.func f) a b)=>K ⟨f,a,b⟩
 | .any,some v=>K v
 |_,_=>False
def gS.app:(live:Y (Nat×cI))->gS live->(Nat->aw O)->I->Prop
 | [],k,_,w=>k w
 |(s,l)::r,k,g,w=>rD l (g s) λx=>gS.app r (k x) g w
def gS.lam:(live:Y (Nat×cI))->(Env->I->Prop)->gS live
 | [],F=> λw=>F [] w
 |(s,l)::r,F=> λx=>gS.lam r λe w=>F ((s,l.v x)::e) w
def Bj:(live:Y (Nat×cI))->gS live->oR live->(Env->Nat->I->Prop)->Prop
 | [],a,b,F=>∀w,a w->F [] (b w) w
 |(s,l)::r,a,b,F=>∀x:l.T,Bj r (a x) (b x) λe m w=>F ((s,l.v x)::e) m w
def Bk:(live:Y (Nat×cI))->gS live->oR live->Nat->(Nat->aw O)->I->Prop
 | [],a,b,m,_,w=>a w/\b w<m
 |(s,l)::r,a,b,m,g,w=>rD l (g s) λx=>Bk r (a x) (b x) m g w
def j2:(live:Y (Nat×cI))->oR live->(Nat->aw O)->I->Nat
 | [],d,_,w=>d w
 |(s,l)::r,d,g,w=>
  match l,g s,d with
  | .int _,some (.int _ n),d=>j2 r (d n) g w
  | .bool,some (.bool b),d=>j2 r (d b) g w
  | .str,some (.string b),d=>j2 r (d b) g w
  | .ptr,some (.pointer b),d=>j2 r (d b) g w
  | .slice,some (.slice a n c),d=>j2 r (d (ai.mk a n c)) g w
  | .map,some (.map b),d=>j2 r (d b) g w
  | .agg,some (.agg b),d=>j2 r (d b) g w
  | .fn,some (.func (.func f) a b),d=>j2 r (d (ic.mk f a b)) g w
  | .any,some v,d=>j2 r (d v) g w
  |_,_,_=>0
def writes:Code->Y Nat
 | .region _ ops _=>bP ops.toList
 | .seq a b=>writes a++writes b
 | .cond _ a b=>writes a++writes b
 | .block _ a=>writes a
 | .loop a=>writes a
 | .scope a=>writes a
 |_=> []
def tR(fT ws:Y Nat):ah:=fT.all λs=> !(ws.any λd=>Nat.beq d s)
def p_(e:Env):Y Nat->Env
 | []=> []
 |s::a=>match e.get s with
  |some v=>(s,v)::p_ e a
  |none=>p_ e a
def rE:Env->Env->Env
 | [],f=>f
 |p::e,f=>p::rE e f
def D(P:Program)(tk:TypeId->dO):aB->Code->(Exit->Env->I->Prop)->Env->I->Prop
 | .leaf,c,K,e,w=>
  match c with
  | .skip=>K .normal e w
  | .label _=>K .normal e w
  | .exit id=>K (.exit id) e w
  | .ret=>K .ret e w
  |_=>False
 | .p9 as,c,K,e,w=>
  match c with
  | .region _ ops false=>gk P tk ops (ops.size+1) ops.toList as (λe' w'=>K .normal e' w') e w
  |_=>False
 | .wx n he bY D0 mT t,c,K,e,w=>
  match c with
  | .region _ ops true=>Bi P tk ops n he bY D0 mT t (λe' w'=>K .normal e' w') e w
  |_=>False
 | .seq A B,c,K,e,w=>
  match c with
  | .seq a b=>D P tk A a (λx e' w'=>match x with| .normal=>D P tk B b K e' w'|x=>K x e' w') e w
  |_=>False
 | .cond A B,c,K,e,w=>
  match c with
  | .cond o x y=>match ev e o with
   |some (.bool b)=>(b=true->D P tk A x K e w)/\(b=false->D P tk B y K e w)
   |_=>False
  |_=>False
 | .bg A,c,K,e,w=>
  match c with
  | .block id b=>D P tk A b (λx e' w'=>match x with| .exit g=>bif Nat.beq g id then K .normal e' w' else K (.exit g) e' w'|x=>K x e' w') e w
  | .scope b=>D P tk A b (λx e' w'=>match x with| .goto _=>False|x=>K x e' w') e w
  |_=>False
 | .loop live fT A,c,K,e,w=>
  match c with
  | .loop b=>bif tR fT (writes b) then
   ∃ (d:gS live) (h:oR live),gS.app live d e.get w/\
    Bj live d h λf m w'=>D P tk A b (λx e' i=>match x with| .normal=>Bk live d h m e'.get i|x=>K x e' i) (rE f (p_ e fT)) w'
   else False
  |_=>False
 | .c7 live fT A,c,K,e,w=>
  bif tR fT (writes c) then
   aV (λk:gS live=>D P tk A c (λx e' w'=>match x with| .normal=>gS.app live k e'.get w'|x=>K x e' w') e w)
    (gS.lam live λf w'=>K .normal (rE f (p_ e fT)) w')
  else False
def Jc(a:Act)(ds:Y Nat)(K:Exit->Env->I->Prop)(x:Exit)(a':Act)(w':I):Prop:=
 dV ds a a'/\∃e',dh e' a'/\K x e' w'
def Sub(e:Env)(g:Nat->aw O):Prop:=∀s v,e.get s=some v->g s=some v
theorem Sub.cons{e:Env}{g:Nat->aw O}{s:Nat}{v:O}(h:Sub e g)(b:g s=some v):Sub ((s,v)::e) g:=by
 intro t u ht;rw[p0]at ht;by_cases a:s=t
 .subst a;rw[if_pos rfl]at ht;rw[b];exact ht
 .rw[if_neg a]at ht;exact h t u ht
theorem Sub.nil{g:Nat->aw O}:Sub [] g:=λ_ _ h=>by cases h
theorem wy{l:cI}{v:aw O}{K:l.T->Prop}(h:rD l v K):∃x:l.T,v=some (l.v x)/\K x:=by
 unfold rD at h;split at h
 .rename_i k b n K
  by_cases a:k=b
  .subst a
   simp only[kU,decide_true,cond_true]at h;exact⟨n,rfl,h⟩
  .simp[kU,a]at h
 all_goals first
  |exact⟨_,rfl,h⟩
  |exact h.elim
theorem D1{l:cI}{v:aw O}{K:l.T->Prop}{x:l.T}(a:v=some (l.v x))(h:K x):rD l v K:=by
 subst a
 cases l<;>simp only[rD,cI.v,kU,decide_true,cond_true]<;>exact h
theorem D2{s:Nat}{l:cI}{r:Y (Nat×cI)}{a:oR ((s,l)::r)}{g:Nat->aw O}{w:I}{x:l.T}(b:g s=some (l.v x)):
 j2 ((s,l)::r) a g w=j2 r (a x) g w:=by
 cases l<;>simp only[j2,b,cI.v]<;>rfl
theorem D3:∀ {live:Y (Nat×cI)}{F:Env->I->Prop}{g:Nat->aw O}{w:I},gS.app live (gS.lam live F) g w->∃a,Sub a g/\F a w
 | [],F,g,w,h=>⟨[],Sub.nil,h⟩
 |(s,l)::r,F,g,w,h=>by
  obtain⟨x,b,h⟩:=wy h
  obtain⟨a,c,h⟩:=D3 h
  exact⟨(s,l.v x)::a,c.cons b,h⟩
theorem D4:∀ {live:Y (Nat×cI)}{a:gS live}{g g':Nat->aw O}{w:I},(∀s v,g s=some v->g' s=some v)->gS.app live a g w->gS.app live a g' w
 | [],_,_,_,_,_,h=>h
 |(s,l)::r,a,g,g',w,hg,h=>by
  obtain⟨x,b,h⟩:=wy h
  exact D1 (hg _ _ b) (D4 hg h)
theorem D5:∀ {live:Y (Nat×cI)}{b:gS live}{c:oR live}{F:Env->Nat->I->Prop}{g:Nat->aw O}{w:I},
 Bj live b c F->gS.app live b g w->∃d,Sub d g/\F d (j2 live c g w) w
 | [],b,c,F,g,w,h,a=>⟨[],Sub.nil,h w a⟩
 |(s,l)::r,b,c,F,g,w,h,a=>by
  obtain⟨x,e,a⟩:=wy a
  obtain⟨d,f,h⟩:=D5 (h x) a
  exact⟨(s,l.v x)::d,f.cons e,by rw[D2 e];exact h⟩
theorem D6:∀ {live:Y (Nat×cI)}{a:gS live}{b:oR live}{m:Nat}{g g':Nat->aw O}{w:I},
 (∀s v,g s=some v->g' s=some v)->Bk live a b m g w->gS.app live a g' w/\j2 live b g' w<m
 | [],_,_,_,_,_,_,_,h=>h
 |(s,l)::r,a,b,m,g,g',w,hg,h=>by
  obtain⟨x,c,h⟩:=wy h
  obtain⟨h1,h2⟩:=D6 hg h
  exact⟨D1 (hg _ _ c) h1,by rw[D2 (hg _ _ c)];exact h2⟩
theorem D7:∀ {e f:Env}{s:Nat}{v:O},(rE e f).get s=some v->e.get s=some v\/f.get s=some v
 | [],_,_,_,h=>.inr h
 |(k,u)::e,f,s,v,h=>by
  simp only[rE]at h
  rw[p0]at h⊢
  by_cases a:k=s
  .rw[if_pos a]at h⊢;exact .inl h
  .rw[if_neg a]at h⊢;exact D7 h
theorem Bl{e:Env}:∀ {a:Y Nat}{s:Nat}{v:O},(p_ e a).get s=some v->s∈a/\e.get s=some v
 | [],_,_,h=>by cases h
 |k::a,s,v,h=>by
  simp only[p_]at h
  split at h
  .rename_i u hu
   rw[p0]at h
   by_cases b:k=s
   .rw[if_pos b]at h
    subst b
    exact⟨by simp,by rw[hu];exact h⟩
   .rw[if_neg b]at h
    have:=Bl h
    exact⟨by simp[this.1],this.2⟩
  .have:=Bl h
   exact⟨by simp[this.1],this.2⟩
theorem D8{e b:Env}{a a':Act}{fT ws:Y Nat}(ar:dh e a)(d:dV ws a a')(f:tR fT ws=true)(g:Sub b λs=>a'.tmps[s]?):
 dh (rE b (p_ e fT)) a':=by
 constructor;intro s v h;rcases D7 h with h|h
 .exact g s v h
 .obtain⟨h1,h2⟩:=Bl h
  have c:=oC.1 f s h1;simp only[mL,oD]at c;rw[d.same s λhm=>c s hm (Nat.beq_refl s)];exact ar.get s v h2
section
variable {P:Program}{tk:TypeId->dO}
theorem j3{c:Code}{Q Q':Exit->Act->I->Prop}{a:Act}{w:I}(h:c.wp P Q a w)(b:∀e a w,Q e a w->Q' e a w):c.wp P Q' a w:=wp_mono h b
theorem wz(hm:P.follows .mixedOrders=true):∀ (A:aB) (c:Code) (K:Exit->Env->I->Prop) (e:Env) (a:Act) (w:I),dh e a->(∀d∈writes c,d<a.tmps.size)->
 D P tk A c K e w->c.wp P (Jc a (writes c) K) a w:=by
 intro A
 induction A with
 |leaf=>
  intro c K e a w ar hb h;simp only[D]at h;split at h
  .exact wp_skip ⟨.refl _ _,e,ar,h⟩
  .exact wp_label ⟨.refl _ _,e,ar,h⟩
  .exact wp_exit ⟨.refl _ _,e,ar,h⟩
  .exact wp_ret ⟨.refl _ _,e,ar,h⟩
  .exact h.elim
 |p9 as=>
  intro c K e a w ar hb h;simp only[D]at h;split at h
  .rename_i id ops
   have:=DI _ _ _ _ e a w ar hb h;refine wp_region_list (jG ?_ _ _ _ this);rintro x a' w' ⟨rfl,f,e',u,z⟩;exact⟨f,e',u,z⟩
  .exact h.elim
 |wx n he bY D0 mT t=>
  intro c K e a w ar hb h;simp only[D]at h;split at h
  .rename_i id ops
   refine j3 (Jb hm ar hb h) ?_;rintro x a' w' ⟨rfl,f,e',u,z⟩;exact⟨f,e',u,z⟩
  .exact h.elim
 |seq A B C E=>
  intro c K e a w ar hb h;simp only[D]at h;split at h
  .rename_i x y
   have hx:∀d,d∈writes x->d∈writes (.seq x y):=λd hd=>by simp[writes,hd]
   have q:∀d,d∈writes y->d∈writes (.seq x y):=λd hd=>by simp[writes,hd]
   refine wp_seq (j3 (C x _ e a w ar (λd hd=>hb d (hx d hd)) h) ?_);rintro ex a1 w1 ⟨f,aT,g,h1⟩
   cases ex with
   |normal=>
    refine j3 (E y K aT a1 w1 g (λd hd=>by rw[f.size];exact hb d (q d hd)) h1) ?_;rintro ex a2 ag ⟨i,a6,j,h2⟩;exact⟨(f.mono hx).trans (i.mono q),a6,j,h2⟩
   |exit id=>exact⟨f.mono hx,aT,g,h1⟩
   |goto l=>exact⟨f.mono hx,aT,g,h1⟩
   |ret=>exact⟨f.mono hx,aT,g,h1⟩
   |panic r=>exact⟨f.mono hx,aT,g,h1⟩
   |outgrown=>exact⟨f.mono hx,aT,g,h1⟩
  .exact h.elim
 |cond A B C E=>
  intro c K e a w ar hb h;simp only[D]at h;split at h
  .rename_i o x y
   have hx:∀d,d∈writes x->d∈writes (.cond o x y):=λd hd=>by simp[writes,hd]
   have q:∀d,d∈writes y->d∈writes (.cond o x y):=λd hd=>by simp[writes,hd]
   split at h
   .rename_i b L
    refine wp_cond_split (ar.ev L) (λF=>?_) (λF=>?_)
    .refine j3 (C x K e a w ar (λd hd=>hb d (hx d hd)) (h.1 F)) ?_
     rintro ex a2 ag ⟨i,a6,j,h2⟩;exact⟨i.mono hx,a6,j,h2⟩
    .refine j3 (E y K e a w ar (λd hd=>hb d (q d hd)) (h.2 F)) ?_
     rintro ex a2 ag ⟨i,a6,j,h2⟩;exact⟨i.mono q,a6,j,h2⟩
   .exact h.elim
  .exact h.elim
 |bg A p=>
  intro c K e a w ar hb h;simp only[D]at h;split at h
  .rename_i id b
   refine wp_block (j3 (p b _ e a w ar hb h) ?_);rintro ex a1 w1 ⟨f,aT,g,h1⟩
   cases ex with
   |exit G=>
    simp only[Exit.inBlock];by_cases H:G=id
    .subst H
     simp only[Nat.beq_refl,cond_true]at h1;rw[if_pos rfl];exact⟨f,aT,g,h1⟩
    .have:Nat.beq G id=false:=by
      cases M:Nat.beq G id
      .rfl
      .exact absurd (je M) H
     simp only[this,cond_false]at h1;rw[if_neg H];exact⟨f,aT,g,h1⟩
   |normal=>exact⟨f,aT,g,h1⟩
   |goto l=>exact⟨f,aT,g,h1⟩
   |ret=>exact⟨f,aT,g,h1⟩
   |panic r=>exact⟨f,aT,g,h1⟩
   |outgrown=>exact⟨f,aT,g,h1⟩
  .rename_i b
   refine wp_scope_straight (j3 (p b _ e a w ar hb h) ?_);rintro ex a1 w1 ⟨f,aT,g,h1⟩
   cases ex with
   |goto l=>exact h1.elim
   |normal=>exact⟨f,aT,g,h1⟩
   |exit id=>exact⟨f,aT,g,h1⟩
   |ret=>exact⟨f,aT,g,h1⟩
   |panic r=>exact⟨f,aT,g,h1⟩
   |outgrown=>exact⟨f,aT,g,h1⟩
  .exact h.elim
 |loop live fT A p=>
  intro c K e a w ar hb h;simp only[D]at h;split at h
  .rename_i b
   cases k:tR fT (writes b) with
   |false=>rw[k]at h;exact h.elim
   |true=>
    rw[k]at h;obtain⟨N,O,h0,Q⟩:=h;refine wp_loop (λa' w'=>dV (writes b) a a'/\gS.app live N (λs=>a'.tmps[s]?) w') (λa' w'=>j2 live O (λs=>a'.tmps[s]?) w')
     ⟨.refl _ _,D4 (λs v m=>ar.get s v m) h0⟩ ?_
    rintro a1 w1 ⟨f,R⟩;obtain⟨S,m,J⟩:=D5 Q R;refine j3 (p b _ _ a1 w1 (D8 ar f k m) (λd hd=>by rw[f.size];exact hb d hd) J) ?_;rintro ex a2 ag ⟨i,a6,j,h2⟩
    cases ex with
    |normal=>
     obtain⟨aS,bf⟩:=D6 (g':=λs=>a2.tmps[s]?) (λs v m=>j.get s v m) h2;exact⟨⟨f.trans i,aS⟩,bf⟩
    |exit id=>exact⟨f.trans i,a6,j,h2⟩
    |goto l=>exact⟨f.trans i,a6,j,h2⟩
    |ret=>exact⟨f.trans i,a6,j,h2⟩
    |panic r=>exact⟨f.trans i,a6,j,h2⟩
    |outgrown=>exact⟨f.trans i,a6,j,h2⟩
  .exact h.elim
 |c7 live fT A p=>
  intro c K e a w ar hb h;simp only[D]at h
  cases k:tR fT (writes c) with
  |false=>rw[k]at h;exact h.elim
  |true=>
   rw[k]at h;simp only[cond_true]at h;have h:=h.out;refine j3 (p c _ e a w ar hb h) ?_;rintro ex a1 w1 ⟨f,aT,g,h1⟩
   cases ex with
   |normal=>
    obtain⟨S,m,J⟩:=D3 h1;exact⟨f,_,D8 ar f k (λs v h=>g.get s v (m s v h)),J⟩
   |exit id=>exact⟨f,aT,g,h1⟩
   |goto l=>exact⟨f,aT,g,h1⟩
   |ret=>exact⟨f,aT,g,h1⟩
   |panic r=>exact⟨f,aT,g,h1⟩
   |outgrown=>exact⟨f,aT,g,h1⟩
def nJ(P:Program)(tk:TypeId->dO):Y ResultVar->Env->I->(Y O->Prop)->Prop
 | [],_,_,K=>K []
 | .tmp t::r,e,w,K=>match e.get t with
  |some v=>nJ P tk r e w λvs=>K (v::vs)
  |none=>False
 | .cell t T::r,e,w,K=>match e.get t with
  |some (.pointer (some A))=>ry P tk T A w λv=>nJ P tk r e w λvs=>K (v::vs)
  |_=>False
def rF:Y O->O
 | [v]=>v
 |vs=>.tuple vs.toArray
def D9(P:Program)(tk:TypeId->dO)(a:Y ResultVar)(R:O->I->Prop)(x:Exit)(e:Env)(w:I):Prop:=
 match x with
 | .normal=>nJ P tk a e w λvs=>R (rF vs) w
 | .ret=>nJ P tk a e w λvs=>R (rF vs) w
 |_=>False
def qa:Nat->Y O->Env
 |_,[]=> []
 |i,v::vs=>(i,v)::qa (i+1) vs
def rG(P:Program)(tk:TypeId->dO)(A:aB)(fn:Func)(args:Y O)(w:I)(R:O->I->Prop):Prop:=
 match fn.body with
 |some c=>D P tk A c (D9 P tk fn.results.toList R) (qa 0 args) w
 |none=>False
def qb(fn:Func)(n:Nat):ah:=
 match fn.body with
 |some c=>(writes c).all (λd=>Nat.blt d fn.ntmps)&&Nat.ble n fn.ntmps
 |none=>false
theorem Bm:∀ {vs:Y O}{i s:Nat}{v:O},(qa i vs).get s=some v->i<=s/\vs[s-i]? =some v
 | [],_,_,_,h=>by cases h
 |u::vs,i,s,v,h=>by
  simp only[qa]at h
  rw[p0]at h
  by_cases a:i=s
  .subst a
   rw[if_pos rfl]at h
   simpa using h
  .rw[if_neg a]at h
   obtain⟨h1,h2⟩:=Bm h
   refine⟨J,?_⟩
   rw[show s-i=(s-(i+1))+1 from J]
   simpa using h2
def tS(tmps:Array O)(r:ResultVar):Sem O:=
 match r with
 | .tmp t=>pure (tmps.getD t undef)
 | .cell x t=>do loadVar t (←asAddr (tmps.getD x undef))
theorem nK{a:Act}:∀ {f:Y ResultVar}{e:Env}{w:I}{K:Y O->Prop},dh e a->nJ P tk f e w K->
 ∃vs,(f.mapM (tS a.tmps)).run P w=.ok vs w/\K vs
 | [],_,_,_,_,h=>⟨[],by simp,h⟩
 | .tmp t::r,e,w,K,ar,h=>by
  simp only[nJ]at h
  split at h
  .rename_i v b
   obtain⟨vs,c,d⟩:=nK ar h
   refine⟨v::vs,?_,d⟩
   have ht:a.tmps.getD t undef=v:=by simp[Array.getD_eq_getD_getElem?,ar.get _ _ b]
   simp only[List.mapM_cons,tS,Sem.run_bind,Sem.run_pure,Result.andThen,ht]
   rw[c]
  .exact h.elim
 | .cell t T::r,e,w,K,ar,h=>by
  simp only[nJ]at h
  split at h
  .rename_i A b
   obtain⟨v,hl,h⟩:=DE h
   obtain⟨vs,c,d⟩:=nK ar h
   refine⟨v::vs,?_,d⟩
   have ht:a.tmps.getD t undef=.pointer (some A):=by simp[Array.getD_eq_getD_getElem?,ar.get _ _ b]
   have g:(loadVar T A).run P w=.ok v w:=by simpa[Instr.loadAt,Instr.sureAddr] using hl
   simp only[List.mapM_cons,tS,Sem.run_bind,Sem.run_pure,Result.andThen,ht,asAddr,g]
   rw[c]
  .exact h.elim
theorem qc{fn:Func}{tmps:Array O}{w:I}{vs:Y O}
 (h:(fn.results.toList.mapM (tS tmps)).run P w=.ok vs w):
 (results fn tmps).run P w=.ok (rF vs) w:=by
 have aT:results fn tmps=(do let vs ←fn.results.mapM (tS tmps);pure (if h:vs.size=1 then vs[0] else .tuple vs)):=rfl;rw[aT,Array.mapM_eq_mapM_toList];simp only[Sem.run_bind,Sem.run_map];rw[h];simp only[Result.andThen,Sem.run_pure]
 congr 1
 match vs with
 | []=>rfl
 | [v]=>rfl
 |u::v::vs=>simp[rF]
theorem Jd{f:FuncId}{fn:Func}{A:aB}{args:Y O}{w:I}{R:O->I->Prop}(hm:P.follows .mixedOrders=true)
 (hf:P.funcs[f]? =some fn) (b:qb fn args.length=true) (h:rG P tk A fn args w R):
 Calls P f args.toArray w λe w'=>∃v,e=.returned v/\R v w':=by
 unfold rG at h;unfold qb at b
 cases g:fn.body with
 |none=>rw[g]at h;exact h.elim
 |some c=>
  rw[g]at h b;simp only[dM]at h b;obtain⟨m,n⟩:=b;have r:=oH n;refine calls_of_wp hf g ?_;have o:(args.toArray++Array.replicate (fn.ntmps-args.toArray.size) undef).size=fn.ntmps:=by simp;omega
  have ar:dh (qa 0 args) {tmps:=args.toArray++Array.replicate (fn.ntmps-args.toArray.size) undef,defers:=[]}:=by
   constructor;intro s v p;obtain⟨_,h2⟩:=Bm p;simp only[Nat.sub_zero]at h2;have aK:s<args.length:=(pS.1 h2).1;simp[Array.getElem?_append,aK];rw[gQ aK]at h2;exact Option.some.inj h2
  refine j3 (wz hm A c _ _ _ w ar (λd hd=>?_) h) ?_
  .have h1:=oC.1 m d hd
   have h2:=oH h1;show d<(args.toArray++Array.replicate (fn.ntmps-args.toArray.size) undef).size;rw[o];omega
  .rintro x a' w' ⟨q,e',k,a⟩
   have hd:a'.defers=[]:=q.defers
   cases x with
   |normal=>
    obtain⟨vs,i,j⟩:=nK k a;exact⟨hd,_,qc i,_,rfl,j⟩
   |ret=>
    obtain⟨vs,i,j⟩:=nK k a;exact⟨hd,_,qc i,_,rfl,j⟩
   |exit id=>exact a.elim
   |goto l=>exact a.elim
   |panic t=>exact a.elim
   |outgrown=>exact a.elim
end
end aQ
namespace aQ
open Go Go.ChangeShapes Go.WideShapes Go.ChangeAt Go.RowKit
def ig(P:Program)(w:I):Nat->TypeId->Y O->Prop
 |0,_,_=>False
 |fuel+1,t,cs=>
  match P.underlying t with
  |some .bool=>∃b:ah,cs=[.bool b]
  |some (.int k)=>∃n:Int,cs=[.int k n]/\k.min<=n/\n<=k.max
  |some .string=>∃s:ByteArray,cs=[.string s]/\s.size<=maxLen
  |some (.slice e)=>∃s:ai,cs=[.slice s.a s.len s.cap]/\s.len<=s.cap/\s.cap<=maxLen/\(s.a=none->s.cap=0)/\
   ∀a,s.a=some a->∀i,i<s.cap->∃vs,aG w (a.add (i*P.cellsOf e)) 0 (P.cellsOf e)=some vs/\ig P w fuel e vs
  |some (.struct fs)=>cs.length=P.cellsOf t/\∀f∈fs,ig P w fuel f.type ((cs.drop f.offset).take (P.cellsOf f.type))
  |some (.array n e)=>cs.length=P.cellsOf t/\∀i,i<n->ig P w fuel e ((cs.drop (i*P.cellsOf e)).take (P.cellsOf e))
  |some (.pointer e)=>cs=[.pointer none]\/∃a vs,cs=[.pointer (some a)]/\aG w a 0 (P.cellsOf e)=some vs/\ig P w fuel e vs
  |_=>True
theorem mapM_some{α β:Type}{f:α->aw β}:∀ {l:Y α}{r:Y β},l.mapM f=some r->∀x∈l,∃y,f x=some y
 | [],_,_,_,hx=>by cases hx
 |a::l,r,h,x,hx=>by
  simp only[List.mapM_cons]at h
  cases c:f a with
  |none=>simp[c]at h
  |some b=>
   cases hl:l.mapM f with
   |none=>simp[c,hl]at h
   |some bs=>
    rcases c4.1 hx with rfl|hx
    .exact⟨b,c⟩
    .exact mapM_some hl x hx
theorem D_{w:I}{a:av}:∀ (n i:Nat) (vs:Y O),((List.range' i n).mapM λj=>w.cell? (a.add j))=some vs->aG w a i n=some vs
 |0,i,vs,h=>by simp at h;simp[aG,h]
 |n+1,i,vs,h=>by
  simp only[List.range'_succ,List.mapM_cons]at h
  cases h1:w.cell? (a.add i) with
  |none=>simp[h1]at h
  |some v=>
   cases h2:((List.range' (i+1) n).mapM λj=>w.cell? (a.add j)) with
   |none=>simp[h1,h2]at h
   |some us=>
    simp[h1,h2]at h
    have:=D_ n (i+1) us h2
    simp[aG,h1,this,h]
theorem Ea{w:I}{base:Nat}{a:av}{n:Nat}{vs:Y O}(h:w.cells? base a n=some vs):aG w a 0 n=some vs:=by
 unfold World.cells? at h;split at h
 .rw[List.range_eq_range']at h
  exact D_ n 0 vs h
 .cases h
section
variable {H:Type}{enc:TypeId×O->H}{P:Program}{w:I}
theorem tT:∀ (fuel:Nat) (t:TypeId) (cs:Y O) (x:DataW H×Y MemPlace),DataW.trod enc P w 0 (λ_=>true) true fuel t cs=some x->ig P w fuel t cs
 |0,_,_,_,h=>by cases h
 |fuel+1,t,cs,x,h=>by
  simp only[DataW.trod]at h
  simp only[ig]
  cases ht:P.underlying t with
  |none=>trivial
  |some d=>
   rw[ht]at h
   cases d<;>try trivial
   case bool=>
    match cs,h with
    | [.bool b],_=>exact⟨b,rfl⟩
   case int k=>
    match cs,h with
    | [.int p n],h=>
     simp only at h
     split at h
     .rename_i g
      obtain⟨rfl,j⟩:=g
      exact⟨n,rfl,by simpa[Lit.wf] using j⟩
     .cases h
   case string=>
    match cs,h with
    | [.string s],h=>
     simp only at h
     split at h
     .rename_i g;exact⟨s,rfl,g⟩
     .cases h
   case pointer e=>
    match cs,h with
    | [.pointer none],_=>exact .inl rfl
    | [.pointer (some a)],h=>
     simp only[Option.map_eq_some_iff]at h
     obtain⟨y,c,_⟩:=h
     obtain⟨vs,h1,h2⟩:=Option.bind_eq_some_iff.1 c
     exact .inr ⟨a,vs,rfl,Ea h1,tT fuel e vs _ h2⟩
   case slice e=>
    match cs,h with
    | [.slice none 0 0],_=>exact⟨⟨none,0,0⟩,rfl,bu _,dC _,(λ_=>rfl),(λa l=>by cases l)⟩
    | [.slice (some a) len cap],h=>
     simp only at h
     split at h
     .rename_i g
      refine⟨⟨some a,len,cap⟩,rfl,g.2.1,g.2.2,(λh0=>by cases h0),λa' m i hi=>?_⟩
      obtain⟨elems,he,h⟩:=Option.bind_eq_some_iff.1 h
      simp only[if_true,Option.map_eq_some_iff]at h
      obtain⟨rest,o,_⟩:=h
      cases m
      have key:∃y,((w.cells? 0 (a.add (i*P.cellsOf e)) (P.cellsOf e)).bind (DataW.trod enc P w 0 (λ_=>true) true fuel e))=some y:=by
       rcases fO i len with hl|hl
       .exact mapM_some he i (jX.2 hl)
       .obtain⟨y,c⟩:=mapM_some o (i-len) (jX.2 (by simp only at hi;omega))
        rw[show len+(i-len)=i from J]at c;exact⟨y,c⟩
      obtain⟨y,c⟩:=key;obtain⟨vs,h1,h2⟩:=Option.bind_eq_some_iff.1 c;exact⟨vs,Ea h1,tT fuel e vs _ h2⟩
     .cases h
   case struct fs=>
    simp only at h;split at h
    .rename_i hl
     refine⟨hl,λf hf=>?_⟩;simp only[Option.map_eq_some_iff]at h;obtain⟨ys,c,_⟩:=h;obtain⟨y,c⟩:=mapM_some c f (by simpa using hf);exact tT fuel _ _ _ c
    .cases h
   case array n e=>
    simp only at h;split at h
    .rename_i hl
     refine⟨hl,λi hi=>?_⟩;simp only[Option.map_eq_some_iff]at h;obtain⟨ys,c,_⟩:=h;obtain⟨y,c⟩:=mapM_some c i (jX.2 hi);exact tT fuel _ _ _ c
    .cases h
def lE(P:Program)(w:I)(t:TypeId)(v:O):Prop:=
 match P.underlying t with
 |some (.struct _)=>∃cs:Array O,v=.agg cs/\∃fuel,ig P w fuel t cs.toList
 |some (.array _ _)=>∃cs:Array O,v=.agg cs/\∃fuel,ig P w fuel t cs.toList
 |_=>∃fuel,ig P w fuel t [v]
theorem Bn{r:Reach}{b0:Nat}{t:TypeId}{v:O}{d:DataW H}{ps:Y MemPlace}(ku:Value.okWide P w r b0 t v)
 (hd:DataW.Trod enc P w 0 (λ_=>true) true t v d ps):lE P w t v:=by
 obtain⟨fuel,hd⟩:=hd;have h1:=tT fuel t _ _ hd;unfold lE;unfold Value.okWide at ku;have sc:(∀cs,v≠ .agg cs)->v.cells.toList=[v]:=λh=>by cases v<;>first|rfl|exact absurd rfl (h _)
 cases ht:P.underlying t with
 |none=>
  rw[ht]at ku
  cases fuel with
  |zero=>cases hd
  |succ f=>exact⟨1,by simp[ig,ht]⟩
 |some a=>
  rw[ht]at ku
  cases a
  case struct fs=>obtain⟨cs,rfl,_,_⟩:=ku;exact⟨cs,rfl,fuel,h1⟩
  case array n e=>obtain⟨cs,rfl,_,_⟩:=ku;exact⟨cs,rfl,fuel,h1⟩
  all_goals
   refine⟨fuel,?_⟩;rw[←sc]
   .exact h1
   .rintro cs rfl
    simp[Cell.okWide,Cell.ok,ht]at ku
theorem Eb{w w':I}(h:af (λ_=>False) w w'):Below w.heap.size w w':=
 ⟨h.os,h.tape,h.output,h.size,λk a=>h.block k a (λh=>h)⟩
theorem Je{f:Func}{s:ChangeSpec}{apart fresh handsOn again:ah}{W W':I}{args:Array O}{T:TypeId}{ds gs:Y (DataW H)}{before pa fS:Y MemPlace}
 (cu:DataW.Whole enc P f.params.toList s.vars apart W args.toList ds gs before) (e:P.underlying T=some .bool) (g:f.resultTypes= #[T])
 (d:s.fn H (ds++gs)={results:=[.lit (.bool true)],args:=ds})
 (wA:∀sp:Nat->ah,(∀p∈before,sp p.block=true)->DataW.TrodAll enc P W' 0 sp true f.params.toList args.toList ds pa)
 (m:∀sp:Nat->ah,(∀p∈before,sp p.block=true)->DataW.TrodVars enc P W' sp s.vars [] fS)
 (c:before=pa++fS) (hb:af (λ_=>False) W W'):
 s.post enc P f apart fresh handsOn again W args (.bool true) W':=by
 have h:=Eb hb;have aK:∀p∈before,p.block<W.heap.size:=λp a=>cu.lt p a;have hold:∀p∈before,(λb=>decide (b<W.heap.size)) p.block=true:=λp a=>by simpa using aK p a
 have i:∀ (b:Nat) (sp:Nat->ah) (hd:ah),DataW.TrodAll enc P W' b sp hd f.resultTypes.toList ((Value.bool true).resultList f.resultTypes.size) (s.fn H (ds++gs)).results []:=by
  intro b sp hd;rw[d,g];exact trodAll_cons_mk (shut_bool e true) trodAll_mk0
 have j:∀sp:Nat->ah,(∀p∈before,sp p.block=true)->DataW.TrodAll enc P W' 0 sp true f.params.toList args.toList (s.fn H (ds++gs)).args pa:=by
  intro sp gm;rw[d];exact wA sp gm
 have k:∀sp:Nat->ah,(∀p∈before,sp p.block=true)->DataW.TrodVars enc P W' sp s.vars (s.fn H (ds++gs)).vars fS:=by
  intro sp gm;rw[d];exact m sp gm
 refine⟨ds,gs,before,[],pa,fS,cu,i _ _ _,j _ hold,k _ hold,World.keptBut_mono (λp a=>⟨a,?_⟩) (h.frame (· ∈before)),λ_=>?_⟩
 .rw[c,eL]at a
  exact Or.inr a
 .obtain⟨_,_,_,_,_,n,o⟩:=cu
  refine⟨ok_one g rfl (okWide_bool_mk e _),_,_,([]++pa)++fS,⟨[]++pa,fS,trodAll_append (j _ (λ_ _=>rfl)) (i _ _ _),k _ (λ_ _=>rfl),rfl,?_,?_⟩,?_⟩
  .intro b off a
   have l:MemPlace.cell b off∈before:=by rw[c];simpa using a
   rw[h.frozen (aK _ l)];exact n b off l
  .intro q
   have:=o q;rw[c]at this;simpa using this
  .intro p a _
   rw[c];simpa using a
theorem Bo{t:TypeId}(hl:laidOutB P=true)(a:P.readableRec t=true)(b:t<P.types.size){W W':I}{v:O}{d:DataW H}{ps:Y MemPlace}{sp:Nat->ah}
 (h:DataW.Trod enc P W 0 (λ_=>true) true t v d ps) (hb:af (λ_=>False) W W') (aK:∀x∈ps,x.block<W.heap.size) (c:∀p∈ps,sp p.block=true):
 DataW.Trod enc P W' 0 sp true t v d ps:=
 WideElems.Trod_stays hl a b h (λx hx=>(Eb hb).same (aK x hx)) c
end
end aQ
namespace aQ
open Go Go.RowKit
def aA(P:Program)(f:FuncId)(args:Array O)(w:I)(Q:O->I->Prop):Prop:=
 Calls P f args w λe w1=>∃v,e=.returned v/\Q v w1
theorem aA.use{P:Program}{f:FuncId}{args:Array O}{w:I}{Q:O->I->Prop}{R:Ending->I->Prop}
 (h:aA P f args w Q) (k:∀v w',Q v w'->R (.returned v) w'):Calls P f args w R:=
 Calls.mono h λ_ _ ⟨v,a,b⟩=>by subst a;exact k v _ b
theorem aA.mono{P:Program}{f:FuncId}{args:Array O}{w:I}{Q R:O->I->Prop}
 (h:aA P f args w Q) (k:∀v w',Q v w'->R v w'):aA P f args w R:=
 aA.use h λv _ a=>⟨v,rfl,k _ _ a⟩
abbrev Ext(w w':I):Prop:=af (λ_=>False) w w'
theorem af.bt{W:Nat->Prop}{w w':I}(h:Ext w w'):af W w w':=af.mono h λ_ _ h=>h.elim
theorem af.drew{W:Nat->Prop}{w w':I}(h:af W w w'):af W w w'.drew:=⟨h.os,h.tape,h.output,h.size,h.block⟩
theorem af.alloc{W:Nat->Prop}{w w':I}(h:af W w w')(o:Obj):af W w (w'.alloc o):=
 h.trans ⟨rfl,rfl,rfl,by simp,λk a _=>Below.heap_alloc _ _ _ a⟩
theorem af.set{W:Nat->Prop}{w w':I}(h:af W w w'){A:av}(hb:A.block<w.heap.size->W A.block)(v:O):af W w (w'.setCell A v):=
 ⟨h.os,h.tape,h.output,by simp only[World.setCell,Array.size_modify];exact h.size,λk a cu=>by
  rw[Below.heap_setCell _ _ _ _ (λe=>cu (by subst e;exact hb a))];exact h.block k a cu⟩
theorem af.setCells{W:Nat->Prop}{w:I}{A:av}(hb:A.block<w.heap.size->W A.block):∀ (vs:Y O) (i:Nat) {w':I},af W w w'->af W w (setCells w' A i vs)
 | [],_,_,h=>h
 |v::vs,i,w',h=>by
  have a:(A.add i).block=A.block:=by unfold Addr.add;split<;>rfl
  exact af.setCells hb vs (i+1) (af.set h (by rw[a];exact hb) v)
theorem az(b o n:Nat):(Addr.mk b o none).add n=⟨b,o+n,none⟩:=by
 unfold Addr.add;split
 .rename_i h;subst h;rfl
 .rfl
def a7(w:I)(b:Nat)(c:Array O)(T:TypeId):Prop:=w.heap[b]? =some (.cells c T (0,0))
section
variable {w w':I}{b i:Nat}{c:Array O}{T:TypeId}
theorem a7.lt(h:a7 w b c T):b<w.heap.size:=(kO.1 h).1
theorem a7.cell(h:a7 w b c T)(i:Nat):w.cell? ⟨b,i,none⟩=c[i]? :=by
 unfold a7 at h;simp[World.cell?,h]
theorem a7.frozen(h:a7 w b c T)(A:av)(ar:A.block=b):w.frozen? A=false:=by
 unfold a7 at h;simp[World.frozen?,ar,h]
theorem a7.ax{W:Nat->Prop}(h:a7 w b c T)(hc:af W w w')(hb:¬W b):a7 w' b c T:=by
 have hl:=h.lt;unfold a7 at h⊢;rw[hc.block b hl hb];exact h
theorem a7.ext(h:a7 w b c T)(hc:Ext w w'):a7 w' b c T:=h.ax hc id
theorem a7.drew(h:a7 w b c T):a7 w.drew b c T:=h
theorem a7.new(w:I)(c:Array O)(T:TypeId):a7 (w.alloc (.cells c T)) w.heap.size c T:=by
 show(w.heap.push (.cells c T))[w.heap.size]? =some (.cells c T (0,0));simp
theorem a7.alloc(h:a7 w b c T)(o:Obj):a7 (w.alloc o) b c T:=h.ext (af.alloc (.refl _ _) o)
theorem a7.set(h:a7 w b c T)(i:Nat)(v:O):a7 (w.setCell ⟨b,i,none⟩ v) b (c.setIfInBounds i v) T:=by
 unfold a7 at h⊢;simp[World.setCell,tn,h]
theorem a7.Bp(h:a7 w b c T){A:av}(ar:A.block≠b)(v:O):a7 (w.setCell A v) b c T:=by
 unfold a7 at h⊢;rw[Below.heap_setCell _ _ _ _ (λe=>ar e.symm)];exact h
theorem a7.inj{c':Array O}{aO:TypeId}(h:a7 w b c T)(a:a7 w b c' aO):c=c'/\T=aO:=by
 unfold a7 at h a;rw[h]at a;simpa using a
def gn(c:Array O)(i:Nat):Y O->Array O
 | []=>c
 |v::vs=>gn (c.setIfInBounds i v) (i+1) vs
theorem g5:∀ (vs:Y O) (c:Array O) (i:Nat),(gn c i vs).size=c.size
 | [],_,_=>rfl
 |v::vs,c,i=>by simp[gn,g5 vs]
theorem a7.oS:∀ (vs:Y O) {w:I}{c:Array O} (i j:Nat),a7 w b c T->a7 (setCells w ⟨b,i,none⟩ j vs) b (gn c (i+j) vs) T
 | [],_,_,_,_,h=>h
 |v::vs,w,c,i,j,h=>by
  simp only[setCells,gn,az]
  have:=a7.oS vs i (j+1) (h.set (i+j) v)
  rw[show i+(j+1)=i+j+1 from J]at this
  exact this
theorem a7.Ec(h:a7 w b c T){A:av}(ar:A.block≠b):∀ (vs:Y O) (j:Nat) {w':I},a7 w' b c T->a7 (setCells w' A j vs) b c T
 | [],_,_,h=>h
 |v::vs,j,w',a=>by
  have d:(A.add j).block=A.block:=by unfold Addr.add;split<;>rfl
  exact a7.Ec h ar vs (j+1) (a.Bp (by rw[d];exact ar) v)
theorem a7.cl(h:a7 w b c T)(i:Nat)(vs:Y O)(d:i+vs.length<=c.size)(a:∀v∈vs,Plain v):bE w ⟨b,i,none⟩ vs:=by
 refine⟨λj e=>?_,a⟩;rw[az,h.cell,h.frozen _ rfl];have:i+j<c.size:=by omega
 simp[this]
end
theorem lF{B:(I->Prop)->Prop}{rest:I->Prop}(a:I->Prop)(h1:∀k:I->Prop,(∀w,a w->k w)->B k)(h2:∀w,a w->rest w):aV B rest:=⟨h1 rest h2⟩
theorem bL{a:Type}{B:(a->I->Prop)->Prop}{rest:a->I->Prop}(b:a->I->Prop)(h1:∀k:a->I->Prop,(∀x w,b x w->k x w)->B k)(h2:∀x w,b x w->rest x w):aV B rest:=⟨h1 rest h2⟩
theorem rH{a b:Type}{B:(a->b->I->Prop)->Prop}{rest:a->b->I->Prop}(c:a->b->I->Prop)(h1:∀k:a->b->I->Prop,(∀x y w,c x y w->k x y w)->B k)(h2:∀x y w,c x y w->rest x y w):aV B rest:=⟨h1 rest h2⟩
structure rI(k:IntKind)(w:I)(s:ai):Prop where
 le:s.len<=s.cap
 cap:s.cap<=maxLen
 nil:s.a=none->s.cap=0
 cell:∀a,s.a=some a->∀i,i<s.cap->∃n:Int,w.cell? (a.add i)=some (.int k n)/\k.min<=n/\n<=k.max
theorem Jf{w:I}{A:av}{vs:Y O}(h:aG w A 0 1=some vs):∃v,vs=[v]/\w.cell? A=some v:=by
 simp only[aG]at h;rw[add_zero']at h
 cases hc:w.cell? A with
 |none=>simp[hc]at h
 |some v=>simp[hc]at h;exact⟨v,h.symm,rfl⟩
theorem rI.of{P:Program}{w:I}{T e:TypeId}{k:IntKind}{v:O}(h:lE P w T v)(d:P.underlying T=some (.slice e))(he:P.underlying e=some (.int k))(hc:P.cellsOf e=1):
 ∃s:ai,v=.slice s.a s.len s.cap/\rI k w s:=by
 simp only[lE,d]at h;obtain⟨fuel,h⟩:=h
 cases fuel with
 |zero=>cases h
 |succ f=>
  simp only[ig,d]at h;obtain⟨s,b,h1,h2,l,m⟩:=h;refine⟨s,by simpa using b,h1,h2,l,λa o i hi=>?_⟩;obtain⟨vs,g,c⟩:=m a o i hi;rw[hc,eB]at g;obtain⟨v,rfl,b⟩:=Jf g
  cases f with
  |zero=>cases c
  |succ f=>
   simp only[ig,he]at c;obtain⟨n,j,p,q⟩:=c;simp only[List.cons.injEq,and_true]at j;subst j;exact⟨n,b,p,q⟩
theorem Jg.of{P:Program}{w:I}{T:TypeId}{k:IntKind}{v:O}(h:lE P w T v)(a:P.underlying T=some (.int k)):∃n:Int,v=.int k n/\k.min<=n/\n<=k.max:=by
 simp only[lE,a]at h;obtain⟨fuel,h⟩:=h
 cases fuel with
 |zero=>cases h
 |succ f=>
  simp only[ig,a]at h;obtain⟨n,b,h1,h2⟩:=h;exact⟨n,by simpa using b,h1,h2⟩
theorem Bq{n:Int}(h0:IntKind.u8.min<=n)(h1:n<=IntKind.u8.max):0<=n/\n<=255:=by
 simpa[IntKind.min,IntKind.max,IntKind.signed,IntKind.bits] using And.intro h0 h1
theorem bF{n:Int}(h0: -9223372036854775808<=n)(h1:n<=9223372036854775807):IntKind.i64.wrap n=n:=by
 by_cases h:0<=n
 .exact A4 h h1
 .have e:n%18446744073709551616=n+18446744073709551616:=by omega
  simp[IntKind.wrap,IntKind.signed,IntKind.bits,e];omega
end aQ
namespace aQ
open Go Go.RowKit
structure Src(sz:Nat)(w:I)(x:ai)(xs:Y O):Prop where
 len:xs.length=x.len*sz
 nil:x.a=none->xs=[]
 rd:∀a,x.a=some a->aG w a 0 (x.len*sz)=some xs
def aR(sz:Nat)(T:TypeId)(w:I)(s:ai)(vs:Y O):Prop:=
 vs.length=s.len*sz/\s.len<=s.cap/\s.cap<=maxLen/\
 ((s.a=none/\s.cap=0)\/∃b c,s.a=some ⟨b,0,none⟩/\a7 w b c T/\c.size=s.cap*sz/\c.toList.take (s.len*sz)=vs)
def aN(s:ai)(k:Nat):Prop:=∃A,s.a=some A/\A.block=k
theorem Ed{w:I}{A:av}:∀ {n i:Nat}{vs:Y O},aG w A i n=some vs->vs.length=n
 |0,_,_,h=>by simp[aG]at h;simp[←h]
 |n+1,i,vs,h=>by
  simp only[aG]at h
  cases h1:w.cell? (A.add i) with
  |none=>simp[h1]at h
  |some v=>
   cases h2:aG w A (i+1) n with
   |none=>simp[h1,h2]at h
   |some us=>
    simp only[h1,h2,Option.some.injEq]at h
    subst h
    simp[Ed h2]
theorem qd{w:I}{b:Nat}{c:Array O}{T:TypeId}(h:a7 w b c T):∀ (n o i:Nat),o+i+n<=c.size->aG w ⟨b,o,none⟩ i n=some ((c.toList.drop (o+i)).take n)
 |0,o,i,_=>by simp[aG]
 |n+1,o,i,e=>by
  have h1:o+i<c.size:=by omega
  have a:=qd h n o (i+1) J
  simp only[aG,az,h.cell,a]
  have h2:c[o+i]? =some c[o+i]:=by simp[h1]
  rw[h2]
  simp only[Option.some.injEq]
  have d:c.toList.drop (o+i)=c[o+i]::c.toList.drop (o+i+1):=by
   rw[kQ (by simpa using h1)];simp
  rw[d];simp[tu]
theorem aR.src{sz:Nat}{T:TypeId}{w:I}{s:ai}{vs:Y O}(h:aR sz T w s vs):Src sz w s vs:=by
 obtain⟨h1,h2,k,f⟩:=h;refine⟨h1,λe=>?_,λa d=>?_⟩
 .rcases f with ⟨_,hc⟩|⟨b,c,hb,_⟩
  .have:s.len=0:=by omega
   rw[this,Nat.zero_mul]at h1;exact oI.1 h1
  .rw[e]at hb;cases hb
 .rcases f with ⟨e,_⟩|⟨b,c,hb,g,i,j⟩
  .rw[e]at d;cases d
  .rw[hb]at d
   cases d;have:=qd g (s.len*sz) 0 0 (by rw[i];simp;exact pU _ h2);rw[this];simp[j]
section
variable {P:Program}{w:I}
theorem rJ{sz:Nat}{x:ai}{xs:Y O}(h:Src sz w x xs):(Builtin.firstCells sz x.len (.slice x.a x.len x.cap)).run P w=.ok xs.toArray w:=by
 cases hx:x.a with
 |none=>rw[h.nil hx];rfl
 |some a=>
  simp only[Builtin.firstCells,loadCells];rw[run_loadCellsFrom _ _ _ _ (h.rd a hx)];simp
theorem Ee(a:Nat):∀ (r c:Nat),c<=2*a+1000->Builtin.growBy a r c<=2*a+1000
 |0,c,h=>h
 |r+1,c,h=>by
  simp only[Builtin.growBy]
  split
  .exact h
  .exact Ee a r _ J
theorem Ef{a cap:Nat}(h:cap<a):Builtin.nextslicecap a cap<=2*a+1000:=by
 unfold Builtin.nextslicecap;split
 .omega
 .split
  .omega
  .exact Ee a 4 cap J
theorem Eg{gR:Array TypeId}{cX dJ kW e:TypeId}{d:TypeDesc}{sz:Nat}{s x:ai}{xs:Y O}(h0:gR[0]? =some dJ)(h1:gR[1]? =some kW)
 (c:P.underlying dJ=some (.slice e)) (hx:P.underlying kW=some (.slice e)) (he:P.underlying e=some d) (h:P.cellsOf e=sz) (i:Src sz w x xs)
 (f:s.len+x.len<=s.cap) (j:∀a,s.a=some a->bE w (a.add (s.len*sz)) xs):
 Sem.run P (Builtin.append_ gR cX #[.slice s.a s.len s.cap,.slice x.a x.len x.cap]) w=
  .ok (.slice s.a (s.len+x.len) s.cap) (match s.a with|some a=>setCells w (a.add (s.len*sz)) 0 xs|none=>w):=by
 have hf:=rJ (P:=P) i;have b:=g3 (w:=w) he;rw[h]at b
 cases k:s.a with
 |none=>
  simp[Builtin.append_,h0,h1,cL c,cL hx,b,Builtin.lenOf,f,hf]
 |some a=>
  have g:=j a k;have:=rv (P:=P) (A:=a.add (s.len*sz)) xs 0 w (by simpa using g.1) g.2;simp[Builtin.append_,h0,h1,cL c,cL hx,b,Builtin.lenOf,f,hf,this]
theorem run_append_grow{gR:Array TypeId}{cX dJ kW e:TypeId}{i:TypeInfo}{z:O}{sz:Nat}{s x:ai}{xs c:Y O}(h0:gR[0]? =some dJ)(h1:gR[1]? =some kW)
 (k:P.underlying dJ=some (.slice e)) (hx:P.underlying kW=some (.slice e)) (hi:P.info? e=some i) (hd:(P.underlying e).isSome=true) (l:i.zero=some z) (m:z.cells.size=sz) (o:P.cellsOf e=sz)
 (hb:i.bytes≠0) (f:Src sz w x xs) (hold:Src sz w s c) (p:s.cap<s.len+x.len) (r:(2*(s.len+x.len)+1000)*i.bytes<=281474976710656):
 ∃ (b:Nat) (rest:Y O),s.len+x.len<=b/\b<=maxLen/\rest.length=(b-(s.len+x.len))*sz/\
  Sem.run P (Builtin.append_ gR cX #[.slice s.a s.len s.cap,.slice x.a x.len x.cap]) w=
   .ok (.slice (some ⟨w.heap.size,0,none⟩) (s.len+x.len) b) (w.drew.alloc (.cells (c++xs++rest).toArray e)):=by
 obtain⟨d,hd⟩:=kV _ hd;have h:=g3 (w:=w) hd;rw[o]at h;have t:=Ef p;have M:Builtin.nextslicecap (s.len+x.len) s.cap*i.bytes<=281474976710656:=cB (pU _ t) r;have N:s.len+x.len<=281474976710656:=by
  have:s.len+x.len<=(2*(s.len+x.len)+1000)*i.bytes:=by
   have:=Nat.mul_le_mul_left (2*(s.len+x.len)+1000) (Nat.one_le_iff_ne_zero.2 hb);omega
  omega
 let q:Question:=.appendCap (s.len+x.len) s.cap e
 let b:Nat:=q.cut (w.tape w.drawn q)
 have u:q.forced=false:=rfl;have v:s.len+x.len<=b:=by show s.len+x.len<=s.len+x.len+_;omega
 have A:b<=maxLen:=by
  show s.len+x.len+_%(2^63-(s.len+x.len))<=2^63-1;have:=ib (w.tape w.drawn q) (y:=2^63-(s.len+x.len)) J;omega
 have B:Src sz w.drew x xs:=⟨f.len,f.nil,λa g=>by
  have:=f.rd a g;have hc:af (λ_=>False) w w.drew:=af.drew (.refl _ _);exact hc.aG (by simp) _ _ _ this⟩
 have C:Src sz w.drew s c:=⟨hold.len,hold.nil,λa g=>by
  have:=hold.rd a g;have hc:af (λ_=>False) w w.drew:=af.drew (.refl _ _);exact hc.aG (by simp) _ _ _ this⟩
 have hf:=rJ (P:=P) B;have D:=rJ (P:=P) C;have E:∀n (w':I),(askRoom n).run P w'=.ok () w':=λn w'=>by unfold askRoom;split<;>rfl
 have F:(choose q).run P w=.ok b w.drew:=by
  show Sem.run P (.choose q .pure) w=_;simp only[Sem.run,u,gE,if_false];rfl
 have j:=λw:I=>oM (w:=w) hi;refine⟨b,(Builtin.zeroCells z.cells (b-(s.len+x.len))).toList,v,A,by simp[Builtin.zeroCells,m],?_⟩;have aT:¬(s.len+x.len<=s.cap):=by omega
 have a6:¬((s.len+x.len:Nat):Int)>IntKind.i64.max:=by
  simp[IntKind.max,IntKind.signed,IntKind.bits];omega
 have G:¬(281474976710656<Builtin.nextslicecap (s.len+x.len) s.cap*i.bytes):=by omega
 have H:¬Builtin.nextslicecap (s.len+x.len) s.cap*i.bytes>2^48:=by simpa using G
 unfold Builtin.append_;simp only[tv,oF,List.getElem?_cons_succ,h0,h1,Sem.run_bind,cL k,cL hx,Result.andThen,h,Builtin.lenOf,Sem.run_pure,aT,if_false,gE,j,a6,false_and,H,Bool.not_false,if_true];have K:Sem.run P (choose (.appendCap (s.len+x.len) s.cap e)) w=.ok b w.drew:=F;simp only[K,E,hf,D,zeroValue,j,l,Sem.run_bind,Result.andThen,Sem.run_pure,newRow,newObj,Sem.run];have L:w.drew.heap.size=w.heap.size:=rfl;rw[L]
 congr 1
 show w.drew.alloc _=w.drew.alloc _
 congr 2
 simp
theorem rK:∀ (vs:Y O) (c:Array O) (i:Nat),i+vs.length<=c.size->(gn c i vs).toList.take (i+vs.length)=c.toList.take i++vs
 | [],c,i,_=>by simp[gn]
 |v::vs,c,i,h=>by
  simp only[d_]at h
  simp only[gn]
  have:=rK vs (c.setIfInBounds i v) (i+1) (by simpa using (by omega:i+1+vs.length<=c.size))
  rw[show i+(v::vs).length=i+1+vs.length by simp;omega,this]
  have hi:i<c.size:=by omega
  have h2:(c.setIfInBounds i v).toList.take (i+1)=c.toList.take i++ [v]:=by
   rw[kR (by simpa using hi)];have a:(List.take i c.toList).set i v=List.take i c.toList:=by
    apply List.set_eq_of_length_le;simp only[fP];omega
   simp[List.take_set,a]
  rw[h2];simp
theorem Jh{gR:Array TypeId}{cX dJ kW e:TypeId}{i:TypeInfo}{z:O}{sz:Nat}{s x:ai}{xs vs:Y O}(h0:gR[0]? =some dJ)(h1:gR[1]? =some kW)
 (r:P.underlying dJ=some (.slice e)) (hx:P.underlying kW=some (.slice e)) (hi:P.info? e=some i) (hd:(P.underlying e).isSome=true) (C:i.zero=some z) (D:z.cells.size=sz) (t:P.cellsOf e=sz)
 (hb:i.bytes≠0) (f:Src sz w x xs) (u:aR sz e w s vs) (E:∀v∈xs,Plain v) (F:(2*(s.len+x.len)+1000)*i.bytes<=281474976710656):
 ∃ (g:ai) (w':I),Sem.run P (Builtin.append_ gR cX #[.slice s.a s.len s.cap,.slice x.a x.len x.cap]) w=.ok (.slice g.a g.len g.cap) w'/\
  aR sz e w' g (vs++xs)/\g.len=s.len+x.len/\af (aN s) w w'/\(∀k,aN g k->aN s k\/w.heap.size<=k):=by
 have hold:=u.src;obtain⟨aS,bf,G,y⟩:=u;by_cases h:s.len+x.len<=s.cap
 .have H:∀a,s.a=some a->bE w (a.add (s.len*sz)) xs:=by
   intro a j;rcases y with ⟨n,_⟩|⟨b,c,l,o,m,B⟩
   .rw[n]at j;cases j
   .rw[l]at j
    cases j;rw[az];refine o.cl _ _ ?_ E;rw[m,f.len,b3,←km];exact pU _ h
  obtain⟨d,hd⟩:=kV _ hd;have p:=Eg (cX:=cX) h0 h1 r hx hd t f h H;refine⟨⟨s.a,s.len+x.len,s.cap⟩,_,p,?_,rfl,?_,λk q=>.inl q⟩
  .refine⟨by simp[aS,f.len,km],h,G,?_⟩
   rcases y with ⟨n,hc⟩|⟨b,c,l,o,m,B⟩
   .exact .inl ⟨n,hc⟩
   .refine .inr ⟨b,gn c (s.len*sz) xs,l,?_,by rw[g5];exact m,?_⟩
    .simp only[l,az]
     have:=a7.oS (T:=e) xs (0+s.len*sz) 0 o;simpa using this
    .have K:s.len*sz+xs.length<=c.size:=by
      rw[m,f.len,←km];exact pU _ h
     have:=rK xs c (s.len*sz) K;rw[f.len,←km]at this;rw[this,B]
  .cases L:s.a with
   |none=>exact .refl _ _
   |some a=>
    refine af.setCells (λ_=>?_) xs 0 (.refl _ _);exact⟨a,L,by unfold Addr.add;split<;>rfl⟩
 .obtain⟨M,rest,N,Q,R,p⟩:=run_append_grow (cX:=cX) h0 h1 r hx hi hd C D t hb f hold J F
  refine⟨⟨some ⟨w.heap.size,0,none⟩,s.len+x.len,M⟩,_,p,?_,rfl,af.alloc (af.drew (.refl _ _)) _,?_⟩
  .refine⟨by simp[aS,f.len,km],N,Q,.inr ⟨w.heap.size,(vs++xs++rest).toArray,rfl,a7.new w.drew _ _,?_,?_⟩⟩
   .simp[aS,f.len,R]
    rw[←km,←km]
    congr 1
    omega
   .have:(vs++xs).length=(s.len+x.len)*sz:=by simp[aS,f.len,km]
    show List.take ((s.len+x.len)*sz) (vs++xs++rest).toArray.toList=vs++xs;rw[←this];exact List.take_left
  .rintro k ⟨A,ar,q⟩
   cases ar;exact .inr (by simpa using q▸bu _)
end
theorem aR.ax{sz:Nat}{T:TypeId}{w w':I}{s:ai}{vs:Y O}{W:Nat->Prop}(h:aR sz T w s vs)(hc:af W w w')(d:∀k,aN s k->¬W k):aR sz T w' s vs:=by
 obtain⟨h1,h2,e,a⟩:=h;refine⟨h1,h2,e,?_⟩;rcases a with a|⟨b,c,hb,f,g,i⟩
 .exact .inl a
 .exact .inr ⟨b,c,hb,f.ax hc (d b ⟨_,hb,rfl⟩),g,i⟩
theorem Src.ax{sz:Nat}{w w':I}{s:ai}{vs:Y O}{W:Nat->Prop}(h:Src sz w s vs)(hc:af W w w')(c:∀k,aN s k->¬W k):Src sz w' s vs:=
 ⟨h.len,h.nil,λa b=>hc.aG (c _ ⟨a,b,rfl⟩) _ _ _ (h.rd a b)⟩
theorem aR.lt{sz:Nat}{T:TypeId}{w:I}{s:ai}{vs:Y O}(h:aR sz T w s vs):∀k,aN s k->k<w.heap.size:=by
 rintro k ⟨A,ar,rfl⟩;obtain⟨_,_,_,a⟩:=h;rcases a with ⟨d,_⟩|⟨b,c,hb,e,_⟩
 .rw[d]at ar;cases ar
 .rw[hb]at ar;cases ar;exact e.lt
theorem aR.cell{T:TypeId}{w:I}{s:ai}{vs:Y O}(h:aR 1 T w s vs){i:Nat}{v:O}(d:vs[i]? =some v):
 ∃b c,s.a=some ⟨b,0,none⟩/\a7 w b c T/\c.size=s.cap/\i<s.len/\i<c.size/\w.cell? ⟨b,i,none⟩=some v/\c.toList.take s.len=vs:=by
 obtain⟨h1,h2,j,g⟩:=h;have hi:i<s.len:=by
  have:=(pS.1 d).1;omega
 rcases g with ⟨_,hc⟩|⟨b,c,hb,e,f,ht⟩
 .omega
 .rw[eB]at f ht
  refine⟨b,c,hb,e,f,hi,J,?_,ht⟩;rw[e.cell];rw[←ht,List.getElem?_take]at d;rw[if_pos hi]at d;simpa using d
theorem aR.set{T:TypeId}{w:I}{s:ai}{vs:Y O}{b i:Nat}(h:aR 1 T w s vs)(hb:s.a=some ⟨b,0,none⟩)(v:O):
 aR 1 T (w.setCell ⟨b,i,none⟩ v) s (vs.set i v):=by
 obtain⟨h1,h2,e,f⟩:=h;refine⟨by simpa using h1,h2,e,.inr ?_⟩;rcases f with ⟨g,_⟩|⟨b',c,d,j,k,ht⟩
 .rw[g]at hb;cases hb
 .rw[hb]at d
  cases d;refine⟨b,_,hb,j.set i v,by simpa using k,?_⟩;rw[←ht];simp[List.take_set]
def Eh(P:Program)(dJ e:TypeId)(sz bytes:Nat):ah:=
 match P.underlying dJ,P.info? e,P.underlying e with
 |some (.slice e'),some i,some _=>e'==e&&(match i.zero with|some z=>z.cells.size==sz|none=>false)&&P.cellsOf e==sz&&i.bytes==bytes&&bytes !=0
 |_,_,_=>false
structure ih(P:Program)(dJ e:TypeId)(sz bytes:Nat):Prop where
 h:Eh P dJ e sz bytes=true
theorem ih.out{P:Program}{dJ e:TypeId}{sz bytes:Nat}(h:ih P dJ e sz bytes):
 P.underlying dJ=some (.slice e)/\∃i z,P.info? e=some i/\(P.underlying e).isSome=true/\i.zero=some z/\z.cells.size=sz/\P.cellsOf e=sz/\i.bytes=bytes/\bytes≠0:=by
 have h:=h.h;unfold Eh at h;split at h
 .rename_i e' i d h1 h2 b
  simp only[dM,jY,bne_iff_ne]at h;obtain⟨⟨⟨⟨rfl,a⟩,c⟩,f⟩,g⟩:=h;split at a
  .rename_i z j
   exact⟨h1,i,z,h2,by simp[b],j,by simpa using a,c,f,g⟩
  .cases a
 .cases h
theorem ih.append{P:Program}{w:I}{dJ e cX:TypeId}{sz bytes:Nat}{s x:ai}{xs vs:Y O}(h:ih P dJ e sz bytes)
 (c:Src sz w x xs) (d:aR sz e w s vs) (f:∀v∈xs,Plain v) (g:(2*(s.len+x.len)+1000)*bytes<=281474976710656):
 ∃ (b:ai) (w':I),Sem.run P (Builtin.append_ #[dJ,dJ] cX #[.slice s.a s.len s.cap,.slice x.a x.len x.cap]) w=.ok (.slice b.a b.len b.cap) w'/\
  aR sz e w' b (vs++xs)/\b.len=s.len+x.len/\af (aN s) w w'/\(∀k,aN b k->aN s k\/w.heap.size<=k):=by
 obtain⟨h1,i,z,h2,j,l,m,n,rfl,o⟩:=h.out;exact Jh rfl rfl h1 h1 h2 j l m n o c d f g
theorem Src.new{sz:Nat}{T:TypeId}(w:I)(xs:Y O)(n:Nat)(b:xs.length=n*sz):Src sz (w.alloc (.cells xs.toArray T)) ⟨some ⟨w.heap.size,0,none⟩,n,n⟩ xs:=by
 refine⟨b,(λh=>by cases h),λa c=>?_⟩
 cases c;rw[qd (a7.new w xs.toArray T) _ _ _ (by simp[b])];simp[←b]
theorem aR.new{sz:Nat}{T:TypeId}(w:I)(xs:Y O)(n:Nat)(a:xs.length=n*sz)(hm:n<=maxLen):aR sz T (w.alloc (.cells xs.toArray T)) ⟨some ⟨w.heap.size,0,none⟩,n,n⟩ xs:=by
 refine⟨a,bu _,hm,.inr ⟨_,_,rfl,a7.new w _ _,by simp[a],?_⟩⟩;show List.take (n*sz) xs=xs;rw[←a,jg]
theorem aR.none(sz:Nat)(T:TypeId)(w:I):aR sz T w ⟨.none,0,0⟩ []:=⟨by simp,bu _,by decide,.inl ⟨rfl,rfl⟩⟩
theorem gb(k:Nat):¬aN ⟨.none,0,0⟩ k:=by rintro⟨A,ar,_⟩;cases ar
theorem me{A:av}{n m k:Nat}:aN ⟨some A,n,m⟩ k↔A.block=k:=⟨λ⟨B,a,h⟩=>by cases a;exact h,λh=>⟨_,rfl,h⟩⟩
theorem Src.alloc{sz:Nat}{w:I}{s:ai}{vs:Y O}(h:Src sz w s vs)(o:Obj):Src sz (w.alloc o) s vs:=h.ax (W:=λ_=>False) (af.alloc (.refl _ _) o) (λ_ _ h=>h)
theorem aR.ext{sz:Nat}{T:TypeId}{w w':I}{s:ai}{vs:Y O}(h:aR sz T w s vs)(hc:Ext w w'):aR sz T w' s vs:=h.ax hc λ_ _ h=>h
theorem Src.ext{sz:Nat}{w w':I}{s:ai}{vs:Y O}(h:Src sz w s vs)(hc:Ext w w'):Src sz w' s vs:=h.ax hc λ_ _ h=>h
theorem ih.push{P:Program}{w:I}{dJ e cX:TypeId}{sz bytes:Nat}{s:ai}{vs xs:Y O}(h:ih P dJ e sz bytes)(hx:xs.length=sz)
 (c:aR sz e w s vs) (d:∀v∈xs,Plain v) (f:(2*(s.len+1)+1000)*bytes<=281474976710656):
 ∃ (b:ai) (w':I),Sem.run P (Builtin.append_ #[dJ,dJ] cX #[.slice s.a s.len s.cap,.slice (some ⟨w.heap.size,0,none⟩) 1 1]) (w.alloc (.cells xs.toArray e))=.ok (.slice b.a b.len b.cap) w'/\
  aR sz e w' b (vs++xs)/\b.len=s.len+1/\af (aN s) w w'/\(∀k,aN b k->aN s k\/w.heap.size<=k):=by
 have hc:Ext w (w.alloc (.cells xs.toArray e)):=af.alloc (.refl _ _) _;obtain⟨b,w',h1,h2,g,i,j⟩:=h.append (cX:=cX) (Src.new (T:=e) w xs 1 (by simpa using hx)) (c.ext hc) d f;exact⟨b,w',h1,h2,g,(af.bt hc).trans i,λk l=>(j k l).imp id (λh=>by simp at h;omega)⟩
theorem ih.clone{P:Program}{w:I}{dJ e cX:TypeId}{sz bytes:Nat}{x:ai}{xs:Y O}(h:ih P dJ e sz bytes)
 (l:Src sz w x xs) (p:∀v∈xs,Plain v) (q:(2*x.len+1000)*bytes<=281474976710656):
 ∃ (f:ai) (w':I),Sem.run P (Builtin.append_ #[dJ,dJ] cX #[.slice (some ⟨w.heap.size,0,none⟩) 0 0,.slice x.a x.len x.cap]) (w.alloc (.cells #[] e))=.ok (.slice f.a f.len f.cap) w'/\
  aR sz e w' f xs/\f.len=x.len/\Ext w w'/\(∀k,aN f k->w.heap.size<=k)/\f.a.isSome=true:=by
 have r:=aR.new (sz:=sz) (T:=e) w [] 0 (by simp) (by decide);have m:=l.alloc (.cells #[] e);obtain⟨f,w',h1,h2,n,g,t⟩:=h.append (cX:=cX) m r p (by simpa using q);refine⟨f,w',h1,by simpa using h2,by simpa using n,?_,λk j=>?_,?_⟩
 .refine⟨g.os.trans rfl,g.tape.trans rfl,g.output.trans rfl,?_,λk j _=>?_⟩
  .have:=g.size;simp at this;omega
  .rw[g.block k (by simp;omega) (by rintro⟨A,ar,h⟩;cases ar;simp at h;omega)]
   exact Below.heap_alloc _ _ _ j
 .rcases t k j with ⟨A,ar,h⟩|h
  .cases ar;simp at h;omega
  .simp at h;omega
 .obtain⟨_,i,z,E,u,F,G,y,rfl,H⟩:=h.out
  have hb:=h2.2.2.2;rcases hb with ⟨B,hc⟩|⟨b,c,hb,_⟩
  .
   exfalso;have hl:=h2.2.1;have o:x.len=0:=by simp at n;omega
   have C:xs=[]:=oI.1 (by rw[l.len,o,Nat.zero_mul]);obtain⟨d,hd⟩:=kV _ u;have:=Eg (P:=P) (w:=w.alloc (.cells #[] e)) (gR:= #[dJ,dJ]) (cX:=cX) (s:=⟨some ⟨w.heap.size,0,Option.none⟩,0,0⟩) rfl rfl h.out.1 h.out.1 hd y m (by simp[o]) (λa _=>by
    rw[C];exact⟨λi hi=>by simp at hi,λv D=>by simp at D⟩)
   rw[this]at h1;simp only[Result.ok.injEq,Value.slice.injEq]at h1;rw[B]at h1
   cases h1.1.1
  .rw[hb];rfl
theorem rI.src{k:IntKind}{w:I}{s:ai}(h:rI k w s):∃ns:Y Int,ns.length=s.len/\(∀n∈ns,k.min<=n/\n<=k.max)/\Src 1 w s (ns.map (.int k)):=by
 obtain⟨m,o,d,e⟩:=h
 cases b:s.a with
 |none=>
  have p:=d b;exact⟨[],by simp;omega,by simp,by simp;omega,λ_=>rfl,(λa h=>by rw[b]at h;cases h)⟩
 |some A=>
  have key:∀n i,i+n<=s.cap->∃ns:Y Int,ns.length=n/\(∀n∈ns,k.min<=n/\n<=k.max)/\aG w A i n=some (ns.map (.int k)):=by
   intro n
   induction n with
   |zero=>intro i _;exact⟨[],rfl,by simp,rfl⟩
   |succ n f=>
    intro i hi;obtain⟨ns,h1,h2,c⟩:=f (i+1) J;obtain⟨v,g,j,l⟩:=e A b i J;refine⟨v::ns,by simp[h1],?_,by simp[aG,g,c]⟩;intro x hx;rcases c4.1 hx with rfl|hx
    .exact⟨j,l⟩
    .exact h2 x hx
  obtain⟨ns,h1,h2,c⟩:=key s.len 0 J;exact⟨ns,h1,h2,by simp[h1],(λh=>by rw[b]at h;cases h),(λa h=>by rw[b]at h;cases h;simpa using c)⟩
theorem aR.at{T:TypeId}{w:I}{s:ai}{vs:Y O}(h:aR 1 T w s vs){i:Nat}{v:O}(f:vs[i]? =some v):
 ∃A:av,s.a=some A/\((0:Int)<=(i:Int)/\(i:Int)<((s.len:Nat):Int))/\w.cell? (A.add (Int.toNat (i:Int)*1))=some v/\w.frozen? (A.add (Int.toNat (i:Int)*1))=false/\
  aN s (A.add (Int.toNat (i:Int)*1)).block/\∀d,aR 1 T (w.setCell (A.add (Int.toNat (i:Int)*1)) d) s (vs.set i d):=by
 obtain⟨b,c,hb,g,j,hi,k,hc,_⟩:=h.cell f;have e:(Addr.mk b 0 Option.none).add (Int.toNat (i:Int)*1)=⟨b,i,Option.none⟩:=by rw[eB,eR,az,b3]
 exact⟨_,hb,⟨J,J⟩,by rw[e];exact hc,by rw[e];exact g.frozen _ rfl,by rw[e];exact⟨_,hb,rfl⟩,λd=>by rw[e];exact h.set hb d⟩
end aQ
namespace aQ
open Go Go.RowKit
def Ei(ns:Y Int):ByteArray:=ns.foldl (λr n=>r.push (UInt8.ofNat n.toNat)) ByteArray.empty
theorem Ji{P:Program}{w:I}{src dst e:TypeId}{s:ai}{ns:Y Int}(d:P.underlying src=some (.slice e))(he:P.underlying e=some (.int .u8))(hd:P.underlying dst=some .string)
 (h:Src 1 w s (ns.map (.int .u8))):Sem.run P (convert src dst (.slice s.a s.len s.cap)) w=.ok (.string (Ei ns)) w:=by
 rw[run_convert_bytes_string w src dst e s.a s.len s.cap d he hd]
 cases b:s.a with
 |none=>
  have:=h.nil b;have f:ns=[]:=by simpa using this
  subst f;rfl
 |some A=>
  have c:=h.rd A b;rw[eB]at c;exact run_bytesToString w A s.len s.cap ns (by
   unfold loadCells;rw[run_loadCellsFrom _ _ _ _ c];simp)
theorem Ej{P:Program}{e:TypeId}{v:O}(a:((P.info? e).bind (·.zero)).map (·.cells)=some #[v])(hc:P.cellsOf e=1)(n:Nat):gF P e n=(List.replicate n v).toArray:=by
 unfold gF;rw[hc]
 cases hi:(P.info? e).bind (·.zero) with
 |none=>rw[hi]at a;cases a
 |some z=>
  rw[hi]at a;simp only[mM,Option.some.injEq]at a;simp only[Option.getD_some,a,eB];apply Array.ext
  .simp
  .intro i h1 h2
   have b:n≠0:=by
    intro h;subst h;simp at h2
   simp[b,Nat.mod_one]
section
variable {P:Program}{w:I}{T:TypeId}{fuel:Nat}{cs:Y O}
end
theorem nL{w:I}{A:av}:∀ {n i:Nat}{vs:Y O}{j:Nat}{v:O},aG w A i n=some vs->vs[j]? =some v->w.cell? (A.add (i+j))=some v
 |0,i,vs,j,v,h,a=>by simp[aG]at h;subst h;simp at a
 |n+1,i,vs,j,v,h,a=>by
  simp only[aG]at h
  cases h1:w.cell? (A.add i) with
  |none=>simp[h1]at h
  |some u=>
   cases h2:aG w A (i+1) n with
   |none=>simp[h1,h2]at h
   |some us=>
    simp only[h1,h2,Option.some.injEq]at h
    subst h
    cases j with
    |zero=>simp at a;subst a;exact h1
    |succ j=>
     have:=nL h2 (j:=j) (by simpa using a)
     rw[show i+(j+1)=i+1+j from J]
     exact this
theorem Src.at{w:I}{s:ai}{vs:Y O}(h:Src 1 w s vs){i:Nat}{v:O}(b:vs[i]? =some v):
 ∃A:av,s.a=some A/\((0:Int)<=(i:Int)/\(i:Int)<((s.len:Nat):Int))/\w.cell? (A.add (Int.toNat (i:Int)*1))=some v:=by
 have hi:i<vs.length:=(pS.1 b).1;have hl:=h.len
 cases c:s.a with
 |none=>have:=h.nil c;subst this;simp at hi
 |some A=>
  have:=nL (h.rd A c) b;exact⟨A,rfl,⟨J,J⟩,by rw[eB,eR];simpa using this⟩
end aQ
