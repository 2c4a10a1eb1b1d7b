/- What a Go program of the model must show, as text that can be read; sound against the kit. -/
import Derived.Below
import Derived.KernelRfl
import Derived.Laws.BytesString
import Derived.OpenShut
import Derived.OrdersHeld
import Derived.ProofKit
import Derived.Scope
import Derived.StillTail
import Derived.Tactics
import Derived.WalkKit
import Derived.WideKeyArgs
namespace Go
theorem bk:type_of% @Nat.le_refl:=@Nat.le_refl
theorem b3:type_of% @of_decide_eq_true:=@of_decide_eq_true
theorem cg:type_of% @Nat.zero_add:=@Nat.zero_add
theorem cx:type_of% @of_decide_eq_false:=@of_decide_eq_false
theorem cO:type_of% @List.getElem_mem:=@List.getElem_mem
theorem cT:type_of% @decide_eq_true_eq:=@decide_eq_true_eq
theorem cW:type_of% @List.mem_cons:=@List.mem_cons
theorem c1:type_of% @List.length_set:=@List.length_set
theorem dd:type_of% @Nat.zero_le:=@Nat.zero_le
theorem dj:type_of% @List.mem_map:=@List.mem_map
theorem dn:type_of% @List.length_map:=@List.length_map
theorem du:type_of% @Bool.and_eq_true:=@Bool.and_eq_true
theorem dG:type_of% @Nat.le_trans:=@Nat.le_trans
theorem dH:type_of% @List.mem_singleton:=@List.mem_singleton
theorem dW:type_of% @Int.toNat_natCast:=@Int.toNat_natCast
theorem ed:type_of% @List.mem_append:=@List.mem_append
theorem ej:type_of% @List.length_append:=@List.length_append
theorem eB:type_of% @decide_eq_true:=@decide_eq_true
theorem eP:type_of% @Nat.lt_or_ge:=@Nat.lt_or_ge
theorem eX:type_of% @Bool.eq_iff_iff:=@Bool.eq_iff_iff
theorem eY:type_of% @List.take_of_length_le:=@List.take_of_length_le
theorem eZ:type_of% @List.getElem_of_mem:=@List.getElem_of_mem
theorem e5:type_of% @List.map_append:=@List.map_append
theorem fg:type_of% @List.length_take:=@List.length_take
theorem fh:type_of% @List.not_mem_nil:=@List.not_mem_nil
theorem ft:type_of% @or_false:=@or_false
theorem fu:type_of% @List.getElem_set_ne:=@List.getElem_set_ne
theorem fI:type_of% @Bool.not_eq_true:=@Bool.not_eq_true
theorem fQ:type_of% @List.getElem?_eq_getElem:=@List.getElem?_eq_getElem
theorem fR:type_of% @Nat.mul_one:=@Nat.mul_one
theorem fW:type_of% @Bool.false_eq_true:=@Bool.false_eq_true
theorem fX:type_of% @Nat.lt_of_lt_of_le:=@Nat.lt_of_lt_of_le
theorem gq:type_of% @Nat.mod_lt:=@Nat.mod_lt
theorem gr:type_of% @decide_eq_false:=@decide_eq_false
theorem gD:type_of% @List.map_cons:=@List.map_cons
theorem gE:type_of% @List.append_assoc:=@List.append_assoc
theorem gF:type_of% @List.map_map:=@List.map_map
theorem gO:type_of% @List.getD_eq_getElem?_getD:=@List.getD_eq_getElem?_getD
theorem hJ:type_of% @List.mem_filter:=@List.mem_filter
theorem hK:type_of% @Nat.mod_eq_of_lt:=@Nat.mod_eq_of_lt
theorem hL:type_of% @List.length_drop:=@List.length_drop
theorem iy:type_of% @Bool.true_and:=@Bool.true_and
theorem iz:type_of% @List.length_cons:=@List.length_cons
theorem iA:type_of% @List.getElem_set_self:=@List.getElem_set_self
theorem iN:type_of% @Nat.eq_of_beq_eq_true:=@Nat.eq_of_beq_eq_true
theorem jv:type_of% @Bool.or_eq_true:=@Bool.or_eq_true
theorem jw:type_of% @beq_iff_eq:=@beq_iff_eq
theorem jx:type_of% @List.take_length:=@List.take_length
theorem jy:type_of% @Nat.min_eq_left:=@Nat.min_eq_left
theorem jZ:type_of% @List.take_succ_eq_append_getElem:=@List.take_succ_eq_append_getElem
theorem j0:type_of% @Nat.add_mul:=@Nat.add_mul
theorem j1:type_of% @List.mem_of_find?_eq_some:=@List.mem_of_find?_eq_some
theorem kl:type_of% @List.mem_range:=@List.mem_range
theorem km:type_of% @List.take_append_of_le_length:=@List.take_append_of_le_length
theorem kn:type_of% @List.count_pos_iff:=@List.count_pos_iff
theorem kV:type_of% @Nat.add_zero:=@Nat.add_zero
theorem kW:type_of% @Bool.not_eq_true':=@Bool.not_eq_true'
theorem kX:type_of% @decide_eq_false_iff_not:=@decide_eq_false_iff_not
theorem kY:type_of% @List.take_append_drop:=@List.take_append_drop
theorem kZ:type_of% @Option.some_get:=@Option.some_get
theorem k0:type_of% @List.find?_some:=@List.find?_some
theorem ly:type_of% @Array.getElem?_eq_some_iff:=@Array.getElem?_eq_some_iff
theorem lz:type_of% @List.drop_zero:=@List.drop_zero
theorem lA:type_of% @Bool.false_and:=@Bool.false_and
theorem lB:type_of% @List.getElem?_eq_none:=@List.getElem?_eq_none
theorem lC:type_of% @List.length_replicate:=@List.length_replicate
theorem l0:type_of% @List.mem_cons_of_mem:=@List.mem_cons_of_mem
theorem l1:type_of% @List.drop_eq_getElem_cons:=@List.drop_eq_getElem_cons
theorem l2:type_of% @Option.map_some:=@Option.map_some
theorem mG:type_of% @Bool.false_or:=@Bool.false_or
theorem mH:type_of% @List.nodup_append:=@List.nodup_append
theorem mI:type_of% @List.find?_eq_none:=@List.find?_eq_none
theorem ny:type_of% @List.all_eq_true:=@List.all_eq_true
theorem nz:type_of% @Nat.testBit_or:=@Nat.testBit_or
theorem nA:type_of% @List.getElem?_cons_zero:=@List.getElem?_cons_zero
theorem nB:type_of% @List.any_eq_true:=@List.any_eq_true
theorem nC:type_of% @Nat.le_of_ble_eq_true:=@Nat.le_of_ble_eq_true
theorem nD:type_of% @List.map_congr_left:=@List.map_congr_left
theorem nE:type_of% @List.getElem?_map:=@List.getElem?_map
theorem nF:type_of% @Nat.xor_lt_two_pow:=@Nat.xor_lt_two_pow
theorem nG:type_of% @List.take_left':=@List.take_left'
theorem nH:type_of% @List.mem_or_eq_of_mem_set:=@List.mem_or_eq_of_mem_set
theorem oU:type_of% @List.any_eq_false:=@List.any_eq_false
theorem oV:type_of% @List.length_eq_zero_iff:=@List.length_eq_zero_iff
theorem oW:type_of% @List.drop_drop:=@List.drop_drop
theorem oX:type_of% @List.nil_append:=@List.nil_append
theorem oY:type_of% @List.map_drop:=@List.map_drop
theorem oZ:type_of% @List.ext_getElem:=@List.ext_getElem
theorem qp:type_of% @List.getElem?_eq_some_iff:=@List.getElem?_eq_some_iff
theorem qq:type_of% @Bool.or_eq_false_iff:=@Bool.or_eq_false_iff
theorem qs:type_of% @Nat.mul_le_mul_right:=@Nat.mul_le_mul_right
theorem qt:type_of% @List.perm_middle:=@List.perm_middle
theorem qu:type_of% @List.map_take:=@List.map_take
theorem qv:type_of% @UInt8.toNat_lt:=@UInt8.toNat_lt
theorem qw:type_of% @List.pairwise_cons:=@List.pairwise_cons
theorem qx:type_of% @List.flatten_append:=@List.flatten_append
theorem qy:type_of% @List.append_nil:=@List.append_nil
theorem qz:type_of% @Bool.not_eq_false':=@Bool.not_eq_false'
theorem qA:type_of% @List.toList_toArray:=@List.toList_toArray
theorem qB:type_of% @List.length_nil:=@List.length_nil
theorem sM:type_of% @List.filterMap_cons:=@List.filterMap_cons
theorem sN:type_of% @List.filterMap_append:=@List.filterMap_append
theorem sO:type_of% @Nat.testBit_two_pow:=@Nat.testBit_two_pow
theorem sP:type_of% @List.getElem?_toArray:=@List.getElem?_toArray
theorem sQ:type_of% @Option.getD_some:=@Option.getD_some
theorem sR:type_of% @Array.toList_inj:=@Array.toList_inj
theorem sS:type_of% @UInt8.toNat_inj:=@UInt8.toNat_inj
theorem sT:type_of% @List.getElem_set:=@List.getElem_set
theorem sU:type_of% @Decidable.byContradiction:=@Decidable.byContradiction
theorem sV:type_of% @List.pairwise_iff_getElem:=@List.pairwise_iff_getElem
theorem sW:type_of% @List.getElem?_append_right:=@List.getElem?_append_right
theorem sX:type_of% @Nat.eq_zero_or_pos:=@Nat.eq_zero_or_pos
theorem sY:type_of% @Int.tmod_eq_emod_of_nonneg:=@Int.tmod_eq_emod_of_nonneg
theorem sZ:type_of% @Int.eq_ofNat_of_zero_le:=@Int.eq_ofNat_of_zero_le
theorem s0:type_of% @Bool.and_false:=@Bool.and_false
theorem uZ:type_of% @Option.isSome_iff_exists:=@Option.isSome_iff_exists
theorem u0:type_of% @Array.getElem?_modify:=@Array.getElem?_modify
theorem u3:type_of% @List.getElem?_drop:=@List.getElem?_drop
theorem u4:type_of% @List.drop_of_length_le:=@List.drop_of_length_le
theorem u5:type_of% @Int.fdiv_eq_ediv_of_nonneg:=@Int.fdiv_eq_ediv_of_nonneg
theorem u6:type_of% @List.foldl_append:=@List.foldl_append
theorem u7:type_of% @Nat.pow_le_pow_right:=@Nat.pow_le_pow_right
theorem u9:type_of% @List.length_singleton:=@List.length_singleton
theorem u_:type_of% @List.eq_of_mem_replicate:=@List.eq_of_mem_replicate
theorem va:type_of% @List.size_toArray:=@List.size_toArray
theorem vb:type_of% @List.pairwise_map:=@List.pairwise_map
theorem za:type_of% @List.getElem?_cons_succ:=@List.getElem?_cons_succ
theorem J{p:Prop}(h:p:=by omega):p:=h
abbrev I:=World
abbrev O:=Value
abbrev al(α:Type):=Option α
abbrev Y(α:Type):=List α
abbrev ar:=Addr
abbrev ai:=Bool
end Go
namespace aO
open Go
structure ag where
 a:al ar
 len:Nat
 cap:Nat
instance:Coe ag Value:=⟨λs=>.slice s.a s.len s.cap⟩
instance:Coe Int Value:=⟨λn=>.int .i64 n⟩
instance:Coe Nat Value:=⟨λn=>.int .i64 (n:Int)⟩
instance:Coe Bool Value:=⟨λb=>.bool b⟩
instance:Coe Nat Addr:=⟨λb=>⟨b,0,none⟩⟩
instance:Coe (Option Addr) Value:=⟨λp=>.pointer p⟩
instance:Coe Unit Value:=⟨λ_=>.slice none 0 0⟩
structure h_ where
 f:FuncId
 pre:Array O
 cap:Array O
inductive cK where
 |int (k:IntKind)|bool|str|ptr|slice|map|agg|fn|any
def cK.T:cK->Type
 | .int _=>Int
 | .bool=>ai
 | .str=>ByteArray
 | .ptr=>al ar
 | .slice=>ag
 | .map=>al Nat
 | .agg=>Array O
 | .fn=>h_
 | .any=>O
def cK.v:(l:cK)->l.T->O
 | .int k,(n:Int)=>.int k n
 | .bool,(b:ai)=>.bool b
 | .str,(s:ByteArray)=>.string s
 | .ptr,(p:al ar)=>.pointer p
 | .slice,(s:ag)=>.slice s.a s.len s.cap
 | .map,(r:al Nat)=>.map r
 | .agg,(cs:Array O)=>.agg cs
 | .fn,(F:h_)=>.func (.func F.f) F.pre F.cap
 | .any,(v:O)=>v
inductive Kd where
 |one (l:cK)
 |flat (ls:Y cK)
def o0(l:cK)(K:O->Prop):Prop:=
 match l with
 | .int k=>∃n:Int,K (.int k n)
 | .bool=>∃b:ai,K (.bool b)
 | .str=>∃s:ByteArray,K (.string s)
 | .ptr=>∃p:al ar,K (.pointer p)
 | .slice=>∃s:ag,K (.slice s.a s.len s.cap)
 | .map=>∃r:al Nat,K (.map r)
 | .agg=>∃cs:Array O,K (.agg cs)
 | .fn=>∃F:h_,K (.func (.func F.f) F.pre F.cap)
 | .any=>∃v:O,K v
def zb:Y cK->(Y O->Prop)->Prop
 | [],K=>K []
 |l::ls,K=>o0 l λv=>zb ls λvs=>K (v::vs)
def zc(k:Kd)(K:O->Prop):Prop:=
 match k with
 | .one l=>o0 l K
 | .flat ls=>zb ls λvs=>K (.agg vs.toArray)
def vc:Y Kd->(Y O->Prop)->Prop
 | [],K=>K []
 |k::a,K=>zc k λv=>vc a λvs=>K (v::vs)
theorem qC{l:cK}{K:O->Prop}(h:o0 l K):∃v,K v:=by
 cases l<;>simp only[o0]at h<;>obtain⟨x,h⟩:=h<;>exact⟨_,h⟩
theorem BH:∀ {ls:Y cK}{K:Y O->Prop},zb ls K->∃vs,K vs
 | [],_,h=>⟨_,h⟩
 |_::_,_,h=>let ⟨_,h⟩:=qC h;let ⟨_,h⟩:=BH h;⟨_,h⟩
theorem BI{k:Kd}{K:O->Prop}(h:zc k K):∃v,K v:=by
 cases k with
 |one l=>exact qC h
 |flat ls=>obtain⟨_,h⟩:=BH h;exact⟨_,h⟩
theorem ze:∀ {ls:Y Kd}{K:Y O->Prop},vc ls K->∃vs,K vs
 | [],_,h=>⟨_,h⟩
 |_::_,_,h=>let ⟨_,h⟩:=BI h;let ⟨_,h⟩:=ze h;⟨_,h⟩
abbrev Env:=Y (Nat×O)
def Env.get:Env->Nat->al O
 | [],_=>none
 |(k,v)::e,s=>bif Nat.beq k s then some v else Env.get e s
def ev(e:Env):Operand->al O
 | .tmp t=>e.get t
 | .const v=>some v
 | .global g=>some (.pointer (some ⟨g,0,none⟩))
 | .func f=>some (.func (.func f) #[] #[])
def ro(e:Env)(x:Operand):O:=(ev e x).getD undef
def known(e:Env)(xs:Array Operand):ai:=xs.toList.all λx=>(ev e x).isSome
structure de(e:Env)(a:Act):Prop where
 get:∀s v,e.get s=some v->a.tmps[s]? =some v
theorem de.ev{e:Env}{a:Act}(h:de e a){x:Operand}{v:O}(hx:ev e x=some v):a.eval x=v:=by
 cases x with
 |tmp t=>
  have:=h.get t v hx;simp[Act.eval,Array.getD_eq_getD_getElem?,this]
 |const c=>simpa[aO.ev,Act.eval] using hx
 |global g=>simpa[aO.ev,Act.eval] using hx
 |func f=>simpa[aO.ev,Act.eval] using hx
theorem de.ro{e:Env}{a:Act}(h:de e a){x:Operand}(hx:(aO.ev e x).isSome=true):a.eval x=ro e x:=by
 obtain⟨v,b⟩:=uZ.1 hx;rw[h.ev b,aO.ro,b];rfl
def c_(d:al Nat)(v:O)(e:Env):Env:=
 match d with
 |some d=>(d,v)::e
 |none=>e
theorem o1(d:Nat)(v:O)(e:Env)(s:Nat):Env.get ((d,v)::e) s=if d=s then some v else e.get s:=by
 simp only[Env.get,cond_eq_ite];by_cases a:d=s
 .subst a;simp
 .have:Nat.beq d s=false:=by
   cases hb:Nat.beq d s
   .rfl
   .exact absurd (iN hb) a
  simp[this,a]
theorem de.put{e:Env}{a:Act}(h:de e a){d:al Nat}{v:O}(hd:∀k,d=some k->k<a.tmps.size):de (c_ d v e) (a.put d v):=by
 cases d with
 |none=>exact h
 |some d=>
  constructor;intro s u hs;rw[c_,o1]at hs;simp only[Act.put];by_cases b:d=s
  .subst b
   simp only[if_true,Option.some.injEq]at hs;subst hs;simp[hd d rfl]
  .rw[if_neg b]at hs
   rw[Array.getElem?_setIfInBounds_ne b];exact h.get s u hs
inductive dI where
 |one (k:Kd)
 |eQ (a:Y Kd)
def iB(r:dI)(K:O->Prop):Prop:=
 match r with
 | .one k=>zc k K
 | .eQ a=>vc a λvs=>K (.tuple vs.toArray)
theorem iO{r:dI}{K:O->Prop}(h:iB r K):∃v,K v:=by
 cases r with
 |one k=>exact BI h
 |eQ a=>obtain⟨_,h⟩:=ze h;exact⟨_,h⟩
def aT(w:I)(A:ar):Nat->Nat->al (Y O)
 |_,0=>some []
 |i,n+1=>match w.cell? (A.add i),aT w A (i+1) n with
  |some v,some vs=>some (v::vs)
  |_,_=>none
def setCells(w:I)(A:ar):Nat->Y O->I
 |_,[]=>w
 |i,v::vs=>setCells (w.setCell (A.add i) v) A (i+1) vs
def Plain:O->Prop
 | .agg _=>False
 | .tuple _=>False
 |_=>True
def bN(w:I)(A:ar)(vs:Y O):Prop:=
 (∀i,i<vs.length->(w.cell? (A.add i)).isSome=true/\w.frozen? (A.add i)=false)/\∀v∈vs,Plain v
def gP:TypeDesc->ai
 | .struct _=>true
 | .array _ _=>true
 |_=>false
def gQ(P:Program)(elem:TypeId)(n:Nat):Array O:=
 let zero:=if n*P.cellsOf elem=0 then #[] else (((P.info? elem).bind (·.zero)).getD undef).cells
 (Array.range (n*P.cellsOf elem)).map (zero[· %zero.size]!)
section
variable {P:Program}{w:I}
theorem cY{t:TypeId}{d:TypeDesc}(h:P.underlying t=some d):(underlying t).run P w=.ok d w:=by
 simp[underlying,program,Sem.run,bind,Sem.bind,h,pure]
theorem nI{t:TypeId}{d:TypeInfo}(h:P.info? t=some d):(typeInfo t).run P w=.ok d w:=by
 simp[typeInfo,program,Sem.run,bind,Sem.bind,h,pure]
theorem info_of_underlying{t:TypeId}{d:TypeDesc}(h:P.underlying t=some d):∃i,P.info? t=some i:=by
 unfold Program.underlying at h
 cases hi:P.info? t with
 |none=>simp[hi]at h
 |some i=>exact⟨i,rfl⟩
theorem hM{t:TypeId}{d:TypeDesc}(h:P.underlying t=some d):(Go.sizeOf t).run P w=.ok (P.cellsOf t) w:=by
 obtain⟨i,hi⟩:=info_of_underlying h;simp[Go.sizeOf,nI hi,Program.cellsOf,hi]
theorem qD{t:TypeId}{d:TypeDesc}(h:P.underlying t=some d):(isAgg t).run P w=.ok (gP d) w:=by
 simp only[isAgg,Sem.run_bind,cY h,Result.andThen]
 cases d<;>rfl
theorem zf{A:ar}{v:O}(h:w.cell? A=some v):(load A).run P w=.ok v w:=by
 simp[load,Sem.run,h]
theorem run_loadCellsFrom{A:ar}:∀ (n i:Nat) (a:Array O) (vs:Y O),aT w A i n=some vs->
 (loadCellsFrom A i n a).run P w=.ok (a++vs.toArray) w
 |0,i,a,vs,h=>by
  simp only[aT,Option.some.injEq]at h
  subst h
  simp[loadCellsFrom]
 |n+1,i,a,vs,h=>by
  simp only[aT]at h
  cases h1:w.cell? (A.add i) with
  |none=>simp[h1]at h
  |some v=>
   cases h2:aT w A (i+1) n with
   |none=>simp[h1,h2]at h
   |some us=>
    simp only[h1,h2,Option.some.injEq]at h
    subst h
    simp only[loadCellsFrom,Sem.run_bind,zf h1,Result.andThen]
    rw[run_loadCellsFrom n (i+1) (a.push v) us h2]
    simp
theorem vd{T:TypeId}{d:TypeDesc}(a:P.underlying T=some d)(hd:gP d=true){A:ar}{vs:Y O}(h:aT w A 0 (P.cellsOf T)=some vs):
 (loadVar T A).run P w=.ok (.agg vs.toArray) w:=by
 simp only[loadVar,Sem.run_bind,qD a,Result.andThen,hd,if_true,hM a,loadCells,run_loadCellsFrom _ _ _ _ h];simp
theorem BJ{T:TypeId}{d:TypeDesc}(a:P.underlying T=some d)(hd:gP d=false){A:ar}{v:O}(h:w.cell? A=some v):
 (loadVar T A).run P w=.ok v w:=by
 simp only[loadVar,Sem.run_bind,qD a,Result.andThen,hd,fW,if_false,zf h]
theorem GI{A:ar}{v u:O}(a:Plain v)(h:w.cell? A=some u)(hf:w.frozen? A=false):(store A v).run P w=.ok () (w.setCell A v):=by
 cases v<;>simp_all [store,Sem.run,Plain]
theorem GJ(w:I)(A B:ar)(v:O):((w.setCell A v).cell? B).isSome=(w.cell? B).isSome:=by
 simp only[World.setCell,World.cell?,u0];by_cases hb:A.block=B.block
 .simp only[hb,if_true]
  cases w.heap[B.block]? with
  |none=>rfl
  |some o=>
   cases o<;>simp
   by_cases hs:B.spot.isSome<;>simp[hs]
   by_cases a:A.spot.isSome<;>simp[a]
   rw[eX];simp
 .simp[hb]
theorem GK(w:I)(A B:ar)(v:O):(w.setCell A v).frozen? B=w.frozen? B:=by
 simp only[World.setCell,World.frozen?,u0];by_cases hb:A.block=B.block
 .simp only[hb,if_true]
  cases w.heap[B.block]? with
  |none=>rfl
  |some o=>cases o<;>rfl
 .simp[hb]
theorem s3{A:ar}:∀ (vs:Y O) (i:Nat) (w:I),(∀j,j<vs.length->(w.cell? (A.add (i+j))).isSome=true/\w.frozen? (A.add (i+j))=false)->(∀v∈vs,Plain v)->
 (storeCells A vs i).run P w=.ok () (setCells w A i vs)
 | [],i,w,_,_=>rfl
 |v::vs,i,w,h,a=>by
  have h0:=h 0 (by simp)
  simp only[kV]at h0
  obtain⟨u,hu⟩:=uZ.1 h0.1
  simp only[storeCells,Sem.run_bind,GI (P:=P) (a v (by simp)) hu h0.2,Result.andThen,setCells]
  refine s3 vs (i+1) (w.setCell (A.add i) v) (λj b=>?_) (λx hx=>a x (by simp[hx]))
  have:=h (j+1) (by simp;omega)
  rw[GJ,GK,show i+1+j=i+(j+1) from J]
  exact this
theorem BK{T:TypeId}{d:TypeDesc}(a:P.underlying T=some d){A:ar}{v:O}(hs:v.cells.size=P.cellsOf T)(h:bN w A v.cells.toList):
 (storeVar T A v).run P w=.ok () (setCells w A 0 v.cells.toList):=by
 simp only[storeVar,Sem.run_bind,hM a,Result.andThen,hs,ne_eq,not_true,if_false];simpa using s3 v.cells.toList 0 w (by simpa using h.1) h.2
end
def zg:Y cK->ar->Nat->I->(Y O->Prop)->Prop
 | [],_,_,_,K=>K []
 |l::ls,A,i,w,K=>o0 l λv=>w.cell? (A.add i)=some v/\zg ls A (i+1) w λvs=>K (v::vs)
def qE(P:Program)(tk:TypeId->dI)(T:TypeId)(A:ar)(w:I)(K:O->Prop):Prop:=
 match P.underlying T with
 |none=>False
 |some d=>
  bif gP d then
   match tk T with
   | .one (.flat ls)=>bif Nat.beq (P.cellsOf T) ls.length then zg ls A 0 w λvs=>K (.agg vs.toArray) else False
   |_=>∃cs:Y O,aT w A 0 (P.cellsOf T)=some cs/\K (.agg cs.toArray)
  else
   match tk T with
   | .one (.one l)=>o0 l λv=>w.cell? A=some v/\K v
   |_=>False
def zh(P:Program)(tk:TypeId->dI)(T:TypeId)(A:ar)(x:O)(w:I)(K:I->Prop):Prop:=
 match P.underlying T with
 |none=>False
 |some d=>
  bif gP d then
   match x with
   | .agg cs=>bN w A cs.toList/\cs.size=P.cellsOf T/\K (setCells w A 0 cs.toList)
   |_=>False
  else bif Nat.beq (P.cellsOf T) 1 then
   match tk T with
   | .one (.one .any)=>Plain x/\(∃u,w.cell? A=some u)/\w.frozen? A=false/\K (w.setCell A x)
   |_=>match x with
    | .agg _=>False
    | .tuple _=>False
    |_=>(∃u,w.cell? A=some u)/\w.frozen? A=false/\K (w.setCell A x)
  else False
def jz(P:Program)(T:TypeId)(xs ys:Array O)(b:ai):Prop:=
 P.eqGuardType P.depth T=false/\∀w,(Op.equal T (.agg xs) (.agg ys)).run P w=.ok b w
def o2:O->al ai
 | .nilIface=>some true
 | .iface _ _=>some false
 |_=>none
def o3:al TypeDesc->ai
 |some (.interface _)=>true
 |_=>false
def mJ:al TypeDesc->ai
 |some (.pointer _)=>true
 |_=>false
def nJ:al TypeDesc->ai
 |some (.slice _)=>true
 |_=>false
def qF:al TypeDesc->ai
 |some (.map _ _)=>true
 |_=>false
def ko:IntKind->IntKind->ai:=λa b=>decide (a=b)
def ve(P:Program)(op:BinOp)(T:TypeId)(x y:O)(K:O->Prop)(G:Prop):Prop:=
 match y with
 | .nilIface=>bif o3 (P.underlying T) then
  match op with
  | .eql=>∃b,o2 x=some b/\K (.bool b)
  | .neq=>∃b,o2 x=some b/\K (.bool (!b))
  |_=>False
  else False
 | .pointer none=>bif mJ (P.underlying T) then
  match op,x with
  | .eql,.pointer p=>K (.bool p.isNone)
  | .neq,.pointer p=>K (.bool (!p.isNone))
  |_,_=>False
  else False
 | .slice none _ _=>bif nJ (P.underlying T) then
  match op,x with
  | .eql,.slice a _ _=>K (.bool a.isNone)
  | .neq,.slice a _ _=>K (.bool (!a.isNone))
  |_,_=>False
  else False
 | .map none=>bif qF (P.underlying T) then
  match op,x with
  | .eql,.map r=>K (.bool r.isNone)
  | .neq,.map r=>K (.bool (!r.isNone))
  |_,_=>False
  else False
 | .agg ys=>
  match op,x with
  | .eql,.agg xs=>∃b,jz P T xs ys b/\K (.bool b)
  | .neq,.agg xs=>∃b,jz P T xs ys b/\K (.bool (!b))
  |_,_=>False
 | .int c b=>
  match op,x with
  | .quo,.int k a=>bif ko k c then b≠0/\K (.int k (k.wrap (a.tdiv b))) else False
  | .rem,.int k a=>bif ko k c then b≠0/\K (.int k (a.tmod b)) else False
  | .shl,.int k a=>0<=b/\K (.int k (k.wrap (a*2^(min b.toNat k.bits))))
  | .shr,.int k a=>0<=b/\K (.int k (a.fdiv (2^(min b.toNat k.bits))))
  |_,_=>G
 | .bool b=>match P.underlying T with
  |some .bool=>match op,x with
   | .eql,.bool a=>K (.bool (a==b))
   | .neq,.bool a=>K (.bool (!(a==b)))
   |_,_=>False
  |_=>False
 | .string b=>
  match op,x with
  | .add,.string a=>((a.size+b.size:Nat):Int)<=9223372036854775807/\K (.string (a++b))
  |_,_=>G
 |_=>G
section
variable {P:Program}
theorem qG(T:TypeId)(x y:O):Op.equal T x y=Op.equalIn (9999+1) T x y:=rfl
theorem GL(d:Nat){T:TypeId}{x:O}{b:ai}(a:o3 (P.underlying T)=true)(h:o2 x=some b)(w:I):
 (Op.equalIn (d+1) T x .nilIface).run P w=.ok b w:=by
 cases hu:P.underlying T with
 |none=>simp[hu,o3]at a
 |some d=>
  cases d<;>simp only[hu,o3,fW]at a
  simp only[Op.equalIn,Sem.run_bind,cY hu,Result.andThen]
  cases x<;>simp only[o2,reduceCtorEq,Option.some.injEq]at h<;>subst h<;>rfl
theorem GM(d:Nat){T:TypeId}{p:al ar}(a:mJ (P.underlying T)=true)(w:I):
 (Op.equalIn (d+1) T (.pointer p) (.pointer none)).run P w=.ok p.isNone w:=by
 cases hu:P.underlying T with
 |none=>simp[hu,mJ]at a
 |some d=>
  cases d<;>simp only[hu,mJ,fW]at a
  simp only[Op.equalIn,Sem.run_bind,cY hu,Result.andThen]
  cases p<;>rfl
theorem GN(d:Nat){T:TypeId}{a:al ar}{l c e c':Nat}(b:nJ (P.underlying T)=true)(w:I):
 (Op.equalIn (d+1) T (.slice a l c) (.slice none e c')).run P w=.ok a.isNone w:=by
 cases hu:P.underlying T with
 |none=>simp[hu,nJ]at b
 |some d=>
  cases d<;>simp only[hu,nJ,fW]at b
  simp only[Op.equalIn,Sem.run_bind,cY hu,Result.andThen]
  cases a<;>rfl
theorem GO(d:Nat){T:TypeId}{r:al Nat}(a:qF (P.underlying T)=true)(w:I):
 (Op.equalIn (d+1) T (.map r) (.map none)).run P w=.ok r.isNone w:=by
 cases hu:P.underlying T with
 |none=>simp[hu,qF]at a
 |some d=>
  cases d<;>simp only[hu,qF,fW]at a
  simp only[Op.equalIn,Sem.run_bind,cY hu,Result.andThen]
  cases r<;>rfl
theorem BL{T:TypeId}{x:O}{b:ai}(a:o3 (P.underlying T)=true)(h:o2 x=some b)(w:I):
 (Op.equal T x .nilIface).run P w=.ok b w:=by rw[qG];exact GL _ a h w
theorem vf{T:TypeId}{p:al ar}(a:mJ (P.underlying T)=true)(w:I):
 (Op.equal T (.pointer p) (.pointer none)).run P w=.ok p.isNone w:=by rw[qG];exact GM _ a w
theorem vg{T:TypeId}{a:al ar}{l c b c':Nat}(d:nJ (P.underlying T)=true)(w:I):
 (Op.equal T (.slice a l c) (.slice none b c')).run P w=.ok a.isNone w:=by rw[qG];exact GN _ d w
theorem BM{T:TypeId}{r:al Nat}(a:qF (P.underlying T)=true)(w:I):
 (Op.equal T (.map r) (.map none)).run P w=.ok r.isNone w:=by rw[qG];exact GO _ a w
theorem BN{T:TypeId}{xs ys:Array O}(h:P.eqGuardType P.depth T=false)(op:BinOp)(x y:Operand)(w:I):
 (eqGuard op T x y (.agg xs) (.agg ys)).run P w=.ok () w:=by
 cases op<;>simp[eqGuard,program,Sem.run,bind,Sem.bind,h,pure]
theorem BO{T:TypeId}{a b:ai}(c:P.underlying T=some .bool)(w:I):(Op.equal T (.bool a) (.bool b)).run P w=.ok (a==b) w:=by
 have aP:∀ (d:Nat) (w:I),(Op.equalIn (d+1) T (.bool a) (.bool b)).run P w=.ok (a==b) w:=by
  intro d w;simp[Op.equalIn,cY c]
 rw[qG];exact aP _ w
theorem BP{op:BinOp}{T:TypeId}{x y:O}{s4 qH:Operand}{K:O->Prop}{G:Prop}
 (i:y=.nilIface->∃c,qH=.const c)
 (h:ve P op T x y K G):
 G\/∃v,(∀w,(do eqGuard op T s4 qH x y;binOp op T x y:Sem O).run P w=.ok v w)/\K v:=by
 unfold ve at h;split at h
 case h_1=>
  obtain⟨c,hc⟩:=i rfl;by_cases d:o3 (P.underlying T)=true
  .rw[d]at h
   simp only[cond_true]at h;split at h
   .obtain⟨b,hb,e⟩:=h
    refine .inr ⟨_,λw=>?_,e⟩;have:=BL (P:=P) d hb w
    cases x<;>simp only[o2,reduceCtorEq,Option.some.injEq]at hb<;>subst hc hb<;>simp[eqGuard,binOp,this]
   .obtain⟨b,hb,e⟩:=h
    refine .inr ⟨_,λw=>?_,e⟩;have:=BL (P:=P) d hb w
    cases x<;>simp only[o2,reduceCtorEq,Option.some.injEq]at hb<;>subst hc hb<;>simp[eqGuard,binOp,this]
   .exact h.elim
  .simp only[fI]at d;rw[d]at h;exact h.elim
 case h_2=>
  by_cases d:mJ (P.underlying T)=true
  .rw[d]at h
   simp only[cond_true]at h;split at h
   .exact .inr ⟨_,λw=>by simp[eqGuard,binOp,vf (P:=P) d],h⟩
   .exact .inr ⟨_,λw=>by simp[eqGuard,binOp,vf (P:=P) d],h⟩
   .exact h.elim
  .simp only[fI]at d;rw[d]at h;exact h.elim
 case h_3=>
  by_cases d:nJ (P.underlying T)=true
  .rw[d]at h
   simp only[cond_true]at h;split at h
   .exact .inr ⟨_,λw=>by simp[eqGuard,binOp,vg (P:=P) d],h⟩
   .exact .inr ⟨_,λw=>by simp[eqGuard,binOp,vg (P:=P) d],h⟩
   .exact h.elim
  .simp only[fI]at d;rw[d]at h;exact h.elim
 case h_4=>
  by_cases d:qF (P.underlying T)=true
  .rw[d]at h
   simp only[cond_true]at h;split at h
   .exact .inr ⟨_,λw=>by simp[eqGuard,binOp,BM (P:=P) d],h⟩
   .exact .inr ⟨_,λw=>by simp[eqGuard,binOp,BM (P:=P) d],h⟩
   .exact h.elim
  .simp only[fI]at d;rw[d]at h;exact h.elim
 case h_5=>
  split at h
  .obtain⟨b,⟨h1,h2⟩,e⟩:=h
   exact .inr ⟨_,λw=>by simp[BN h1,binOp,h2],e⟩
  .obtain⟨b,⟨h1,h2⟩,e⟩:=h
   exact .inr ⟨_,λw=>by simp[BN h1,binOp,h2],e⟩
  .exact h.elim
 case h_6 g b=>
  split at h
  .rename_i k a
   by_cases f:k=g
   .subst f
    simp only[ko,decide_true,cond_true]at h;exact .inr ⟨_,λw=>by simp[eqGuard,binOp,Op.intDiv,h.1],h.2⟩
   .simp[ko,f]at h
  .rename_i k a
   by_cases f:k=g
   .subst f
    simp only[ko,decide_true,cond_true]at h;exact .inr ⟨_,λw=>by simp[eqGuard,binOp,Op.intDiv,h.1],h.2⟩
   .simp[ko,f]at h
  .exact .inr ⟨_,λw=>by simp[eqGuard,binOp,Op.shift,show¬b<0 from J],h.2⟩
  .exact .inr ⟨_,λw=>by simp[eqGuard,binOp,Op.shift,show¬b<0 from J],h.2⟩
  .exact .inl h
 case h_7 b=>
  split at h
  .rename_i d
   split at h
   .exact .inr ⟨_,λw=>by simp[eqGuard,binOp,BO d],h⟩
   .exact .inr ⟨_,λw=>by simp[eqGuard,binOp,BO d],h⟩
   .exact h.elim
  .exact h.elim
 case h_8 b=>
  split at h
  .rename_i a
   refine .inr ⟨_,λw=>?_,h.2⟩;have h1:=h.1;simp[eqGuard,binOp,Op.stringOp,IntKind.max,IntKind.signed,IntKind.bits];omega
  .exact .inl h
 case h_9=>exact .inl h
end
def vh(P:Program)(T:TypeId)(x:O)(K:O->Prop):Prop:=
 match P.underlying T with
 |some (.array n _)=>match x with
  | .slice a len _=>n<=len/\∃A,a=some A/\K (.pointer (some A))
  |_=>False
 |_=>False
def vi(P:Program)(T:TypeId)(x i:O)(K:O->Prop):Prop:=
 match i with
 | .int _ n=>
  match P.underlying T with
  |some (.slice elem)=>bif (P.underlying elem).isSome then
   match x with
   | .slice a len _=>∃A,a=some A/\(0<=n/\n<(len:Int))/\K (.pointer (some (A.add (n.toNat*P.cellsOf elem))))
   |_=>False
   else False
  |some (.array len elem)=>bif (P.underlying elem).isSome then
   match x with
   | .pointer (some A)=>(0<=n/\n<(len:Int))/\K (.pointer (some (A.add (n.toNat*P.cellsOf elem))))
   |_=>False
   else False
  |_=>False
 |_=>False
def s5(P:Program)(tk:TypeId->dI)(T:TypeId)(cs:Array O)(off:Nat)(K:O->Prop):Prop:=
 match P.underlying T with
 |none=>False
 |some d=>
  bif gP d then K (.agg (cs.extract off (off+P.cellsOf T)))
  else match tk T with
   | .one (.one l)=>o0 l λv=>cs[off]? =some v/\K v
   |_=>False
def vj(P:Program)(tk:TypeId->dI)(T:TypeId)(x i:O)(K:O->Prop):Prop:=
 match i with
 | .int _ n=>
  match P.underlying T with
  |some (.array len elem)=>match x with
   | .agg cs=>(0<=n/\n<(len:Int))/\s5 P tk elem cs (n.toNat*P.cellsOf elem) K
   |_=>False
  |some .string=>match x with
   | .string s=>0<=n/\∃b:UInt8,s.data.toList[n.toNat]? =some b/\K (.int .u8 b.toNat)
   |_=>False
  |_=>False
 |_=>False
def vk(P:Program)(tk:TypeId->dI)(T:TypeId)(x:O)(i:Nat)(K:O->Prop):Prop:=
 match P.underlying T with
 |some (.struct fs)=>match fs[i]? with
  |some f=>match x with
   | .agg cs=>s5 P tk f.type cs f.offset K
   |_=>False
  |none=>False
 |_=>False
def lD(v:al O)(y d:Nat)(K:Nat->Prop):Prop:=
 match v with
 |none=>K d
 |some (.int _ i)=>(0<=i/\i<=(y:Int))/\K i.toNat
 |_=>False
def bw(a:al ar)(sz l m:Nat):al ar:=if m=l then a else a.map (·.add (l*sz))
def vl(P:Program)(T:TypeId)(x:O)(lo hi b:al O)(K:O->Prop):Prop:=
 match P.underlying T with
 |some .string=>match b,x with
  |none,.string s=>lD hi s.size s.size λh=>lD lo h 0 λl=>K (.string (s.extract l h))
  |_,_=>False
 |some (.slice elem)=>bif (P.underlying elem).isSome then
  match x with
  | .slice a len cap=>match b with
   |none=>lD hi cap len λh=>lD lo h 0 λl=>K (.slice (bw a (P.cellsOf elem) l cap) (h-l) (cap-l))
   |some c=>match hi with
    |none=>False
    |some d=>lD (some c) cap 0 λm=>lD (some d) m 0 λh=>lD lo h 0 λl=>K (.slice (bw a (P.cellsOf elem) l m) (h-l) (m-l))
  |_=>False
  else False
 |some (.array n elem)=>bif (P.underlying elem).isSome then
  match b,x with
  |none,.pointer (some A)=>lD hi n n λh=>lD lo h 0 λl=>K (.slice (bw (some A) (P.cellsOf elem) l n) (h-l) (n-l))
  |_,_=>False
  else False
 |_=>False
def zi(P:Program)(T:TypeId)(l c:O)(w:I)(K:O->I->Prop):Prop:=
 match P.underlying T with
 |some (.slice elem)=>bif (P.underlying elem).isSome then
  bif ((P.info? elem).bind (·.zero)).isSome then
  match l,c with
  | .int _ n,.int _ m=>(0<=n/\n<=m/\m<=9223372036854775807/\(P.bytesOf elem:Int)*m<=140737488355328)/\
   K (.slice (some ⟨w.heap.size,0,none⟩) n.toNat m.toNat) {w with heap:=w.heap.push (.cells (gQ P elem m.toNat) elem)}
  |_,_=>False
  else False
  else False
 |_=>False
section
variable {P:Program}{w:I}
theorem kp(o:al TypeDesc)(h:o.isSome=true):∃d,o=some d:=uZ.1 h
theorem BQ{T:TypeId}{x:O}{K:O->Prop}(h:vh P T x K):∃v,(∀w,(Instr.arrayAt T x).run P w=.ok v w)/\K v:=by
 unfold vh at h;split at h
 .rename_i n e b
  split at h
  .rename_i a len cap
   obtain⟨h1,A,rfl,c⟩:=h;exact⟨_,λw=>by simp[Instr.arrayAt,cY b,Nat.not_lt.2 h1],c⟩
  .exact h.elim
 .exact h.elim
theorem BR{T:TypeId}{x i:O}{K:O->Prop}(h:vi P T x i K):∃v,(∀w,(Instr.indexAt T x i).run P w=.ok v w)/\K v:=by
 unfold vi at h;split at h
 .rename_i k n
  split at h
  .rename_i elem a
   by_cases he:(P.underlying elem).isSome=true
   .rw[he]at h
    simp only[cond_true]at h;split at h
    .obtain⟨A,rfl,hb,b⟩:=h
     obtain⟨d,hd⟩:=kp _ he;exact⟨_,λw=>by simp[Instr.indexAt,asIntOf,cY a,hb,hM hd],b⟩
    .exact h.elim
   .simp only[fI]at he;rw[he]at h;exact h.elim
  .rename_i len elem a
   by_cases he:(P.underlying elem).isSome=true
   .rw[he]at h
    simp only[cond_true]at h;split at h
    .obtain⟨hb,b⟩:=h
     obtain⟨d,hd⟩:=kp _ he;exact⟨_,λw=>by simp[Instr.indexAt,asIntOf,Instr.sureAddr,cY a,hb,hM hd],b⟩
    .exact h.elim
   .simp only[fI]at he;rw[he]at h;exact h.elim
  .exact h.elim
 .exact h.elim
theorem BS{tk:TypeId->dI}{T:TypeId}{cs:Array O}{off:Nat}{K:O->Prop}(h:s5 P tk T cs off K):∃v,(∀w,(part T cs off).run P w=.ok v w)/\K v:=by
 unfold s5 at h;split at h
 .exact h.elim
 .rename_i d a
  cases hd:gP d with
  |true=>
   rw[hd]at h;exact⟨_,λw=>by simp[part,qD a,hd,hM a],h⟩
  |false=>
   rw[hd]at h;simp only[cond_false]at h;split at h
   .obtain⟨v,b,c⟩:=qC h
    exact⟨v,λw=>by simp[part,qD a,hd,b],c⟩
   .exact h.elim
theorem BT{tk:TypeId->dI}{T:TypeId}{x i:O}{K:O->Prop}(h:vj P tk T x i K):∃v,(∀w,(Instr.index T x i).run P w=.ok v w)/\K v:=by
 unfold vj at h;split at h
 .rename_i k n
  split at h
  .rename_i len elem a
   split at h
   .obtain⟨hb,h⟩:=h
    obtain⟨v,e,c⟩:=BS h;refine⟨v,λw=>?_,c⟩;have hs:(Go.sizeOf elem).run P w=.ok (P.cellsOf elem) w:=by
     unfold s5 at h
     cases he:P.underlying elem with
     |none=>simp[he]at h
     |some d=>exact hM he
    simp[Instr.index,asIntOf,cY a,hb,hs,e]
   .exact h.elim
  .rename_i a
   split at h
   .rename_i s
    obtain⟨hb,b,hs,c⟩:=h;have f:s[n.toNat]? =some b:=by
     obtain⟨h1,h2⟩:=qp.1 hs;have g:n.toNat<s.size:=by simpa using h1
     rw[getElem?_pos s n.toNat g];simp only[Option.some.injEq];rw[←h2];rfl
    exact⟨_,λw=>by simp[Instr.index,asIntOf,cY a,hb,f],c⟩
   .exact h.elim
  .exact h.elim
 .exact h.elim
theorem BU{tk:TypeId->dI}{T:TypeId}{x:O}{i:Nat}{K:O->Prop}(h:vk P tk T x i K):∃v,(∀w,(Instr.field T x i).run P w=.ok v w)/\K v:=by
 unfold vk at h;split at h
 .rename_i fs a
  split at h
  .rename_i f hf
   split at h
   .obtain⟨v,b,c⟩:=BS h
    exact⟨v,λw=>by simp[Instr.field,cY a,hf,asAgg,b],c⟩
   .exact h.elim
  .exact h.elim
 .exact h.elim
theorem k1{v:al O}{y d:Nat}{c:BoundsCode}{K:Nat->Prop}(h:lD v y d K):
 (v=none/\K d)\/∃u n,v=some u/\(∀w,(Instr.sliceBound u y c).run P w=.ok n w)/\K n:=by
 unfold lD at h;split at h
 .exact .inl ⟨rfl,h⟩
 .exact .inr ⟨_,_,rfl,λw=>by simp[Instr.sliceBound,asIntOf,h.1],h.2⟩
 .exact h.elim
theorem BV{T:TypeId}{x:O}{lo hi l:al O}{K:O->Prop}(h:vl P T x lo hi l K):
 ∃v,(∀w,(Instr.sliceAt T x lo hi l).run P w=.ok v w)/\K v:=by
 unfold vl at h;split at h
 .rename_i b
  split at h
  .rename_i s
   rcases k1 (P:=P) (c:=.sliceAlen) h with ⟨aP,h1⟩|⟨u,n,aP,f,h1⟩
   .rcases k1 (P:=P) (c:=.sliceB) h1 with ⟨aU,h2⟩|⟨j,bF,aU,e,h2⟩
    .exact⟨_,λw=>by simp[Instr.sliceAt,Instr.slice,cY b,Instr.sliceBounds,aP,aU],h2⟩
    .exact⟨_,λw=>by simp[Instr.sliceAt,Instr.slice,cY b,Instr.sliceBounds,aP,aU,e],h2⟩
   .rcases k1 (P:=P) (c:=.sliceB) h1 with ⟨aU,h2⟩|⟨j,bF,aU,e,h2⟩
    .exact⟨_,λw=>by simp[Instr.sliceAt,Instr.slice,cY b,Instr.sliceBounds,aP,aU,f],h2⟩
    .exact⟨_,λw=>by simp[Instr.sliceAt,Instr.slice,cY b,Instr.sliceBounds,aP,aU,f,e],h2⟩
  .exact h.elim
 .rename_i elem b
  by_cases he:(P.underlying elem).isSome=true
  .rw[he]at h
   simp only[cond_true]at h;obtain⟨d,hd⟩:=kp _ he;have g:=λw:I=>hM (w:=w) hd;split at h
   .rename_i a len cap
    split at h
    .rcases k1 (P:=P) (c:=.sliceAcap) h with ⟨aP,h1⟩|⟨u,n,aP,f,h1⟩
     .rcases k1 (P:=P) (c:=.sliceB) h1 with ⟨aU,h2⟩|⟨j,bF,aU,e,h2⟩
      .exact⟨_,λw=>by simp[Instr.sliceAt,Instr.slice,cY b,Instr.sliceBounds,g,bw,aP,aU],h2⟩
      .exact⟨_,λw=>by simp[Instr.sliceAt,Instr.slice,cY b,Instr.sliceBounds,e,g,bw,aP,aU],h2⟩
     .rcases k1 (P:=P) (c:=.sliceB) h1 with ⟨aU,h2⟩|⟨j,bF,aU,e,h2⟩
      .exact⟨_,λw=>by simp[Instr.sliceAt,Instr.slice,cY b,Instr.sliceBounds,f,g,bw,aP,aU],h2⟩
      .exact⟨_,λw=>by simp[Instr.sliceAt,Instr.slice,cY b,Instr.sliceBounds,f,e,g,bw,aP,aU],h2⟩
    .split at h
     .exact h.elim
     .rcases k1 (P:=P) (c:=.slice3Acap) h with ⟨i,h1⟩|⟨u,n,i,f,h1⟩
      .cases i
      .cases i
       rcases k1 (P:=P) (c:=.slice3B) h1 with ⟨i,h2⟩|⟨o,dN,i,m,h2⟩
       .cases i
       .cases i
        rcases k1 (P:=P) (c:=.slice3C) h2 with ⟨aU,k⟩|⟨j,bF,aU,e,k⟩
        .exact⟨_,λw=>by simp[Instr.sliceAt,Instr.slice,cY b,Instr.sliceBounds,f,m,g,bw,aU],k⟩
        .exact⟨_,λw=>by simp[Instr.sliceAt,Instr.slice,cY b,Instr.sliceBounds,f,m,e,g,bw,aU],k⟩
   .exact h.elim
  .simp only[fI]at he;rw[he]at h;exact h.elim
 .rename_i n elem b
  by_cases he:(P.underlying elem).isSome=true
  .rw[he]at h
   simp only[cond_true]at h;obtain⟨d,hd⟩:=kp _ he;have g:=λw:I=>hM (w:=w) hd;split at h
   .rename_i A
    rcases k1 (P:=P) (c:=.sliceAlen) h with ⟨aP,h1⟩|⟨u,dN,aP,f,h1⟩
    .rcases k1 (P:=P) (c:=.sliceB) h1 with ⟨aU,h2⟩|⟨j,bF,aU,e,h2⟩
     .refine⟨_,λw=>?_,h2⟩
      simp[Instr.sliceAt,cY b,Instr.sureAddr,Instr.sliceBounds,g,bw,aP,aU];try (split<;>rfl)
     .refine⟨_,λw=>?_,h2⟩
      simp[Instr.sliceAt,cY b,Instr.sureAddr,Instr.sliceBounds,e,g,bw,aP,aU];try (split<;>rfl)
    .rcases k1 (P:=P) (c:=.sliceB) h1 with ⟨aU,h2⟩|⟨j,bF,aU,e,h2⟩
     .refine⟨_,λw=>?_,h2⟩
      simp[Instr.sliceAt,cY b,Instr.sureAddr,Instr.sliceBounds,f,g,bw,aP,aU];try (split<;>rfl)
     .refine⟨_,λw=>?_,h2⟩
      simp[Instr.sliceAt,cY b,Instr.sureAddr,Instr.sliceBounds,f,e,g,bw,aP,aU];try (split<;>rfl)
   .exact h.elim
  .simp only[fI]at he;rw[he]at h;exact h.elim
 .exact h.elim
theorem zj{n:Int}(h0:0<=n)(h1:n<=9223372036854775807):IntKind.i64.wrap n=n:=by
 have e:n%18446744073709551616=n:=Int.emod_eq_of_lt h0 J;simp[IntKind.wrap,IntKind.signed,IntKind.bits,e];omega
theorem GP{T:TypeId}{l c:O}{K:O->I->Prop}(h:zi P T l c w K):
 ∃v w',(Instr.makeSlice T l c).run P w=.ok v w'/\K v w':=by
 unfold zi at h;split at h
 .rename_i elem e
  by_cases he:(P.underlying elem).isSome=true
  .rw[he]at h
   simp only[cond_true]at h;by_cases a:((P.info? elem).bind (·.zero)).isSome=true
   .rw[a]at h
    simp only[cond_true]at h;split at h
    .rename_i k n p m
     obtain⟨⟨h0,h1,h2,f⟩,g⟩:=h;obtain⟨d,hd⟩:=kp _ he;obtain⟨i,hi⟩:=info_of_underlying hd;obtain⟨z,b⟩:=uZ.1 a;simp only[hi,Option.bind_some]at b;have hb:P.bytesOf elem=i.bytes:=by simp[Program.bytesOf,hi]
     have hc:P.cellsOf elem=i.size:=by simp[Program.cellsOf,hi]
     rw[hb]at f;have aP:=zj h0 J;have aU:=zj (n:=m) J h2;refine⟨_,_,?_,g⟩;have j:¬(m<0):=by omega
     have o:¬(281474976710656<(i.bytes:Int)*m):=by omega
     simp[Instr.makeSlice,cY e,asInt,asIntOf,nI hi,aP,aU,j,o,hM hd,show¬n<0 from J,show¬m<n from J];by_cases hs:m.toNat*P.cellsOf elem=0
     .simp[hs,newRow,newObj,Sem.run,gQ]
     .simp[zeroValue,nI hi,b,newRow,newObj,Sem.run,gQ,hs,hi]
    .exact h.elim
   .simp only[fI]at a;rw[a]at h;exact h.elim
  .simp only[fI]at he;rw[he]at h;exact h.elim
 .exact h.elim
end
def ao(w:I)(K:I->Prop):Prop:=K w
def zk(s:ByteArray)(n:Nat):al UInt8:=s.data.toList[n]?
def cellAt(cs:Array O)(n:Nat):al O:=cs[n]?
def eC(k:IntKind)(a b:Int):Int:=k.wrap ((BitVec.ofInt k.bits a&&&BitVec.ofInt k.bits b).toNat:Int)
def k2(k:IntKind)(a b:Int):Int:=k.wrap ((BitVec.ofInt k.bits a|||BitVec.ofInt k.bits b).toNat:Int)
def fv(k:IntKind)(a b:Int):Int:=k.wrap ((BitVec.ofInt k.bits a^^^BitVec.ofInt k.bits b).toNat:Int)
def BW(k:IntKind)(a b:Int):Int:=k.wrap ((BitVec.ofInt k.bits a&&&~~~BitVec.ofInt k.bits b).toNat:Int)
def s6(P:Program)(o:Oper)(K:O->I->Prop)(e:Env)(w:I):Prop:=
 bif known e o.op.operands then
  match (execOp (ro e) o).run P w with
  | .ok (.value v) w'=>ao w' λw1=>K v w1
  |_=>False
 else False
def BX(P:Program)(tk:TypeId->dI)(T:TypeId):dI:=
 match P.underlying T with
 |some (.slice e)=>tk e
 |_=>.one (.one .agg)
def cK.GQ:cK->ai
 | .slice=>true
 |_=>false
def BY:dI->ai
 | .one (.one .agg)=>true
 | .one (.flat ls)=>ls.any cK.GQ
 |_=>false
def gen(P:Program)(tk:TypeId->dI)(o:Oper)(K:O->I->Prop)(e:Env)(w:I):Prop:=
 bif known e o.op.operands then
  match (execOp (ro e) o).run P w with
  | .ok (.value v) w'=>K v w'
  | .ok .skip w'=>K undef w'
  | .ok (.enter f args) w'=>Calls P f args w' λa b=>iB (tk o.type) λv=>a=.returned v/\K v b
  |_=>False
 else False
def iC(P:Program)(f:FuncId):Prop:=∃fn,P.funcs[f]? =some fn/\(fn.name== "runtime.NumGoroutine")=false/\fn.body.isNone=false
theorem BZ{P:Program}{f:FuncId}(h:iC P f)(args:Array O)(w:I):(callFunc f args).run P w=.ok (.enter f args) w:=by
 obtain⟨fn,h1,h2,a⟩:=h;have b:¬fn.name= "runtime.NumGoroutine" :=by simpa using h2
 have c:¬fn.body=none:=by
  intro h;rw[h]at a;cases a
 simp[callFunc,program,Sem.run,bind,Sem.bind,h1,b,c,pure]
def zl:Op->ai
 | .select _ _=>true
 |_=>false
def B0(P:Program)(T:TypeId):Operand->ai
 | .const _=>false
 |_=>o3 (P.underlying T)||mJ (P.underlying T)
def GR(P:Program)(op:BinOp)(T:TypeId)(s4 qH:Operand)(x y:O)(b:ai):Prop:=
 ∀w,Sem.run P (do eqGuard op T s4 qH x y;binOp op T x y:Sem O) w=.ok (.bool b) w
def qI:Operand->O->ai
 | .const _,_=>true
 |_,.nilIface=>false
 |_,_=>true
def j2(P:Program)(tk:TypeId->dI)(o:Oper)(K:O->I->Prop)(e:Env)(w:I):Prop:=
 match o.op with
 | .nilCheck x=>match ev e x with
  |some (.pointer p)=>∃A,p=some A/\K (.pointer (some A)) w
  |_=>False
 | .load T x=>match ev e x with
  |some (.pointer (some A))=>qE P tk T A w λv=>K v w
  |_=>False
 | .store T x y=>match ev e x,ev e y with
  |some (.pointer (some A)),some v=>zh P tk T A v w λw'=>ao w' λw1=>K undef w1
  |_,_=>False
 | .binOp op T x y _=>match ev e x,ev e y with
  |some a,some u=>bif B0 P T y then (∃b:ai,GR P op T x y a u b/\K (.bool b) w) else
   bif qI y u then ve P op T a u (λv=>K v w) (gen P tk o K e w) else False
  |_,_=>False
 | .indexAddr T x i=>match ev e x,ev e i with
  |some a,some g=>vi P T a g λv=>K v w
  |_,_=>False
 | .index T x i=>match ev e x,ev e i with
  |some a,some g=>vj P tk T a g λv=>K v w
  |_,_=>False
 | .field T x i=>match ev e x with
  |some a=>vk P tk T a i λv=>K v w
  |_=>False
 | .alloc _=>s6 P o K e w
 | .box _ _=>s6 P o K e w
 | .buildSlice T n ps=>bif BY (BX P tk T) then
  (bif known e o.op.operands then
    iB (tk o.type) λr=>∃w1,(Instr.buildSlice T n (ps.map λp=>(p.1,ro e p.2))).run P w=.ok r w1/\K r w1
  else False)
  else s6 P o K e w
 | .slice T x lo hi z=>bif known e o.op.operands then
  vl P T (ro e x) (lo.map (ro e)) (hi.map (ro e)) (z.map (ro e)) λv=>K v w
  else False
 | .makeSlice T l c=>match ev e l,ev e c with
  |some o4,some B=>zi P T o4 B w λv w'=>ao w' λw1=>K v w1
  |_,_=>False
 | .convert s d x=>match ev e x with
  |some (.int j n)=>bif (P.underlying s).isSome then
   match P.underlying d with
   |some (.int k)=>K (.int k (k.wrap n)) w
   |_=>iB (tk o.type) λr=>∃w1,(convert s d (.int j n)).run P w=.ok r w1/\K r w1
   else False
  |some v=>iB (tk o.type) λr=>∃w1,(convert s d v).run P w=.ok r w1/\K r w1
  |none=>False
 | .build t ps=>match tk t with
  | .one (.flat _)=>gen P tk o K e w
  |_=>bif known e o.op.operands then
   ∃cs:Array O,(Instr.build t (ps.map λp=>(p.1,ro e p.2))).run P w=.ok (.agg cs) w/\K (.agg cs) w
   else False
 | .lookup T m i ok=>match ev e m,ev e i with
  |some h,some g=>iB (tk o.type) λr=>∃w1,(Instr.lookup T h g ok).run P w=.ok r w1/\K r w1
  |_,_=>False
 | .mapUpdate T m i x=>match ev e m,ev e i,ev e x with
  |some h,some g,some a=>∃w1,(Instr.mapUpdate T h g a).run P w=.ok () w1/\K undef w1
  |_,_,_=>False
 | .makeMap T r=>bif known e o.op.operands then iB (tk o.type) λv=>∃w1,(Instr.makeMap T (r.map (ro e))).run P w=.ok v w1/\K v w1 else False
 | .range T x=>match ev e x with
  |some a=>∃v w1,(Instr.range T a).run P w=.ok v w1/\K v w1
  |_=>False
 | .next it q=>match ev e it with
  |some a=>(bif q then ∃ (n:Int) (c:Int) (w1:I),(Instr.next a q o.type).run P w=.ok (.tuple #[.bool true,.int .i64 n,.int .i32 c]) w1/\K (.tuple #[.bool true,.int .i64 n,.int .i32 c]) w1
   else ∃ (k:O) (v:O) (w1:I),(Instr.next a q o.type).run P w=.ok (.tuple #[.bool true,k,v]) w1/\K (.tuple #[.bool true,k,v]) w1)\/
   (∃w1:I,(Instr.next a q o.type).run P w=.ok (.tuple #[.bool false]) w1/\K (.tuple #[.bool false]) w1)
  |_=>False
 | .call c=>match c.callee with
  | .value (.tmp k)=>match e.get k with
   |some (.func (.func f) pre cap)=>bif known e o.op.operands then
    iC P f/\Calls P f (pre++c.args.map (ro e)++cap) w λC w1=>iB (tk o.type) λv=>C=.returned v/\K v w1
    else False
   |_=>gen P tk o K e w
  | .builtin .append=>bif known e o.op.operands then iB (tk o.type) λr=>∃w1,(Builtin.append_ c.argTypes o.type (c.args.map (ro e))).run P w=.ok r w1/\K r w1 else False
  | .builtin .copy=>bif known e o.op.operands then iB (tk o.type) λr=>∃w1,(Builtin.copy_ c.argTypes o.type (c.args.map (ro e))).run P w=.ok r w1/\K r w1 else False
  | .builtin .min=>bif known e o.op.operands then iB (tk o.type) λr=>∃w1,(Builtin.min_ c.argTypes o.type (c.args.map (ro e))).run P w=.ok r w1/\K r w1 else False
  | .builtin .max=>bif known e o.op.operands then iB (tk o.type) λr=>∃w1,(Builtin.max_ c.argTypes o.type (c.args.map (ro e))).run P w=.ok r w1/\K r w1 else False
  | .builtin .delete=>bif known e o.op.operands then ∃r w1,(Builtin.delete_ c.argTypes o.type (c.args.map (ro e))).run P w=.ok r w1/\K r w1 else False
  | .value (.func f)=>match P.funcs[f]? with
   |some fn=>match fn.body with
    |some _=>gen P tk o K e w
    |none=>bif known e o.op.operands then iB (tk o.type) λr=>∃w1,(callFunc f (c.args.map (ro e))).run P w=.ok (.value r) w1/\K r w1 else False
   |none=>False
  | .builtin .unsafeString=>bif known e o.op.operands then iB (tk o.type) λr=>∃w1,(Builtin.unsafeString_ c.argTypes o.type (c.args.map (ro e))).run P w=.ok r w1/\K r w1 else False
  | .builtin .unsafeSliceData=>bif known e o.op.operands then iB (tk o.type) λr=>∃w1,(Builtin.unsafeSliceData_ c.argTypes o.type (c.args.map (ro e))).run P w=.ok r w1/\K r w1 else False
  | .builtin .clear=>bif known e o.op.operands then ∃r w1,(Builtin.clear_ c.argTypes o.type (c.args.map (ro e))).run P w=.ok r w1/\K r w1 else False
  | .builtin .len=>match ((c.args.map (ro e))[0]? :al O) with
   |some (Value.map _)=>bif known e o.op.operands then iB (tk o.type) λr=>∃w1,(Builtin.len_ c.argTypes o.type (c.args.map (ro e))).run P w=.ok r w1/\K r w1 else False
   |_=>gen P tk o K e w
  |_=>gen P tk o K e w
 | .sliceToArrayPointer T x=>match ev e x with
  |some a=>vh P T a λv=>K v w
  |_=>False
 | .mapEntry T m i=>match ev e m,ev e i with
  |some h,some g=>∃ (v0:O) (st:Int) (w1:I),(Instr.mapEntry T h g).run P w=.ok (.tuple #[v0,.int .i64 st]) w1/\K (.tuple #[v0,.int .i64 st]) w1
  |_,_=>False
 | .entryStore T m s x=>match ev e m,ev e s,ev e x with
  |some h,some vs,some a=>∃w1,(Instr.entryStore T h vs a).run P w=.ok () w1/\K undef w1
  |_,_,_=>False
 | .entry it=>match ev e it with
  |some a=>iB (tk o.type) λv=>∃w1,(Instr.entry a).run P w=.ok v w1/\K v w1
  |_=>False
 | .select _ _=>False
 |_=>gen P tk o K e w
def mK(P:Program)(o:Oper)(a:Act)(w:I)(K:O->I->Prop):Prop:=
 (∃v w',(execOp a.eval o).run P w=.ok (.value v) w'/\K v w')\/
 (∃w',(execOp a.eval o).run P w=.ok .skip w'/\K undef w')\/
 (∃f args w',(execOp a.eval o).run P w=.ok (.enter f args) w'/\Calls P f args w' λb c=>∃v,b=.returned v/\K v c)
theorem mK.wp{P:Program}{o:Oper}{a:Act}{w:I}{K:O->I->Prop}{next:Act->I->Prop}{Q:Exit->Act->I->Prop}
 (h:mK P o a w K) (c:∀v w',K v w'->next (a.put o.dst v) w'):o.wp P a w next Q:=by
 unfold Oper.wp;rcases h with ⟨v,w',h,b⟩|⟨w',h,b⟩|⟨f,args,w',h,hc⟩
 .rw[h];exact c _ _ b
 .rw[h];exact c _ _ b
 .rw[h]
  exact hc.mono λe g ⟨v,d,b⟩=>by subst d;exact c _ _ b
section
variable {P:Program}{tk:TypeId->dI}{o:Oper}{K:O->I->Prop}{e:Env}{a:Act}{w:I}
theorem GS(au:de e a){xs:Array Operand}(h:known e xs=true):∀x∈xs,a.eval x=ro e x:=by
 intro x hx;exact au.ro (ny.1 h x (by simpa using hx))
theorem k3(au:de e a)(hs:zl o.op=false)(h:known e o.op.operands=true):execOp a.eval o=execOp (ro e) o:=
 execOp_congr o (λcs b hc=>by rw[hc]at hs;cases hs) (GS au h)
theorem o5(au:de e a)(hs:zl o.op=false)(h:gen P tk o K e w):mK P o a w K:=by
 unfold gen at h;by_cases c:known e o.op.operands=true
 .rw[c]at h
  simp only[cond_true]at h;have hc:=k3 au hs c;unfold mK;rw[hc];split at h
  .rename_i v w' b
   exact .inl ⟨v,w',b,h⟩
  .rename_i w' b
   exact .inr (.inl ⟨w',b,h⟩)
  .rename_i f args w' b
   refine .inr (.inr ⟨f,args,w',b,h.mono λg i d=>?_⟩);exact iO d
  .exact h.elim
 .simp only[fI]at c
  rw[c]at h;exact h.elim
theorem zm(au:de e a)(hs:zl o.op=false)(h:s6 P o K e w):mK P o a w K:=by
 unfold s6 at h;by_cases b:known e o.op.operands=true
 .rw[b]at h
  simp only[cond_true]at h;have hc:=k3 au hs b;unfold mK;rw[hc];split at h
  .rename_i v w' c
   exact .inl ⟨v,w',c,h⟩
  .exact h.elim
 .simp only[fI]at b
  rw[b]at h;exact h.elim
theorem zn:∀ {ls:Y cK}{A:ar}{i:Nat}{K:Y O->Prop},zg ls A i w K->∃vs,aT w A i ls.length=some vs/\K vs
 | [],_,_,_,h=>⟨[],rfl,h⟩
 |l::ls,A,i,K,h=>by
  obtain⟨v,a,h⟩:=qC h
  obtain⟨vs,b,h⟩:=zn h
  exact⟨v::vs,by simp[aT,a,b],h⟩
theorem B1{T:TypeId}{A:ar}{K:O->Prop}(h:qE P tk T A w K):∃v,(Instr.loadAt T (.pointer (some A))).run P w=.ok v w/\K v:=by
 have aP:(Instr.loadAt T (.pointer (some A))).run P w=(loadVar T A).run P w:=by simp[Instr.loadAt,Instr.sureAddr]
 rw[aP];unfold qE at h;split at h
 .exact h.elim
 .rename_i d a
  cases hd:gP d with
  |true=>
   rw[hd]at h;simp only[cond_true]at h;split at h
   .rename_i ls _
    by_cases hb:Nat.beq (P.cellsOf T) ls.length=true
    .rw[hb]at h
     simp only[cond_true]at h;obtain⟨vs,b,h⟩:=zn h;rw[←iN hb]at b;exact⟨_,vd a hd b,h⟩
    .simp only[fI]at hb;rw[hb]at h;exact h.elim
   .obtain⟨cs,hc,h⟩:=h
    exact⟨_,vd a hd hc,h⟩
  |false=>
   rw[hd]at h;simp only[cond_false]at h;split at h
   .obtain⟨v,c,h⟩:=qC h
    exact⟨v,BJ a hd c,h⟩
   .exact h.elim
theorem zo{v:O}(h:Plain v):v.cells= #[v]:=by cases v<;>first|rfl|exact h.elim
theorem add_zero'(A:ar):A.add 0=A:=rfl
theorem GU{T:TypeId}{A:ar}{x:O}{K:I->Prop}(h:zh P tk T A x w K):
 ∃w',(Instr.storeAt T (.pointer (some A)) x).run P w=.ok () w'/\K w':=by
 have aP:(Instr.storeAt T (.pointer (some A)) x).run P w=(storeVar T A x).run P w:=by simp[Instr.storeAt,Instr.sureAddr]
 rw[aP];unfold zh at h;split at h
 .exact h.elim
 .rename_i d b
  cases hd:gP d with
  |true=>
   rw[hd]at h;simp only[cond_true]at h;split at h
   .rename_i cs
    exact⟨_,BK (v:=.agg cs) b h.2.1 h.1,h.2.2⟩
   .exact h.elim
  |false=>
   rw[hd]at h;simp only[cond_false]at h;have one:∀ (a:Plain x) (hb:Nat.beq (P.cellsOf T) 1=true),((∃u,w.cell? A=some u)/\w.frozen? A=false/\K (w.setCell A x))->∃w',(storeVar T A x).run P w=.ok () w'/\K w':=by
    intro a hb ⟨⟨u,hu⟩,hf,e⟩;refine⟨_,BK (v:=x) b ?_ ?_,?_⟩
    .rw[zo a,iN hb];rfl
    .rw[zo a]
     refine⟨λi hi=>?_,λv f=>?_⟩
     .have:i=0:=by simpa using hi
      subst this;rw[add_zero',hu];exact⟨rfl,hf⟩
     .have:v=x:=by simpa using f
      subst this;exact a
    .rw[zo a]
     exact e
   by_cases hb:Nat.beq (P.cellsOf T) 1=true
   .have c:=hb
    rw[hb]at h;simp only[cond_true]at h;split at h
    .exact one h.1 c h.2
    .split at h
     .exact h.elim
     .exact h.elim
     .rename_i h1 h2
      refine one ?_ c h
      cases x<;>first|exact trivial|(exact absurd rfl (h1 _))|(exact absurd rfl (h2 _))
   .simp only[fI]at hb;rw[hb]at h;exact h.elim
theorem vm(au:de e a)(h:j2 P tk o K e w):mK P o a w K:=by
 unfold j2 at h;split at h
 case h_1 x j=>
  split at h
  .rename_i p hx
   obtain⟨A,rfl,g⟩:=h;exact .inl ⟨_,_,by simp[execOp,j,au.ev hx],g⟩
  .exact h.elim
 case h_2 T x j=>
  split at h
  .rename_i A hx
   obtain⟨v,z,g⟩:=B1 h;exact .inl ⟨v,w,by simp[execOp,j,au.ev hx,z],g⟩
  .exact h.elim
 case h_3 T x y j=>
  split at h
  .rename_i A v hx F
   obtain⟨w',S,g⟩:=GU h;exact .inr (.inl ⟨w',by simp[execOp,j,au.ev hx,au.ev F,S],g⟩)
  .exact h.elim
 case h_4 op T x y aa j=>
  split at h
  .rename_i C Q hx F
   by_cases L:B0 P T y=true
   .rw[L]at h
    simp only[cond_true]at h;obtain⟨b,hb,g⟩:=h;exact .inl ⟨_,w,by
     simp only[execOp,j,au.ev hx,au.ev F];have E:=hb w;simp only[Sem.run_bind]at E⊢;rw[E];rfl,g⟩
   simp only[fI]at L;rw[L]at h;simp only[cond_false]at h;by_cases G:qI y Q=true
   .rw[G]at h
    simp only[cond_true]at h;have U:Q=.nilIface->∃c,y=.const c:=by
     intro z;subst z
     cases y<;>simp[qI]at G⊢
    rcases BP (s4:=x) (qH:=y) U h with hg|⟨v,z,g⟩
    .exact o5 au (by rw[j];rfl) hg
    .exact .inl ⟨v,w,by
      simp only[execOp,j,au.ev hx,au.ev F];have E:=z w;simp only[Sem.run_bind]at E⊢;rw[E];rfl,g⟩
   .simp only[fI]at G;rw[G]at h;exact h.elim
  .exact h.elim
 case h_5 T x i j=>
  split at h
  .rename_i C H hx hi
   obtain⟨v,z,g⟩:=BR h;exact .inl ⟨v,w,by simp[execOp,j,au.ev hx,au.ev hi,z],g⟩
  .exact h.elim
 case h_6 T x i j=>
  split at h
  .rename_i C H hx hi
   obtain⟨v,z,g⟩:=BT h;exact .inl ⟨v,w,by simp[execOp,j,au.ev hx,au.ev hi,z],g⟩
  .exact h.elim
 case h_7 T x i j=>
  split at h
  .rename_i C hx
   obtain⟨v,z,g⟩:=BU h;exact .inl ⟨v,w,by simp[execOp,j,au.ev hx,z],g⟩
  .exact h.elim
 case h_8 T j=>exact zm au (by rw[j];rfl) h
 case h_9 T x j=>exact zm au (by rw[j];rfl) h
 case h_10 T n ps j=>
  cases R:BY (BX P tk T) with
  |true=>
   rw[R]at h;simp only[cond_true]at h;by_cases u:known e o.op.operands=true
   .rw[u]at h
    simp only[cond_true]at h;have hc:=k3 au (by rw[j];rfl) u;obtain⟨r,w1,q,g⟩:=iO h;exact .inl ⟨r,w1,by rw[hc];simp[execOp,j];rw[q];rfl,g⟩
   .simp only[fI]at u;rw[u]at h;exact h.elim
  |false=>
   rw[R]at h;exact zm au (by rw[j];rfl) h
 case h_11 T x lo hi ab j=>
  by_cases u:known e o.op.operands=true
  .rw[u]at h
   simp only[cond_true]at h;have hc:=k3 au (by rw[j];rfl) u;obtain⟨v,z,g⟩:=BV h;exact .inl ⟨v,w,by rw[hc];simp[execOp,j,z],g⟩
  .simp only[fI]at u;rw[u]at h;exact h.elim
 case h_12 T l c j=>
  split at h
  .rename_i o4 ac V hc
   obtain⟨v,w',z,g⟩:=GP h;exact .inl ⟨v,w',by simp[execOp,j,au.ev V,au.ev hc,z],g⟩
  .exact h.elim
 case h_13 s d x j=>
  split at h
  .rename_i k n hx
   by_cases hs:(P.underlying s).isSome=true
   .rw[hs]at h
    simp only[cond_true]at h;obtain⟨ds,W⟩:=kp _ hs;split at h
    .rename_i ad hd
     exact .inl ⟨_,_,by simp[execOp,j,au.ev hx,convert,cY W,cY hd,Conv.intToInt],h⟩
    .obtain⟨r,w1,q,g⟩:=iO h
     exact .inl ⟨r,w1,by simp[execOp,j,au.ev hx,q],g⟩
   .simp only[fI]at hs;rw[hs]at h;exact h.elim
  .rename_i v _ hx
   obtain⟨r,w1,q,g⟩:=iO h;exact .inl ⟨r,w1,by simp[execOp,j,au.ev hx,q],g⟩
  .exact h.elim
 case h_14 t ps j=>
  split at h
  .exact o5 au (by rw[j];rfl) h
  .by_cases u:known e o.op.operands=true
   .rw[u]at h
    simp only[cond_true]at h;have hc:=k3 au (by rw[j];rfl) u;obtain⟨cs,q,g⟩:=h;exact .inl ⟨_,_,by rw[hc];simp[execOp,j];rw[q];rfl,g⟩
   .simp only[fI]at u;rw[u]at h;exact h.elim
 case h_15 T m i ok j=>
  split at h
  .rename_i M H hm hi
   obtain⟨r,w1,q,g⟩:=iO h;exact .inl ⟨r,w1,by simp[execOp,j,au.ev hm,au.ev hi,q],g⟩
  .exact h.elim
 case h_16 T m i x j=>
  split at h
  .rename_i M H C hm hi hx
   obtain⟨w1,q,g⟩:=h;exact .inr (.inl ⟨w1,by simp[execOp,j,au.ev hm,au.ev hi,au.ev hx,q],g⟩)
  .exact h.elim
 case h_17 T r j=>
  by_cases u:known e o.op.operands=true
  .rw[u]at h
   simp only[cond_true]at h;have hc:=k3 au (by rw[j];rfl) u;obtain⟨v,w1,q,g⟩:=iO h;exact .inl ⟨v,w1,by rw[hc];simp[execOp,j,q],g⟩
  .simp only[fI]at u;rw[u]at h;exact h.elim
 case h_18 T x j=>
  split at h
  .rename_i C hx
   obtain⟨v,w1,q,g⟩:=h;exact .inl ⟨v,w1,by simp[execOp,j,au.ev hx,q],g⟩
  .exact h.elim
 case h_19 it Y j=>
  split at h
  .rename_i C hx
   rcases h with h|⟨w1,q,g⟩
   .cases Y with
    |true=>
     obtain⟨n,c,w1,q,g⟩:=h;exact .inl ⟨_,w1,by simp[execOp,j,au.ev hx,q],g⟩
    |false=>
     obtain⟨k,v,w1,q,g⟩:=h;exact .inl ⟨_,w1,by simp[execOp,j,au.ev hx,q],g⟩
   .exact .inl ⟨_,w1,by simp[execOp,j,au.ev hx,q],g⟩
  .exact h.elim
 case h_20 c j=>
  have D:∀ (b:Builtin) (r:O) (w1:I),c.callee=.builtin b->known e o.op.operands=true->
   (∀cs,(Go.builtin b c.argTypes o.type cs (c.args.map (ro e))).run P w=.ok (.value r) w1)->K r w1->mK P o a w K:=by
   intro b r w1 hb u q g;have hc:=k3 au (by rw[j];rfl) u;exact .inl ⟨r,w1,by rw[hc];simp[execOp,j,resolve,hb,invoke,q],g⟩
  have B:∀ {X:Prop},(bif known e o.op.operands then X else False)->known e o.op.operands=true/\X:=by
   intro X J;by_cases u:known e o.op.operands=true
   .rw[u]at J;exact⟨u,J⟩
   .simp only[fI]at u;rw[u]at J;exact J.elim
  split at h
  .rename_i k hb
   split at h
   .rename_i f pre cap hg
    obtain⟨u,Z,h⟩:=B h;have hc:=k3 au (by rw[j];rfl) u;refine .inr (.inr ⟨f,pre++c.args.map (ro e)++cap,w,?_,h.mono λae w1 h1=>?_⟩)
    .have N:ro e (.tmp k)=.func (.func f) pre cap:=by simp[ro,ev,hg]
     rw[hc];simp[execOp,j,resolve,hb,N,Deferred.ofValue,invoke,BZ Z]
    .obtain⟨v,z,g⟩:=iO h1
     exact⟨v,z,g⟩
   .exact o5 au (by rw[j];rfl) h
  .rename_i hb
   obtain⟨u,h⟩:=B h;obtain⟨r,w1,q,g⟩:=iO h;exact D _ r w1 hb u (λ_=>by simp[Go.builtin,q]) g
  .rename_i hb
   obtain⟨u,h⟩:=B h;obtain⟨r,w1,q,g⟩:=iO h;exact D _ r w1 hb u (λ_=>by simp[Go.builtin,q]) g
  .rename_i hb
   obtain⟨u,h⟩:=B h;obtain⟨r,w1,q,g⟩:=iO h;exact D _ r w1 hb u (λ_=>by simp[Go.builtin,q]) g
  .rename_i hb
   obtain⟨u,h⟩:=B h;obtain⟨r,w1,q,g⟩:=iO h;exact D _ r w1 hb u (λ_=>by simp[Go.builtin,q]) g
  .rename_i hb
   obtain⟨u,r,w1,q,g⟩:=B h;exact D _ r w1 hb u (λ_=>by simp[Go.builtin,q]) g
  .rename_i f hb
   split at h
   .rename_i fn af
    split at h
    .exact o5 au (by rw[j];rfl) h
    .obtain⟨u,h⟩:=B h
     obtain⟨r,w1,q,g⟩:=iO h;have hc:=k3 au (by rw[j];rfl) u;refine .inl ⟨r,w1,?_,g⟩;rw[hc];have N:ro e (.func f)=.func (.func f) #[] #[]:=by simp[ro,ev]
     simp[execOp,j,resolve,hb,N,Deferred.ofValue,invoke,q]
   .exact h.elim
  .rename_i hb
   obtain⟨u,h⟩:=B h;obtain⟨r,w1,q,g⟩:=iO h;exact D _ r w1 hb u (λ_=>by simp[Go.builtin,q]) g
  .rename_i hb
   obtain⟨u,h⟩:=B h;obtain⟨r,w1,q,g⟩:=iO h;exact D _ r w1 hb u (λ_=>by simp[Go.builtin,q]) g
  .rename_i hb
   obtain⟨u,r,w1,q,g⟩:=B h;exact D _ r w1 hb u (λ_=>by simp[Go.builtin,q]) g
  .rename_i hb
   split at h
   .obtain⟨u,h⟩:=B h
    obtain⟨r,w1,q,g⟩:=iO h;exact D _ r w1 hb u (λ_=>by simp[Go.builtin,q]) g
   .exact o5 au (by rw[j];rfl) h
  .exact o5 au (by rw[j];rfl) h
 case h_21 T x j=>
  split at h
  .rename_i C hx
   obtain⟨v,z,g⟩:=BQ h;exact .inl ⟨v,w,by simp[execOp,j,au.ev hx,z],g⟩
  .exact h.elim
 case h_22 T m i j=>
  split at h
  .rename_i M H hm hi
   obtain⟨v0,st,w1,q,g⟩:=h;exact .inl ⟨_,w1,by simp[execOp,j,au.ev hm,au.ev hi,q],g⟩
  .exact h.elim
 case h_23 T m s x j=>
  split at h
  .rename_i M vs C hm hs hx
   obtain⟨w1,q,g⟩:=h;exact .inr (.inl ⟨w1,by simp[execOp,j,au.ev hm,au.ev hs,au.ev hx,q],g⟩)
  .exact h.elim
 case h_24 it j=>
  split at h
  .rename_i C hx
   obtain⟨v,w1,q,g⟩:=iO h;exact .inl ⟨v,w1,by simp[execOp,j,au.ev hx,q],g⟩
  .exact h.elim
 case h_25=>exact h.elim
 case h_26=>
  refine o5 au ?_ h
  cases j:o.op<;>first|rfl|simp_all
end
end aO
namespace aO
open Go
inductive k4 where
 |run
 |split (n:Nat)
 |pure (n:Nat)
 |s7 (a:Y Kd)
def fJ(P:Program)(o:Oper)(e:Env):al O:=
 match o.op with
 | .move x=>ev e x
 | .assign x=>ev e x
 | .unOp .not _ x=>match ev e x with
  |some (.bool b)=>some (.bool (!b))
  |_=>none
 | .binOp op T x y _=>match ev e y with
  |some (.int f b)=>match ev e x with
   |some (.int k a)=>bif ko k f then
    match op with
    | .add=>some (.int k (k.wrap (a+b)))
    | .sub=>some (.int k (k.wrap (a-b)))
    | .mul=>some (.int k (k.wrap (a*b)))
    | .quo=>match b with
     | .ofNat (.succ m)=>some (.int k (k.wrap (a.tdiv (.ofNat (.succ m)))))
     |_=>none
    | .rem=>match b with
     | .ofNat (.succ m)=>some (.int k (a.tmod (.ofNat (.succ m))))
     |_=>none
    | .and=>some (.int k (k.wrap (BitVec.ofInt k.bits a&&&BitVec.ofInt k.bits b).toNat))
    | .or=>some (.int k (k.wrap (BitVec.ofInt k.bits a|||BitVec.ofInt k.bits b).toNat))
    | .xor=>some (.int k (k.wrap (BitVec.ofInt k.bits a^^^BitVec.ofInt k.bits b).toNat))
    | .eql=>some (.bool (a==b))
    | .neq=>some (.bool (a !=b))
    | .lss=>some (.bool (a<b))
    | .leq=>some (.bool (a<=b))
    | .gtr=>some (.bool (a>b))
    | .geq=>some (.bool (a>=b))
    |_=>none
    else none
   |_=>none
  |some (.bool b)=>match ev e x with
   |some (.bool a)=>match P.underlying T with
    |some .bool=>match op with
     | .eql=>some (.bool (a==b))
     | .neq=>some (.bool (!(a==b)))
     |_=>none
    |_=>none
   |_=>none
  |some (.string b)=>match ev e x with
   |some (.string a)=>match op with
    | .eql=>some (.bool (a.toList==b.toList))
    | .neq=>some (.bool (!(a.toList==b.toList)))
    |_=>none
   |_=>none
  |some (.pointer none)=>match ev e x with
   |some (.pointer p)=>bif mJ (P.underlying T) then match op with
    | .eql=>some (.bool p.isNone)
    | .neq=>some (.bool (!p.isNone))
    |_=>none
    else none
   |_=>none
  |some (.slice none _ _)=>match ev e x with
   |some (.slice p _ _)=>bif nJ (P.underlying T) then match op with
    | .eql=>some (.bool p.isNone)
    | .neq=>some (.bool (!p.isNone))
    |_=>none
    else none
   |_=>none
  |_=>none
 | .convert s d x=>match ev e x with
  |some (.int _ n)=>match P.underlying d with
   |some (.int k)=>bif (P.underlying s).isSome then some (.int k (k.wrap n)) else none
   |_=>none
  |_=>none
 | .call {callee:=.builtin .len,args:=args,argTypes:=gG}=>match args[0]?,gG[0]? with
  |some x,some T=>match ev e x,P.underlying T with
   |some (.slice _ n _),some (.slice _)=>some (.int .i64 n)
   |some (.string s),some .string=>some (.int .i64 s.size)
   |_,_=>none
  |_,_=>none
 | .call {callee:=.builtin .cap,args:=args,argTypes:=gG}=>match args[0]?,gG[0]? with
  |some x,some T=>match ev e x,P.underlying T with
   |some (.slice _ _ c),some (.slice _)=>some (.int .i64 c)
   |_,_=>none
  |_,_=>none
 |_=>none
def s8(ops:Array Oper)(e:Env)(j:Nat):al O:=((ops[j]?).bind (·.dst)).bind e.get
def GV(ops:Array Oper)(j:Nat):al Nat:=(ops[j]?).bind (·.dst)
def Oq(o:Oper)(e:Env)(K:ai->Prop):Prop:=
 match o.guard with
 |none=>match o.op with
  | .pick x y z=>match ev e x with
   |some (.bool b)=>match ev e (bif b then y else z) with
    |some (.bool r)=>K r
    |_=>False
   |_=>False
  |_=>False
 |some _=>False
def hC(ops:Array Oper)(o:Oper)(e:Env)(run skip:Prop):Prop:=
 match o.guard with
 |none=>run
 |some (j,want)=>match s8 ops e j with
  |none=>False
  |some (.bool b)=>bif Bool.xor b want then skip else run
  |some _=>skip
def l3{α:Type}(ops:Array Oper)(o:Oper)(e:Env)(run skip:al α):al α:=
 match o.guard with
 |none=>run
 |some (j,want)=>match s8 ops e j with
  |none=>none
  |some (.bool b)=>bif Bool.xor b want then skip else run
  |some _=>skip
def lE(o:Oper)(e:Env):al ai:=
 match o.op with
 | .pick x y z=>match ev e x with
  |some (.bool b)=>match ev e (bif b then y else z) with
   |some (.bool r)=>some r
   |_=>none
  |_=>none
 |_=>none
def s9(ops:Array Oper)(o:Oper)(e:Env):al (Nat×ai):=
 match o.guard with
 |none=>none
 |some (j,_)=>match GV ops j with
  |none=>none
  |some s=>match e.get s with
   |some (.bool c)=>some (s,c)
   |_=>none
def mL(ops:Array Oper)(o:Oper)(e:Env):ai:=
 match o.guard with
 |none=>true
 |some (j,want)=>match s8 ops e j with
  |some (.bool b)=> !(Bool.xor b want)
  |_=>false
def nK(e:Env)(ds:Y Nat):ai:=e.all λp=> !(ds.any λd=>Nat.beq d p.1)
def bM(l:Y Oper):Y Nat:=l.filterMap (·.dst)
def jc(P:Program)(ops:Array Oper):Nat->Y Oper->Y k4->Env->al Env
 |0,_,_,_=>none
 |_+1,[],_,e=>some e
 |n+1,o::rest,.pure m::as,e=>
  match s9 ops o e,rest.drop (m-1) with
  |none,_=>
   match l3 ops o e none (some undef) with
   |some v=>jc P ops n rest as (c_ o.dst v e)
   |none=>none
  |some (s,c),a::b=>
   match jc P ops n (o::rest.take (m-1)) (.run::as.take (m-1)) ((s,.bool true)::e),jc P ops n (o::rest.take (m-1)) (.run::as.take (m-1)) ((s,.bool false)::e) with
   |some aP,some aU=>
    match lE a aP,lE a aU with
    |some r1,some b8=>bif mL ops a e&&nK e (bM (o::rest.take (m-1))) then jc P ops n b (as.drop m) (c_ a.dst (.bool (cond c r1 b8)) e) else none
    |_,_=>none
   |_,_=>none
  |_,_=>none
 |n+1,o::rest,_::as,e=>
  match l3 ops o e (fJ P o e) (some undef) with
  |some v=>jc P ops n rest as (c_ o.dst v e)
  |none=>none
 |n+1,o::rest,[],e=>
  match l3 ops o e (fJ P o e) (some undef) with
  |some v=>jc P ops n rest [] (c_ o.dst v e)
  |none=>none
inductive aX {α:Type} (B:α->Prop) (k:α):Prop where
 |mk (h:B k)
theorem aX.out{α:Type}{B:α->Prop}{k:α}(h:aX B k):B k:=by cases h with|mk h=>exact h
def vn(P:Program)(a:Y Kd)(o:Oper)(K:O->I->Prop)(e:Env)(w:I):Prop:=
 match o.op with
 | .entry it=>match ev e it with
  |some b=>vc a λvs=>∃w1,(Instr.entry b).run P w=.ok (.tuple vs.toArray) w1/\K (.tuple vs.toArray) w1
  |_=>False
 |_=>False
theorem GW{P:Program}{b:Y Kd}{o:Oper}{K:O->I->Prop}{e:Env}{w:I}{a:Act}(au:de e a)(h:vn P b o K e w):mK P o a w K:=by
 unfold vn at h;split at h
 .rename_i it c
  split at h
  .rename_i g hx
   obtain⟨v,w1,d,f⟩:=ze h;exact .inl ⟨_,w1,by simp[execOp,c,au.ev hx,d],f⟩
  .exact h.elim
 .exact h.elim
def fY(P:Program)(tk:TypeId->dI)(ops:Array Oper):Nat->Y Oper->Y k4->(Env->I->Prop)->Env->I->Prop
 |0,_,_,_,_,_=>False
 |_+1,[],_,K,e,w=>K e w
 |n+1,o::rest,.s7 d::as,K,e,w=>
  hC ops o e (vn P d o (λv w'=>fY P tk ops n rest as K (c_ o.dst v e) w') e w) (fY P tk ops n rest as K (c_ o.dst undef e) w)
 |n+1,o::rest,.pure m::as,K,e,w=>
  match s9 ops o e,rest.drop (m-1) with
  |none,_=>hC ops o e False (fY P tk ops n rest as K (c_ o.dst undef e) w)
  |some (s,c),a::b=>
   match jc P ops n (o::rest.take (m-1)) (.run::as.take (m-1)) ((s,.bool true)::e),jc P ops n (o::rest.take (m-1)) (.run::as.take (m-1)) ((s,.bool false)::e) with
   |some aP,some aU=>
    match lE a aP,lE a aU with
    |some r1,some b8=>bif mL ops a e&&nK e (bM (o::rest.take (m-1))) then fY P tk ops n b (as.drop m) K (c_ a.dst (.bool (cond c r1 b8)) e) w else False
    |_,_=>False
   |_,_=>False
  |_,_=>False
 |n+1,o::rest,.split m::as,K,e,w=>
  match s9 ops o e,rest.drop (m-1) with
  |none,_=>hC ops o e False (fY P tk ops n rest as K (c_ o.dst undef e) w)
  |some (s,c),a::b=>
   bif mL ops a e&&nK e (bM (o::rest.take (m-1))) then
    aX (λk:ai->I->Prop=>
     (c=true->fY P tk ops n (o::rest.take (m-1)) (.run::as.take (m-1)) (λe' w'=>match lE a e' with|some r=>k r w'|none=>False) ((s,.bool true)::e) w)/\
     (c=false->fY P tk ops n (o::rest.take (m-1)) (.run::as.take (m-1)) (λe' w'=>match lE a e' with|some r=>k r w'|none=>False) ((s,.bool false)::e) w))
     (λr w'=>fY P tk ops n b (as.drop m) K (c_ a.dst (.bool r) e) w')
   else False
  |_,_=>False
 |n+1,o::rest,_::as,K,e,w=>
  hC ops o e (j2 P tk o (λv w'=>fY P tk ops n rest as K (c_ o.dst v e) w') e w) (fY P tk ops n rest as K (c_ o.dst undef e) w)
 |n+1,o::rest,[],K,e,w=>
  hC ops o e (j2 P tk o (λv w'=>fY P tk ops n rest [] K (c_ o.dst v e) w') e w) (fY P tk ops n rest [] K (c_ o.dst undef e) w)
structure dS(ds:Y Nat)(a a':Act):Prop where
 defers:a'.defers=a.defers
 size:a'.tmps.size=a.tmps.size
 same:∀s,s∉ds->a'.tmps[s]? =a.tmps[s]?
theorem dS.refl(ds:Y Nat)(a:Act):dS ds a a:=⟨rfl,rfl,λ_ _=>rfl⟩
theorem dS.trans{ds:Y Nat}{a b c:Act}(h:dS ds a b)(k:dS ds b c):dS ds a c:=
 ⟨k.defers.trans h.defers,k.size.trans h.size,λs hs=>(k.same s hs).trans (h.same s hs)⟩
theorem dS.mono{ds es:Y Nat}{a b:Act}(h:dS ds a b)(hs:∀s,s∈ds->s∈es):dS es a b:=
 ⟨h.defers,h.size,λs c=>h.same s λhm=>c (hs s hm)⟩
theorem dS.put{a:Act}{d:al Nat}{v:O}{ds:Y Nat}(hd:∀k,d=some k->k∈ds):dS ds a (a.put d v):=by
 cases d with
 |none=>exact .refl _ _
 |some d=>exact⟨rfl,by simp[Act.put],λs hs=>by
  have:d≠s:=λh=>hs (h▸hd d rfl);simp[Act.put,Array.getElem?_setIfInBounds_ne this]⟩
def gR(a:Act)(ds:Y Nat)(K:Env->I->Prop)(x:Exit)(a':Act)(w':I):Prop:=
 x=.normal/\dS ds a a'/\∃e',de e' a'/\K e' w'
theorem jd{P:Program}{ops:Array Oper}{Q Q':Exit->Act->I->Prop}(b:∀x a w,Q x a w->Q' x a w):
 ∀ (l:Y Oper) (a:Act) (w:I),wpList P ops Q l a w->wpList P ops Q' l a w
 | [],_,_,h=>b _ _ _ h
 |o::l,a,w,h=>by
  simp only[wpList]at h⊢
  split
  .rename_i d
   rw[if_pos d]at h
   refine h.imp (λh=>?_) (λ⟨h1,a',w',h2⟩=>⟨h1,a',w',b _ _ _ h2⟩)
   have:=Oper.wp_mono (Q:=Q) (λa w=>jd b l a w) h
   unfold Oper.wp at this⊢
   revert this
   generalize (execOp a.eval o).run P w=r
   intro this
   cases r with
   |ok aQ w'=>
    cases aQ<;>simp only[Oper.upon]at this⊢<;>first
     |exact this
     |(exact Calls.mono this λe f he=>by
        cases e with
        |returned v=>exact he
        |panicked c=>exact b _ _ _ he
        |outgrown=>exact let ⟨a',w',h2⟩:=he;⟨a',w',b _ _ _ h2⟩)
   |halt x w'=>cases x<;>simp only[Oper.upon]at this⊢<;>first|exact b _ _ _ this|exact this
  .rename_i d
   rw[if_neg d]at h
   exact jd b l _ _ h
theorem s_{P:Program}{ops:Array Oper}{Q:Exit->Act->I->Prop}(b:Y Oper):
 ∀ (f:Y Oper) (a:Act) (w:I),wpList P ops (λx a w=>x=.normal/\wpList P ops Q b a w) f a w->wpList P ops Q (f++b) a w
 | [],_,_,h=>h.2
 |o::l,a,w,h=>by
  simp only[List.cons_append,wpList]at h⊢
  split
  .rename_i d
   rw[if_pos d]at h
   rcases h with h|⟨_,a',w',h2,_⟩
   .left
    have:=Oper.wp_mono (λa w=>s_ b l a w) h
    unfold Oper.wp at this⊢
    revert this
    generalize (execOp a.eval o).run P w=r
    intro this
    cases r with
    |ok aQ w'=>
     cases aQ<;>simp only[Oper.upon]at this⊢<;>first
      |exact this
      |(exact Calls.mono this λe g he=>by
         cases e with
         |returned v=>exact he
         |panicked c=>cases he.1
         |outgrown=>exact let ⟨a',w',h2⟩:=he;by cases h2.1)
    |halt x w'=>cases x<;>simp only[Oper.upon]at this⊢<;>first|(cases this.1;done)|exact this
   .cases h2
  .rename_i d
   rw[if_neg d]at h
   exact s_ b l _ _ h
section
variable {P:Program}{tk:TypeId->dI}{ops:Array Oper}
def ia:O->al ai
 | .bool b=>some b
 |_=>none
theorem ta{e:Env}{a:Act}(au:de e a){j:Nat}{v:O}(h:s8 ops e j=some v):
 yielded ops a.tmps j=ia v:=by
 unfold s8 at h;unfold yielded
 cases hd:(ops[j]?).bind (·.dst) with
 |none=>rw[hd]at h;simp at h
 |some s=>
  rw[hd]at h;simp only[Option.bind_some]at h⊢;rw[au.get _ _ h]
  cases v<;>rfl
theorem tb{o:Oper}{e:Env}{a:Act}(au:de e a){R S:Prop}(h:hC ops o e R S):
 (Region.wanted o (yielded ops a.tmps)=true/\R)\/(Region.wanted o (yielded ops a.tmps)=false/\S):=by
 unfold hC at h;unfold Region.wanted;split at h
 .rename_i hg;rw[hg];exact .inl ⟨rfl,h⟩
 .rename_i j want hg
  rw[hg];simp only;split at h
  .exact h.elim
  .rename_i b c
   rw[ta au c]
   cases b<;>cases want<;>first|exact .inl ⟨rfl,h⟩|exact .inr ⟨rfl,h⟩
  .rename_i v d c
   rw[ta au c]
   cases v<;>first|exact absurd rfl (d _)|exact .inr ⟨by cases want<;>rfl,h⟩
theorem B2{o:Oper}{e:Env}{R R' S:Prop}(h:hC ops o e R S)(a:R->R'):hC ops o e R' S:=by
 unfold hC at h⊢;split at h
 .exact a h
 .rename_i j want hg
  split at h
  .exact h
  .rename_i b c
   cases hb:Bool.xor b want<;>rw[hb]at h<;>first|exact a h|exact h
  .exact h
theorem GX{α:Type}{o:Oper}{e:Env}{R S:al α}{r:α}(h:l3 ops o e none S=some r):l3 ops o e R S=some r:=by
 unfold l3 at h⊢;split at h
 .cases h
 .rename_i j want hg
  split at h
  .exact h
  .rename_i b a
   cases hb:Bool.xor b want with
   |true=>rw[hb]at h;exact h
   |false=>rw[hb]at h;cases h
  .exact h
theorem GY{α:Type}{o:Oper}{e:Env}{a:Act}(au:de e a){R S:al α}{r:α}(h:l3 ops o e R S=some r):
 (Region.wanted o (yielded ops a.tmps)=true/\R=some r)\/(Region.wanted o (yielded ops a.tmps)=false/\S=some r):=by
 unfold l3 at h;unfold Region.wanted;split at h
 .rename_i hg;rw[hg];exact .inl ⟨rfl,h⟩
 .rename_i j want hg
  rw[hg];simp only;split at h
  .cases h
  .rename_i b c
   rw[ta au c]
   cases b<;>cases want<;>first|exact .inl ⟨rfl,h⟩|exact .inr ⟨rfl,h⟩
  .rename_i v d c
   rw[ta au c]
   cases v<;>first|exact absurd rfl (d _)|exact .inr ⟨by cases want<;>rfl,h⟩
theorem B3{o:Oper}{e:Env}{a:Act}(au:de e a){v:O}(h:fJ P o e=some v)(w:I):(execOp a.eval o).run P w=.ok (.value v) w:=by
 unfold fJ at h;split at h
 .rename_i x f
  simp[execOp,f,au.ev h]
 .rename_i x f
  simp[execOp,f,au.ev h]
 .rename_i t x f
  split at h
  .rename_i b hx
   cases h;simp[execOp,f,au.ev hx,Op.unary]
  .cases h
 .rename_i op T x y B f
  split at h
  .rename_i r b i
   split at h
   .rename_i k c hx
    by_cases u:k=r
    .subst u
     simp only[ko,decide_true,cond_true]at h;split at h
     case h_4=>
      split at h
      .cases h
       simp[execOp,f,au.ev hx,au.ev i,eqGuard,binOp,Op.intDiv];intro q;exfalso;revert q;simp;omega
      .cases h
     case h_5=>
      split at h
      .cases h
       simp[execOp,f,au.ev hx,au.ev i,eqGuard,binOp,Op.intDiv];intro q;exfalso;revert q;simp;omega
      .cases h
     all_goals first
      |(cases h;simp[execOp,f,au.ev hx,au.ev i,eqGuard,binOp,Op.intArith,Op.intBits,Op.intCmp];done)
      |cases h
    .simp[ko,u]at h
   .cases h
  .rename_i b i
   split at h
   .rename_i c hx
    split at h
    .rename_i g
     have aP:∀ (d:Nat) (w:I),(Op.equalIn (d+1) T (.bool c) (.bool b)).run P w=.ok (c==b) w:=by
      intro d w;simp[Op.equalIn,cY g]
     have aU:∀w:I,(Op.equal T (.bool c) (.bool b)).run P w=.ok (c==b) w:=λw=>by rw[qG];exact aP _ w
     split at h
     .cases h
      simp[execOp,f,au.ev hx,au.ev i,eqGuard,binOp,aU]
     .cases h
      simp[execOp,f,au.ev hx,au.ev i,eqGuard,binOp,aU]
     .cases h
    .cases h
   .cases h
  .rename_i b i
   split at h
   .rename_i c hx
    split at h
    .cases h
     have aP:(binOp .eql T (.string c) (.string b)).run P w=.ok (.bool (c.toList==b.toList)) w:=rfl;simp only[execOp,f,au.ev hx,au.ev i];simp[eqGuard,aP]
    .cases h
     have aP:(binOp .neq T (.string c) (.string b)).run P w=.ok (.bool (!(c.toList==b.toList))) w:=rfl;simp only[execOp,f,au.ev hx,au.ev i];simp[eqGuard,aP]
    .cases h
   .cases h
  .rename_i i
   split at h
   .rename_i p hx
    by_cases g:mJ (P.underlying T)=true
    .rw[g]at h
     simp only[cond_true]at h;split at h
     .cases h;simp[execOp,f,au.ev hx,au.ev i,eqGuard,binOp,vf (P:=P) g]
     .cases h;simp[execOp,f,au.ev hx,au.ev i,eqGuard,binOp,vf (P:=P) g]
     .cases h
    .simp only[fI]at g;rw[g]at h;cases h
   .cases h
  .rename_i l c i
   split at h
   .rename_i p _ _ hx
    by_cases g:nJ (P.underlying T)=true
    .rw[g]at h
     simp only[cond_true]at h;split at h
     .cases h;simp[execOp,f,au.ev hx,au.ev i,eqGuard,binOp,vg (P:=P) g]
     .cases h;simp[execOp,f,au.ev hx,au.ev i,eqGuard,binOp,vg (P:=P) g]
     .cases h
    .simp only[fI]at g;rw[g]at h;cases h
   .cases h
  .cases h
 .rename_i s d x f
  split at h
  .rename_i k n hx
   split at h
   .rename_i r hd
    by_cases hs:(P.underlying s).isSome=true
    .rw[hs]at h
     cases h;obtain⟨ds,z⟩:=kp _ hs;simp[execOp,f,au.ev hx,convert,cY z,cY hd,Conv.intToInt]
    .simp only[fI]at hs;rw[hs]at h;cases h
   .cases h
  .cases h
 .rename_i args gG f
  split at h
  .rename_i x T j m
   split at h
   .rename_i p n c A hx g
    cases h;simp[execOp,f,resolve,invoke,Go.builtin,Builtin.len_,m,j,cY g,au.ev hx,goInt]
   .rename_i s hx g
    cases h;simp[execOp,f,resolve,invoke,Go.builtin,Builtin.len_,m,j,cY g,au.ev hx,goInt]
   .cases h
  .cases h
 .rename_i args gG f
  split at h
  .rename_i x T j m
   split at h
   .rename_i p n c A hx g
    cases h;simp[execOp,f,resolve,invoke,Go.builtin,Builtin.cap_,m,j,cY g,au.ev hx,goInt]
   .cases h
  .cases h
 .cases h
theorem zq{e:Env}{ds:Y Nat}{a a':Act}(au:de e a)(hd:nK e ds=true)(c:dS ds a a'):de e a':=by
 constructor;intro s v hs;have hm:∃u,(s,u)∈e:=by
  clear hd au
  induction e with
  |nil=>cases hs
  |cons p e d=>
   obtain⟨k,u⟩:=p;rw[o1]at hs;by_cases b:k=s
   .subst b;exact⟨u,by simp⟩
   .rw[if_neg b]at hs
    obtain⟨u,hu⟩:=d hs;exact⟨u,by simp[hu]⟩
 obtain⟨u,hu⟩:=hm;have h1:=ny.1 hd _ hu;simp only[kW,oU]at h1;rw[c.same s λf=>h1 s f (Nat.beq_refl s)];exact au.get s v hs
theorem zr{d:Oper}{e:Env}{a:Act}(au:de e a){r:ai}(h:lE d e=some r)(w:I):
 (execOp a.eval d).run P w=.ok (.value (.bool r)) w:=by
 unfold lE at h;split at h
 .rename_i x y z f
  split at h
  .rename_i b hb
   split at h
   .rename_i g c
    cases h;simp only[execOp,f,au.ev hb]
    cases b
    .simp only[cond_false]at c
     simp[asBool,au.ev c]
    .simp only[cond_true]at c
     simp[asBool,au.ev c]
   .cases h
  .cases h
 .cases h
theorem zt{c:Oper}{e:Env}{a:Act}(au:de e a)(h:mL ops c e=true):Region.wanted c (yielded ops a.tmps)=true:=by
 unfold mL at h;unfold Region.wanted;split at h
 .rename_i hg;rw[hg]
 .rename_i j want hg
  rw[hg];simp only;split at h
  .rename_i b d
   rw[ta au d]
   cases b<;>cases want<;>first|rfl|cases h
  .cases h
theorem zu{o:Oper}{e:Env}{s:Nat}{c:ai}(h:s9 ops o e=some (s,c)):e.get s=some (.bool c):=by
 unfold s9 at h;split at h
 .cases h
 .split at h
  .cases h
  .split at h
   .rename_i hs;cases h;exact hs
   .cases h
theorem de.lit{e:Env}{a:Act}(au:de e a){s:Nat}{v:O}(h:e.get s=some v):de ((s,v)::e) a:=by
 constructor;intro t u ht;rw[o1]at ht;by_cases b:s=t
 .subst b
  rw[if_pos rfl]at ht
  cases ht;exact au.get _ _ h
 .rw[if_neg b]at ht
  exact au.get _ _ ht
theorem zv{α:Type}(o:α)(rest:Y α)(m:Nat){a:α}{b:Y α}(h:rest.drop m=a::b):
 o::rest=(o::rest.take m)++(a::b):=by
 rw[←h];simp
theorem GZ{b c:ai}{α:Type}{x y z:α}(h:(bif b&&c then x else y)=z)(a:y≠z):b=true/\c=true/\x=z:=by
 cases b<;>cases c<;>first|exact absurd h a|exact⟨rfl,rfl,h⟩
theorem B4:∀ (n:Nat) (l:Y Oper) (as:Y k4) (e e':Env) (a:Act) (w:I),de e a->(∀d∈bM l,d<a.tmps.size)->
 jc P ops n l as e=some e'->wpList P ops (λx a' w'=>x=.normal/\dS (bM l) a a'/\de e' a'/\w'=w) l a w:=by
 intro n
 induction n with
 |zero=>intro l as e e' a w _ _ h;cases h
 |succ n u=>
  intro l as e e' a w au hb h;have one:∀ (o:Oper) (rest:Y Oper) (A:Y k4),(∀d∈bM (o::rest),d<a.tmps.size)->
   (match l3 ops o e (fJ P o e) (some undef) with|some v=>jc P ops n rest A (c_ o.dst v e)|none=>none)=some e'->
   wpList P ops (λx a' w'=>x=.normal/\dS (bM (o::rest)) a a'/\de e' a'/\w'=w) (o::rest) a w:=by
   intro o rest A hb h;have E:∀k,o.dst=some k->k∈bM (o::rest):=λk b=>by simp[bM,b]
   have i:∀k,k∈bM rest->k∈bM (o::rest):=λk b=>by
    simp only[bM,sM];split
    .exact b
    .exact l0 _ b
   split at h
   .rename_i v j
    have next:∀ (a':Act),a'=a.put o.dst v->wpList P ops (λx a' w'=>x=.normal/\dS (bM (o::rest)) a a'/\de e' a'/\w'=w) rest a' w:=by
     intro a' K;subst K;have b:dS (bM (o::rest)) a (a.put o.dst v):=dS.put E;have:=u rest A (c_ o.dst v e) e' (a.put o.dst v) w (au.put λk b=>hb k (E k b)) (λd hd=>by rw[b.size];exact hb d (i d hd)) h;exact jd (λx a' w' ⟨h1,h2,L,M⟩=>⟨h1,b.trans (h2.mono i),L,M⟩) _ _ _ this
    rcases GY au j with ⟨B,p⟩|⟨B,p⟩
    .simp only[wpList,B,if_true]
     left;unfold Oper.wp;rw[B3 au p w];exact next _ rfl
    .simp only[wpList,B,fW,if_false]
     cases p;exact next _ rfl
   .cases h
  cases l with
  |nil=>
   simp only[jc,Option.some.injEq]at h;subst h;exact⟨rfl,.refl _ _,au,rfl⟩
  |cons o rest=>
   cases as with
   |nil=>exact one o rest [] hb (by simpa only[jc] using h)
   |cons N as=>
    cases N with
    |run=>exact one o rest as hb (by simpa only[jc] using h)
    |split m=>exact one o rest as hb (by simpa only[jc] using h)
    |s7 V=>exact one o rest as hb (by simpa only[jc] using h)
    |pure m=>
     simp only[jc]at h;split at h
     .refine one o rest as hb ?_
      cases j:l3 ops o e none (some undef) with
      |none=>rw[j]at h;cases h
      |some v=>rw[j]at h;rw[GX j];exact h
     .rename_i s c f g hg hd
      split at h
      .rename_i aP aU h1 h2
       split at h
       .rename_i r1 b8 O Q
        obtain⟨R,S,h⟩:=GZ h (by simp);rw[zv o rest (m-1) hd]at hb⊢;have F:=zu hg;refine s_ _ _ _ _ ?_;have C:∀k,k∈bM (o::rest.take (m-1))->k∈bM ((o::rest.take (m-1))++(f::g)):=λk b=>by
         simp only[bM,sN,ed];exact .inl b
        have y:∀k,k∈bM (f::g)->k∈bM ((o::rest.take (m-1))++(f::g)):=λk b=>by
         simp only[bM,sN,ed];exact .inr b
        have G:∀k,f.dst=some k->k∈bM (f::g):=λk b=>by simp[bM,b]
        have i:∀k,k∈bM g->k∈bM (f::g):=λk b=>by
         simp only[bM,sM];split
         .exact b
         .exact l0 _ b
        have fin:∀ (D:Env) (r:ai) (a1:Act),dS (bM (o::rest.take (m-1))) a a1->de D a1->lE f D=some r->r=cond c r1 b8->
         wpList P ops (λx a' w'=>x=.normal/\dS (bM ((o::rest.take (m-1))++(f::g))) a a'/\de e' a'/\w'=w) (f::g) a1 w:=by
         intro D r a1 z T p U;have H:=zq au S z;simp only[wpList,zt H R,if_true];left;unfold Oper.wp;rw[zr T p w];simp only[Oper.upon];have J:dS (bM (f::g)) a1 (a1.put f.dst (.bool r)):=dS.put G;have:=u g (as.drop m) (c_ f.dst (.bool (cond c r1 b8)) e) e' (a1.put f.dst (.bool r)) w
          (by rw[U];exact H.put λk b=>by rw[z.size];exact hb k (y k (G k b)))
          (λd hd=>by rw[J.size,z.size];exact hb d (y d (i d hd))) h
         refine jd (λx a' w' ⟨aJ,aW,q,t⟩=>⟨aJ,(z.mono C).trans ((J.mono y).trans (aW.mono λk b=>y k (i k b))),q,t⟩) _ _ _ this
        cases c with
        |true=>
         have:=u _ _ _ aP a w (au.lit F) (λd hd=>hb d (C d hd)) h1;exact jd (λx a' w' ⟨aJ,aW,q,t⟩=>⟨aJ,by subst t;exact fin aP r1 a' aW q O rfl⟩) _ _ _ this
        |false=>
         have:=u _ _ _ aU a w (au.lit F) (λd hd=>hb d (C d hd)) h2;exact jd (λx a' w' ⟨aJ,aW,q,t⟩=>⟨aJ,by subst t;exact fin aU b8 a' aW q Q rfl⟩) _ _ _ this
       .cases h
      .cases h
     .cases h
theorem B5:∀ (n:Nat) (l:Y Oper) (as:Y k4) (K:Env->I->Prop) (e:Env) (a:Act) (w:I),de e a->(∀d∈bM l,d<a.tmps.size)->
 fY P tk ops n l as K e w->wpList P ops (gR a (bM l) K) l a w:=by
 intro n
 induction n with
 |zero=>intro l as K e a w _ _ h;cases h
 |succ n A=>
  intro l as K e a w au hb h;have one:∀ (o:Oper) (rest:Y Oper) (i:Y k4),(∀d∈bM (o::rest),d<a.tmps.size)->
   hC ops o e (j2 P tk o (λv w'=>fY P tk ops n rest i K (c_ o.dst v e) w') e w) (fY P tk ops n rest i K (c_ o.dst undef e) w)->
   wpList P ops (gR a (bM (o::rest)) K) (o::rest) a w:=by
   intro o rest i hb h;have B:∀k,o.dst=some k->k∈bM (o::rest):=λk b=>by simp[bM,b]
   have j:∀k,k∈bM rest->k∈bM (o::rest):=λk b=>by
    simp only[bM,sM];split
    .exact b
    .exact l0 _ b
   have next:∀ (v:O) (w':I),fY P tk ops n rest i K (c_ o.dst v e) w'->wpList P ops (gR a (bM (o::rest)) K) rest (a.put o.dst v) w':=by
    intro v w' h;have b:dS (bM (o::rest)) a (a.put o.dst v):=dS.put B;have:=A rest i K (c_ o.dst v e) (a.put o.dst v) w' (au.put λk b=>hb k (B k b)) (λd hd=>by rw[b.size];exact hb d (j d hd)) h;exact jd (λx a' w' ⟨h1,h2,J⟩=>⟨h1,b.trans (h2.mono j),J⟩) _ _ _ this
   rcases tb au h with ⟨u,p⟩|⟨u,p⟩
   .simp only[wpList,u,if_true]
    exact .inl ((vm au p).wp next)
   .simp only[wpList,u,fW,if_false]
    exact next _ _ p
  have R:∀ (o:Oper) (rest:Y Oper) (G:Y Kd) (i:Y k4),(∀d∈bM (o::rest),d<a.tmps.size)->
   hC ops o e (vn P G o (λv w'=>fY P tk ops n rest i K (c_ o.dst v e) w') e w) (fY P tk ops n rest i K (c_ o.dst undef e) w)->
   wpList P ops (gR a (bM (o::rest)) K) (o::rest) a w:=by
   intro o rest G i hb h;have B:∀k,o.dst=some k->k∈bM (o::rest):=λk b=>by simp[bM,b]
   have j:∀k,k∈bM rest->k∈bM (o::rest):=λk b=>by
    simp only[bM,sM];split
    .exact b
    .exact l0 _ b
   have next:∀ (v:O) (w':I),fY P tk ops n rest i K (c_ o.dst v e) w'->wpList P ops (gR a (bM (o::rest)) K) rest (a.put o.dst v) w':=by
    intro v w' h;have b:dS (bM (o::rest)) a (a.put o.dst v):=dS.put B;have:=A rest i K (c_ o.dst v e) (a.put o.dst v) w' (au.put λk b=>hb k (B k b)) (λd hd=>by rw[b.size];exact hb d (j d hd)) h;exact jd (λx a' w' ⟨h1,h2,J⟩=>⟨h1,b.trans (h2.mono j),J⟩) _ _ _ this
   rcases tb au h with ⟨u,p⟩|⟨u,p⟩
   .simp only[wpList,u,if_true]
    exact .inl ((GW au p).wp next)
   .simp only[wpList,u,fW,if_false]
    exact next _ _ p
  cases l with
  |nil=>exact⟨rfl,.refl _ _,e,au,h⟩
  |cons o rest=>
   cases as with
   |nil=>exact one o rest [] hb (by simpa only[fY] using h)
   |cons S as=>
    cases S with
    |run=>exact one o rest as hb (by simpa only[fY] using h)
    |s7 G=>exact R o rest G as hb (by simpa only[fY] using h)
    |split m=>
     simp only[fY]at h;split at h
     .exact one o rest as hb (B2 h False.elim)
     .rename_i s c f g hg hd
      obtain⟨L,M,h⟩:mL ops f e=true/\nK e (bM (o::rest.take (m-1)))=true/\_:=by
       cases h1:mL ops f e<;>cases h2:nK e (bM (o::rest.take (m-1)))<;>rw[h1,h2]at h<;>first|exact h.elim|exact⟨rfl,rfl,h⟩
      rw[zv o rest (m-1) hd]at hb⊢;have C:=zu hg;refine s_ _ _ _ _ ?_;have y:∀k,k∈bM (o::rest.take (m-1))->k∈bM ((o::rest.take (m-1))++(f::g)):=λk b=>by
       simp only[bM,sN,ed];exact .inl b
      have q:∀k,k∈bM (f::g)->k∈bM ((o::rest.take (m-1))++(f::g)):=λk b=>by
       simp only[bM,sN,ed];exact .inr b
      have D:∀k,f.dst=some k->k∈bM (f::g):=λk b=>by simp[bM,b]
      have j:∀k,k∈bM g->k∈bM (f::g):=λk b=>by
       simp only[bM,sM];split
       .exact b
       .exact l0 _ b
      have fin:∀ (x:Exit) (a1:Act) (w1:I),gR a (bM (o::rest.take (m-1)))
       (λe' w'=>match lE f e' with|some r=>fY P tk ops n g (as.drop m) K (c_ f.dst (.bool r) e) w'|none=>False) x a1 w1->
       x=.normal/\wpList P ops (gR a (bM ((o::rest.take (m-1))++(f::g))) K) (f::g) a1 w1:=by
       rintro x a1 w1 ⟨hx,t,H,N,h⟩;refine⟨hx,?_⟩;have E:=zq au M t;split at h
       .rename_i r p
        simp only[wpList,zt E L,if_true];left;unfold Oper.wp;rw[zr N p w1];simp only[Oper.upon];have F:dS (bM (f::g)) a1 (a1.put f.dst (.bool r)):=dS.put D;have:=A g (as.drop m) K (c_ f.dst (.bool r) e) (a1.put f.dst (.bool r)) w1
         (E.put λk b=>by rw[t.size];exact hb k (q k (D k b)))
         (λd hd=>by rw[F.size,t.size];exact hb d (q d (j d hd))) h
        refine jd (λx a' w' ⟨aJ,aW,z⟩=>⟨aJ,(t.mono y).trans ((F.mono q).trans (aW.mono λk b=>q k (j k b))),z⟩) _ _ _ this
       .exact h.elim
      have h:=h.out
      cases c with
      |true=>
       have:=A _ _ _ _ a w (au.lit C) (λd hd=>hb d (y d hd)) (h.1 rfl);exact jd fin _ _ _ this
      |false=>
       have:=A _ _ _ _ a w (au.lit C) (λd hd=>hb d (y d hd)) (h.2 rfl);exact jd fin _ _ _ this
     .exact h.elim
    |pure m=>
     simp only[fY]at h;split at h
     .exact one o rest as hb (B2 h False.elim)
     .rename_i s c f g hg hd
      split at h
      .rename_i aP aU h1 h2
       split at h
       .rename_i r1 b8 T U
        obtain⟨L,M,h⟩:mL ops f e=true/\nK e (bM (o::rest.take (m-1)))=true/\_:=by
         cases aJ:mL ops f e<;>cases aW:nK e (bM (o::rest.take (m-1)))<;>rw[aJ,aW]at h<;>first|exact h.elim|exact⟨rfl,rfl,h⟩
        rw[zv o rest (m-1) hd]at hb⊢;have C:=zu hg;refine s_ _ _ _ _ ?_;have y:∀k,k∈bM (o::rest.take (m-1))->k∈bM ((o::rest.take (m-1))++(f::g)):=λk b=>by
         simp only[bM,sN,ed];exact .inl b
        have q:∀k,k∈bM (f::g)->k∈bM ((o::rest.take (m-1))++(f::g)):=λk b=>by
         simp only[bM,sN,ed];exact .inr b
        have D:∀k,f.dst=some k->k∈bM (f::g):=λk b=>by simp[bM,b]
        have j:∀k,k∈bM g->k∈bM (f::g):=λk b=>by
         simp only[bM,sM];split
         .exact b
         .exact l0 _ b
        have fin:∀ (H:Env) (r:ai) (a1:Act),dS (bM (o::rest.take (m-1))) a a1->de H a1->lE f H=some r->r=cond c r1 b8->
         wpList P ops (gR a (bM ((o::rest.take (m-1))++(f::g))) K) (f::g) a1 w:=by
         intro H r a1 t N p V;have E:=zq au M t;simp only[wpList,zt E L,if_true];left;unfold Oper.wp;rw[zr N p w];simp only[Oper.upon];have F:dS (bM (f::g)) a1 (a1.put f.dst (.bool r)):=dS.put D;have:=A g (as.drop m) K (c_ f.dst (.bool (cond c r1 b8)) e) (a1.put f.dst (.bool r)) w
          (by rw[V];exact E.put λk b=>by rw[t.size];exact hb k (q k (D k b)))
          (λd hd=>by rw[F.size,t.size];exact hb d (q d (j d hd))) h
         refine jd (λx a' w' ⟨aJ,aW,z⟩=>⟨aJ,(t.mono y).trans ((F.mono q).trans (aW.mono λk b=>q k (j k b))),z⟩) _ _ _ this
        cases c with
        |true=>
         have:=B4 n _ _ _ aP a w (au.lit C) (λd hd=>hb d (y d hd)) h1;exact jd (λx a' w' ⟨aJ,aW,z,Q⟩=>⟨aJ,by subst Q;exact fin aP r1 a' aW z T rfl⟩) _ _ _ this
        |false=>
         have:=B4 n _ _ _ aU a w (au.lit C) (λd hd=>hb d (y d hd)) h2;exact jd (λx a' w' ⟨aJ,aW,z,Q⟩=>⟨aJ,by subst Q;exact fin aU b8 a' aW z U rfl⟩) _ _ _ this
       .exact h.elim
      .exact h.elim
     .exact h.elim
end
end aO
namespace aO
open Go
structure ad(W:Nat->Prop)(w w':I):Prop where
 os:w'.os=w.os
 tape:w'.tape=w.tape
 output:w'.output=w.output
 size:w.heap.size<=w'.heap.size
 block:∀k,k<w.heap.size->¬W k->w'.heap[k]? =w.heap[k]?
theorem ad.refl(W:Nat->Prop)(w:I):ad W w w:=⟨rfl,rfl,rfl,bk _,λ_ _ _=>rfl⟩
theorem ad.trans{W:Nat->Prop}{a b c:I}(h:ad W a b)(k:ad W b c):ad W a c:=
 ⟨k.os.trans h.os,k.tape.trans h.tape,k.output.trans h.output,dG h.size k.size,λi hi d=>(k.block i (fX hi h.size) d).trans (h.block i hi d)⟩
theorem ad.mono{W V:Nat->Prop}{a b:I}(h:ad W a b)(c:∀k,k<a.heap.size->W k->V k):ad V a b:=
 ⟨h.os,h.tape,h.output,h.size,λi hi d=>h.block i hi λb4=>d (c i hi b4)⟩
theorem ad.cell{W:Nat->Prop}{w w':I}(h:ad W w w'){A:ar}(b4:¬W A.block){v:O}(a:w.cell? A=some v):w'.cell? A=some v:=by
 have hb:A.block<w.heap.size:=by
  rcases eP A.block w.heap.size with h1|h1
  .exact h1
  .simp[World.cell?,Array.getElem?_eq_none h1]at a
 unfold World.cell? at a⊢;rw[h.block _ hb b4];exact a
theorem ad.aT{W:Nat->Prop}{w w':I}(h:ad W w w'){A:ar}(b4:¬W A.block):∀ (n i:Nat) (vs:Y O),aT w A i n=some vs->aT w' A i n=some vs
 |0,_,_,a=>a
 |n+1,i,vs,a=>by
  simp only[aO.aT]at a⊢
  have b:(A.add i).block=A.block:=by unfold Addr.add;split<;>rfl
  cases h1:w.cell? (A.add i) with
  |none=>simp[h1]at a
  |some v=>
   cases h2:aO.aT w A (i+1) n with
   |none=>simp[h1,h2]at a
   |some us=>
    simp only[h1,h2]at a
    rw[h.cell (by rw[b];exact b4) h1,ad.aT h b4 n (i+1) us h2]
    exact a
def fZ{α:Type}:Sem α->Prop
 | .pure _=>True
 | .program k=>∀p,fZ (k p)
 | .halt _=>True
 |_=>False
theorem fZ.bind{α β:Type}:∀ {s:Sem α}{f:α->Sem β},fZ s->(∀a,fZ (f a))->fZ (s>>=f)
 | .pure a,_,_,hf=>hf a
 | .program _,_,h,hf=> λp=>fZ.bind (h p) hf
 | .halt _,_,_,_=>trivial
 | .load ..,_,h,_=>h.elim
 | .store ..,_,h,_=>h.elim
 | .new ..,_,h,_=>h.elim
 | .shape ..,_,h,_=>h.elim
 | .freeze ..,_,h,_=>h.elim
 | .frozen ..,_,h,_=>h.elim
 | .getObj ..,_,h,_=>h.elim
 | .setObj ..,_,h,_=>h.elim
 | .choose ..,_,h,_=>h.elim
 | .sys ..,_,h,_=>h.elim
 | .mark ..,_,h,_=>h.elim
theorem fZ.run{α:Type}{P:Program}:∀ {s:Sem α}{w w':I}{v:α},fZ s->s.run P w=.ok v w'->∀u,s.run P u=.ok v u
 | .pure a,w,w',v,_,h,u=>by
  simp only[Sem.run,Result.ok.injEq]at h⊢
  exact⟨h.1,trivial⟩
 | .program k,w,w',v,hf,h,u=>fZ.run (hf P) h u
 | .halt _,w,w',v,_,h,_=>by simp[Sem.run]at h
 | .load ..,_,_,_,h,_,_=>h.elim
 | .store ..,_,_,_,h,_,_=>h.elim
 | .new ..,_,_,_,h,_,_=>h.elim
 | .shape ..,_,_,_,h,_,_=>h.elim
 | .freeze ..,_,_,_,h,_,_=>h.elim
 | .frozen ..,_,_,_,h,_,_=>h.elim
 | .getObj ..,_,_,_,h,_,_=>h.elim
 | .setObj ..,_,_,_,h,_,_=>h.elim
 | .choose ..,_,_,_,h,_,_=>h.elim
 | .sys ..,_,_,_,h,_,_=>h.elim
 | .mark ..,_,_,_,h,_,_=>h.elim
theorem B6:fZ program:=λ_=>trivial
theorem B7(t:TypeId):fZ (underlying t):=by
 unfold underlying;refine fZ.bind B6 λp=>?_;split<;>trivial
theorem G0(t:TypeId):fZ (typeInfo t):=by
 unfold typeInfo;refine fZ.bind B6 λp=>?_;split<;>trivial
theorem G1(t:TypeId):fZ (Go.sizeOf t):=fZ.bind (G0 t) λ_=>trivial
theorem G2(t:TypeId):fZ (isAgg t):=by
 unfold isAgg;refine fZ.bind (B7 t) λd=>?_;split<;>trivial
theorem G3(t:TypeId)(cs:Array O)(off:Nat):fZ (part t cs off):=by
 unfold part;refine fZ.bind (G2 t) λd=>?_;split
 .exact fZ.bind (G1 t) λ_=>trivial
 .split<;>trivial
theorem G4(t:TypeId)(x:O)(i:Nat):fZ (Instr.field t x i):=by
 unfold Instr.field;refine fZ.bind (B7 t) λd=>?_;split
 .split
  .refine fZ.bind ?_ λ_=>G3 _ _ _
   unfold asAgg;split<;>trivial
  .trivial
 .trivial
def B8:Op->ai
 | .move _=>true
 | .assign _=>true
 | .pick _ _ _=>true
 | .field _ _ _=>true
 |_=>false
def tc(P:Program)(o:Oper)(K:O->Prop)(e:Env)(w:I):Prop:=
 bif B8 o.op&&known e o.op.operands then
  match (execOp (ro e) o).run P w with
  | .ok (.value v) _=>K v
  |_=>False
 else False
def qJ(P:Program)(o:Oper)(K:O->Prop)(e:Env):Prop:=
 match fJ P o e with
 |some v=>K v
 |none=>False
def B9(P:Program)(T:TypeId)(x:O)(i:Nat)(K:O->Prop):Prop:=
 match P.underlying T with
 |some (.struct fs)=>match fs[i]? with
  |some f=>match x with
   | .pointer (some A)=>match P.underlying f.type with
    |some _=>bif Nat.beq (P.cellsOf f.type) 0 then False else K (.pointer (some (A.add f.offset)))
    |none=>False
   |_=>False
  |none=>False
 |_=>False
def B_(x:O)(i:Nat)(K:O->Prop):Prop:=
 match x with
 | .tuple vs=>match vs[i]? with
  |some v=>K v
  |none=>False
 |_=>False
def j3(o:Oper):ai:=
 match o.op with
 | .load _ _=>true
 | .convert _ _ _=>true
 |_=>false
def lF:Nat->Y Oper->Nat
 |_,[]=>0
 |i,o::l=>bif j3 o then 2^i|||lF (i+1) l else lF (i+1) l
def zw(P:Program)(tk:TypeId->dI)(W:Nat->Prop)(w:I)(o:Oper)(K:O->Prop)(e:Env):Prop:=
 match o.op with
 | .nilCheck x=>match ev e x with
  |some (.pointer p)=>∃A,p=some A/\K (.pointer (some A))
  |_=>False
 | .load T x=>match ev e x with
  |some (.pointer (some A))=>¬W A.block/\qE P tk T A w K
  |_=>False
 | .binOp op T x y _=>match ev e x,ev e y with
  |some a,some c=>bif qI y c then ve P op T a c K (qJ P o K e) else False
  |_,_=>False
 | .indexAddr T x i=>match ev e x,ev e i with
  |some a,some b=>vi P T a b K
  |_,_=>False
 | .index T x i=>match ev e x,ev e i with
  |some a,some b=>vj P tk T a b K
  |_,_=>False
 | .field T x i=>match ev e x with
  |some a=>vk P tk T a i K
  |_=>False
 | .fieldAddr T x i=>match ev e x with
  |some a=>B9 P T a i K
  |_=>False
 | .extract x i=>match ev e x with
  |some a=>B_ a i K
  |_=>False
 | .slice T x lo hi f=>bif known e o.op.operands then
  vl P T (ro e x) (lo.map (ro e)) (hi.map (ro e)) (f.map (ro e)) K
  else False
 | .convert s d x=>match ev e x with
  |some (.int _ _)=>qJ P o K e
  |some v=>iB (tk o.type) λr=>(∀w',ad W w w'->(convert s d v).run P w'=.ok r w')/\K r
  |none=>False
 | .build t ps=>bif known e o.op.operands then
  ∃cs:Array O,(∀w',(Instr.build t (ps.map λp=>(p.1,ro e p.2))).run P w'=.ok (.agg cs) w')/\K (.agg cs)
  else False
 | .unOp _ _ _=>qJ P o K e
 | .call _=>qJ P o K e
 | .move _=>tc P o K e w
 | .assign _=>tc P o K e w
 | .pick _ _ _=>tc P o K e w
 | .sliceToArrayPointer T x=>match ev e x with
  |some a=>vh P T a K
  |_=>False
 |_=>False
section
variable {P:Program}{tk:TypeId->dI}{W:Nat->Prop}{o:Oper}{K:O->Prop}{e:Env}{a:Act}{w:I}
theorem zx(au:de e a)(h:tc P o K e w):∃v,(∀w',(execOp a.eval o).run P w'=.ok (.value v) w')/\K v:=by
 unfold tc at h
 cases hf:B8 o.op with
 |false=>rw[hf]at h;exact h.elim
 |true=>
  cases c:known e o.op.operands with
  |false=>rw[hf,c]at h;exact h.elim
  |true=>
   rw[hf,c]at h;simp only[Bool.and_self,cond_true]at h;have hc:=k3 au (by cases b:o.op<;>rw[b]at hf<;>first|rfl|cases hf) c;rw[hc];split at h
   .rename_i v w' d
    refine⟨v,λu=>fZ.run ?_ d u,h⟩
    cases b:o.op<;>rw[b]at hf<;>first|(cases hf;done)|skip
    .simp only[execOp,b];trivial
    .simp only[execOp,b];trivial
    .simp only[execOp,b]
     refine fZ.bind ?_ λ_=>trivial;unfold asBool;split<;>trivial
    .simp only[execOp,b]
     exact fZ.bind (G4 _ _ _) λ_=>trivial
   .exact h.elim
theorem vo(au:de e a)(h:qJ P o K e):∃v,(∀w',(execOp a.eval o).run P w'=.ok (.value v) w')/\K v:=by
 unfold qJ at h;split at h
 .rename_i v b
  exact⟨v,B3 au b,h⟩
 .exact h.elim
theorem G5(au:de e a)(h:zw P tk W w o K e):∃v,(∀w',(j3 o=true->ad W w w')->(execOp a.eval o).run P w'=.ok (.value v) w')/\K v:=by
 have cp:(∃v,(∀w',(execOp a.eval o).run P w'=.ok (.value v) w')/\K v)->∃v,(∀w',(j3 o=true->ad W w w')->(execOp a.eval o).run P w'=.ok (.value v) w')/\K v:=
  λ⟨v,h1,h2⟩=>⟨v,λw' _=>h1 w',h2⟩
 unfold zw at h;split at h
 case h_1 x b=>
  split at h
  .rename_i p hx
   obtain⟨A,rfl,g⟩:=h;exact⟨_,λw' _=>by simp[execOp,b,au.ev hx],g⟩
  .exact h.elim
 case h_2 T x b=>
  split at h
  .rename_i A hx
   obtain⟨b4,h⟩:=h;have key:∃v,(∀w',ad W w w'->(Instr.loadAt T (.pointer (some A))).run P w'=.ok v w')/\K v:=by
    have aP:∀w',(Instr.loadAt T (.pointer (some A))).run P w'=(loadVar T A).run P w':=λw'=>by simp[Instr.loadAt,Instr.sureAddr]
    unfold qE at h;split at h
    .exact h.elim
    .rename_i d m
     cases hd:gP d with
     |true=>
      rw[hd]at h;simp only[cond_true]at h;split at h
      .rename_i ls _
       by_cases hb:Nat.beq (P.cellsOf T) ls.length=true
       .rw[hb]at h
        simp only[cond_true]at h;obtain⟨vs,z,h⟩:=zn h;rw[←iN hb]at z;exact⟨_,λw' hc=>by rw[aP,vd m hd (hc.aT b4 _ _ _ z)],h⟩
       .simp only[fI]at hb;rw[hb]at h;exact h.elim
      .obtain⟨cs,D,h⟩:=h
       exact⟨_,λw' hc=>by rw[aP,vd m hd (hc.aT b4 _ _ _ D)],h⟩
     |false=>
      rw[hd]at h;simp only[cond_false]at h;split at h
      .obtain⟨v,j,h⟩:=qC h
       exact⟨v,λw' hc=>by rw[aP,BJ m hd (hc.cell b4 j)],h⟩
      .exact h.elim
   obtain⟨v,j,g⟩:=key;exact⟨v,λw' hc=>by simp[execOp,b,au.ev hx,j w' (hc (by unfold j3;rw[b]))],g⟩
  .exact h.elim
 case h_3 op T x y I b=>
  split at h
  .rename_i l B hx E
   by_cases n:qI y B=true
   .rw[n]at h
    simp only[cond_true]at h;have F:B=.nilIface->∃c,y=.const c:=by
     intro j;subst j
     cases y<;>simp[qI]at n⊢
    rcases BP (s4:=x) (qH:=y) F h with hg|⟨v,j,g⟩
    .exact cp (vo au hg)
    .exact⟨v,λw' _=>by
      simp only[execOp,b,au.ev hx,au.ev E];have C:=j w';simp only[Sem.run_bind]at C⊢;rw[C];rfl,g⟩
   .simp only[fI]at n;rw[n]at h;exact h.elim
  .exact h.elim
 case h_4 T x i b=>
  split at h
  .rename_i l G hx hi
   obtain⟨v,j,g⟩:=BR h;exact⟨v,λw' _=>by simp[execOp,b,au.ev hx,au.ev hi,j],g⟩
  .exact h.elim
 case h_5 T x i b=>
  split at h
  .rename_i l G hx hi
   obtain⟨v,j,g⟩:=BT h;exact⟨v,λw' _=>by simp[execOp,b,au.ev hx,au.ev hi,j],g⟩
  .exact h.elim
 case h_6 T x i b=>
  split at h
  .rename_i l hx
   obtain⟨v,j,g⟩:=BU h;exact⟨v,λw' _=>by simp[execOp,b,au.ev hx,j],g⟩
  .exact h.elim
 case h_7 T x i b=>
  split at h
  .rename_i l hx
   unfold B9 at h;split at h
   .rename_i fs m
    split at h
    .rename_i f hf
     split at h
     .rename_i A
      split at h
      .rename_i d hd
       cases q:Nat.beq (P.cellsOf f.type) 0 with
       |true=>rw[q]at h;exact h.elim
       |false=>
        rw[q]at h;have H:¬P.cellsOf f.type=0:=λh0=>by rw[h0]at q;cases q
        exact⟨_,λw' _=>by simp[execOp,b,au.ev hx,Instr.fieldAt,cY m,hf,Instr.sureAddr,fieldPlace,hM hd,H],h⟩
      .exact h.elim
     .exact h.elim
    .exact h.elim
   .exact h.elim
  .exact h.elim
 case h_8 x i b=>
  split at h
  .rename_i l hx
   unfold B_ at h;split at h
   .rename_i vs
    split at h
    .rename_i v j
     exact⟨v,λw' _=>by simp[execOp,b,au.ev hx,Instr.extract,j],h⟩
    .exact h.elim
   .exact h.elim
  .exact h.elim
 case h_9 T x lo hi J b=>
  by_cases k:known e o.op.operands=true
  .rw[k]at h
   simp only[cond_true]at h;have hc:=k3 au (by rw[b];rfl) k;obtain⟨v,j,g⟩:=BV h;exact⟨v,λw' _=>by rw[hc];simp[execOp,b,j],g⟩
  .simp only[fI]at k;rw[k]at h;exact h.elim
 case h_10 s d x b=>
  split at h
  .exact cp (vo au h)
  .rename_i v _ hx
   obtain⟨r,u,g⟩:=iO h;exact⟨r,λw' hc=>by simp[execOp,b,au.ev hx,u w' (hc (by unfold j3;rw[b]))],g⟩
  .exact h.elim
 case h_11 t ps b=>
  by_cases k:known e o.op.operands=true
  .rw[k]at h
   simp only[cond_true]at h;have hc:=k3 au (by rw[b];rfl) k;obtain⟨cs,u,g⟩:=h;exact⟨_,λw' _=>by rw[hc];simp[execOp,b];rw[u];rfl,g⟩
  .simp only[fI]at k;rw[k]at h;exact h.elim
 case h_12=>exact cp (vo au h)
 case h_13=>exact cp (vo au h)
 case h_14=>exact cp (zx au h)
 case h_15=>exact cp (zx au h)
 case h_16=>exact cp (zx au h)
 case h_17 T x b=>
  split at h
  .rename_i l hx
   obtain⟨v,j,g⟩:=BQ h;exact⟨v,λw' _=>by simp[execOp,b,au.ev hx,j],g⟩
  .exact h.elim
 case h_18=>exact h.elim
end
inductive bf where
 |take (i:Nat) (t:bf)
 |bU (i:Nat) (t:bf)
 |out (i:Nat) (b:ai) (t:bf)
 |two (i:Nat) (t:bf) (j:Nat) (u:bf)
 |three (i:Nat) (t:bf) (j:Nat) (u:bf) (k:Nat) (v:bf)
 |sp (s:Nat) (t u:bf)
 |fin
 |tail (as:Y k4)
def iD:Y Nat->Nat
 | []=>0
 |d::l=>2^d|||iD l
theorem mM:∀ (l:Y Nat) (k:Nat),(iD l).testBit k=decide (k∈l)
 | [],k=>by simp[iD]
 |d::l,k=>by
  simp only[iD,nz,mM l k,sO]
  by_cases h:d=k
  .subst h;simp
  .have:¬k=d:=λa=>h a.symm
   simp[h,this]
def nL(o:Oper):Y Nat:=(o.after.toList.filter λe=>Region.binds .any e).map (·.on)
structure k5 where
 M:Y Nat
 A:Y Nat
def k6(l:Y Nat)(i:Nat):Nat:=l.getD i 0
def k7(bV:k5)(m i:Nat):ai:= !(m.testBit i)&&Nat.beq (k6 bV.M i&&&m) (k6 bV.M i)
def Ca(bV:k5)(N m i:Nat):ai:=Nat.beq (k6 bV.A i&&&((2^N-1)^^^m)) 0
def lG(bV:k5)(m:Nat)(is:Y Nat):Nat->ai
 |0=>true
 |k+1=>(is.any (Nat.beq k)|| !(k7 bV m k))&&lG bV m is k
def td(bV:k5):Nat->Y Oper->ai
 |_,[]=>true
 |i,o::l=>Nat.beq (iD (nL o)) (k6 bV.M i)&&td bV (i+1) l
def te(M:Y Nat)(a i b c:Nat):Nat->Y Nat->Y Nat->Y Nat->ai
 |j,e::f,d::g,h::k=>(a.testBit j||(Nat.beq i j||(e.testBit i||(Nat.beq (b&&&(h|||d)) 0&&Nat.beq (d&&&c) 0))))&&te M a i b c (j+1) f g k
 |_,_,_,_=>true
def vp(bV:k5)(D K:Y Nat):Nat->Y Nat->Y Nat->ai
 |i,d::a,k::b=>te bV.M (k6 bV.A i) i d k 0 bV.M D K&&vp bV D K (i+1) a b
 |_,_,_=>true
def Cb(ops:Y Oper):Y Nat:=ops.map λo=>iD o.dst.toList
def Cc(a:Array Oper)(ops:Y Oper):Y Nat:=ops.map λo=>iD (o.looksAt a)
def tf:Y Nat->Y Nat->ai
 | [],[]=>true
 |a::l,b::r=>Nat.beq a b&&tf l r
 |_,_=>false
theorem zy:∀ {l r:Y Nat},tf l r=true->l=r
 | [],[],_=>rfl
 |a::l,b::r,h=>by
  simp only[tf,du]at h
  rw[iN h.1,zy h.2]
def l4(bV:k5)(D K:Y Nat)(a:Array Oper):ai:=
 Nat.beq bV.M.length a.size&&(td bV 0 a.toList&&(tf (Cb a.toList) D&&(tf (Cc a a.toList) K&&vp bV D K 0 D K)))
def tg(bV:k5):Nat->Nat->Nat->Nat->ai
 |0,_,N,m=>lG bV m [] N
 |g+1,k,N,m=>(k7 bV m k&&lG bV m [k] N)&&tg bV g (k+1) N (m|||2^k)
def dO(P:Program)(tk:TypeId->dI)(ops:Array Oper)(n:Nat)(bV:k5)(W:Nat->Prop):bf->Nat->Nat->(Env->I->Prop)->Env->I->Prop
 | .take i t,f+1,m,K,e,w=>
  bif k7 bV m i&&(Ca bV ops.size m i&&Nat.blt i n) then
   match ops[i]? with
   |some o=>hC ops o e (zw P tk W w o (λv=>dO P tk ops n bV W t f (m|||2^i) K (c_ o.dst v e) w) e) (dO P tk ops n bV W t f (m|||2^i) K (c_ o.dst undef e) w)
   |none=>False
  else False
 | .bU i t,f+1,m,K,e,w=>
  bif (k7 bV m i&&lG bV m [i] ops.size)&&Nat.blt i n then
   match ops[i]? with
   |some o=>hC ops o e (j2 P tk o (λv w'=>ad W w w'/\dO P tk ops n bV W t f (m|||2^i) K (c_ o.dst v e) w') e w) (dO P tk ops n bV W t f (m|||2^i) K (c_ o.dst undef e) w)
   |none=>False
  else False
 | .out i b t,f+1,m,K,e,w=>
  bif (k7 bV m i&&lG bV m [i] ops.size)&&(Nat.blt i n&&Nat.beq ((lF 0 ops.toList&&&m)&&&k6 bV.M i) (lF 0 ops.toList&&&m)) then
   match ops[i]? with
   |some o=>hC ops o e (j2 P tk o (λv w'=>bif b then ∃V:Nat->Prop,dO P tk ops n bV V t f (m|||2^i) K (c_ o.dst v e) w' else dO P tk ops n bV W t f (m|||2^i) K (c_ o.dst v e) w') e w) (dO P tk ops n bV W t f (m|||2^i) K (c_ o.dst undef e) w)
   |none=>False
  else False
 | .two i t j u,f+1,m,K,e,w=>
  bif (k7 bV m i&&lG bV m [i,j] ops.size)&&(Nat.blt i n&&Nat.blt j n) then
   match ops[i]?,ops[j]? with
   |some o,some q=>
    hC ops o e (j2 P tk o (λv w'=>ad W w w'/\dO P tk ops n bV W t f (m|||2^i) K (c_ o.dst v e) w') e w) (dO P tk ops n bV W t f (m|||2^i) K (c_ o.dst undef e) w)/\
    hC ops q e (j2 P tk q (λv w'=>ad W w w'/\dO P tk ops n bV W u f (m|||2^j) K (c_ q.dst v e) w') e w) (dO P tk ops n bV W u f (m|||2^j) K (c_ q.dst undef e) w)
   |_,_=>False
  else False
 | .three i t j u k x,f+1,m,K,e,w=>
  bif (k7 bV m i&&lG bV m [i,j,k] ops.size)&&(Nat.blt i n&&(Nat.blt j n&&Nat.blt k n)) then
   match ops[i]?,ops[j]?,ops[k]? with
   |some o,some q,some r=>
    hC ops o e (j2 P tk o (λv w'=>ad W w w'/\dO P tk ops n bV W t f (m|||2^i) K (c_ o.dst v e) w') e w) (dO P tk ops n bV W t f (m|||2^i) K (c_ o.dst undef e) w)/\
    hC ops q e (j2 P tk q (λv w'=>ad W w w'/\dO P tk ops n bV W u f (m|||2^j) K (c_ q.dst v e) w') e w) (dO P tk ops n bV W u f (m|||2^j) K (c_ q.dst undef e) w)/\
    hC ops r e (j2 P tk r (λv w'=>ad W w w'/\dO P tk ops n bV W x f (m|||2^k) K (c_ r.dst v e) w') e w) (dO P tk ops n bV W x f (m|||2^k) K (c_ r.dst undef e) w)
   |_,_,_=>False
  else False
 | .sp s t u,f,m,K,e,w=>
  match e.get s with
  |some (.bool c)=>(c=true->dO P tk ops n bV W t f m K ((s,.bool true)::e) w)/\(c=false->dO P tk ops n bV W u f m K ((s,.bool false)::e) w)
  |_=>False
 | .fin,0,m,K,e,w=>bif lG bV m [] ops.size&&Nat.beq n ops.size then K e w else False
 | .tail as,0,m,K,e,w=>bif tg bV (ops.size-n) n ops.size m&&Nat.blt n ops.size then fY P tk ops (ops.size-n+1) (ops.toList.drop n) as K e w else False
 |_,_,_,_,_,_=>False
def eD(N m:Nat):Array ai:=(Array.range N).map λi=>m.testBit i
theorem qK{N m i:Nat}{d:ai}(h:i<N):(eD N m).getD i d=m.testBit i:=by
 simp[eD,h]
theorem G6{N m i:Nat}{d:ai}(h:N<=i):(eD N m).getD i d=d:=by
 simp[eD,h]
theorem vq(N m i:Nat):(eD N m).setIfInBounds i true=eD N (m|||2^i):=by
 apply Array.ext
 .simp[eD]
 .intro j h1 h2
  have b:j<N:=by simpa[eD] using h2
  have c:j<(eD N m).size:=by simpa[eD] using b
  rw[Array.getElem_setIfInBounds c];simp only[eD,Array.getElem_map,Array.getElem_range,nz,sO];by_cases a:i=j
  .subst a;simp
  .simp[a]
theorem Cd(N:Nat):eD N 0=Array.replicate N false:=by
 apply Array.ext
 .simp[eD]
 .intro j h1 h2
  simp[eD]
section
variable {ops:Array Oper}{bV:k5}{D K:Y Nat}
theorem Ce:∀ (l:Y Oper) (i k:Nat) (o:Oper),td bV i l=true->l[k]? =some o->k6 bV.M (i+k)=iD (nL o)
 | [],_,_,_,_,h=>by simp at h
 |p::l,i,0,o,hc,h=>by
  simp only[td,du]at hc
  simp only[nA,Option.some.injEq]at h
  subst h
  exact(iN hc.1).symm
 |p::l,i,k+1,o,hc,h=>by
  simp only[td,du]at hc
  have:=Ce l (i+1) k o hc.2 (by simpa using h)
  rw[show i+(k+1)=i+1+k from J]
  exact this
theorem vr(h:l4 bV D K ops=true){i:Nat}{o:Oper}(a:ops[i]? =some o):k6 bV.M i=iD (nL o):=by
 simp only[l4,du]at h;have:=Ce ops.toList 0 i o h.2.1 (by simpa using a);simpa using this
theorem Cf{a b:Nat}(h:a&&&b=a){k:Nat}(c:a.testBit k=true):b.testBit k=true:=by
 have:=congrArg (λx=>x.testBit k) h;simp only[Nat.testBit_and,c,iy]at this;exact this
theorem Cg:∀ (l:Y Oper) (i k:Nat) (o:Oper),l[k]? =some o->(lF i l).testBit (i+k)=j3 o
 | [],_,_,_,h=>by simp at h
 |p::l,i,0,o,h=>by
  simp only[nA,Option.some.injEq]at h
  subst h
  have low:∀ (l:Y Oper) (i k:Nat),k<i->(lF i l).testBit k=false:=by
   intro l
   induction l with
   |nil=>intro i k _;simp[lF]
   |cons q l a=>
    intro i k b;simp only[lF]
    cases j3 q
    .exact a (i+1) k J
    .simp only[cond_true,nz,sO,a (i+1) k J,Bool.or_false,kX]
     omega
  simp only[lF,kV]
  cases j3 p
  .exact low l (i+1) i J
  .simp[nz]
 |p::l,i,k+1,o,h=>by
  have:=Cg l (i+1) k o (by simpa using h);rw[show i+1+k=i+(k+1) from J]at this;simp only[lF]
  cases j3 p
  .exact this
  .simp only[cond_true,nz,sO,this]
   simp
theorem vt{o:Oper}{k:Nat}:k∈nL o↔∃e∈o.after,Region.binds .any e=true/\e.on=k:=by
 simp only[nL,dj,hJ,Array.mem_toList_iff];constructor
 .rintro⟨e,⟨h1,h2⟩,a⟩;exact⟨e,h1,h2,a⟩
 .rintro⟨e,h1,h2,a⟩;exact⟨e,⟨h1,h2⟩,a⟩
def Small(N m:Nat):Prop:=∀k,N<=k->m.testBit k=false
theorem G7(N:Nat):Small N 0:=λk _=>by simp
theorem vu{N m i:Nat}(h:Small N m)(hi:i<N):Small N (m|||2^i):=λk a=>by
 simp only[nz,h k a,sO,mG,kX]
 omega
theorem vv(hc:l4 bV D K ops=true){m i:Nat}(hm:Small ops.size m):i∈Region.ready .any ops (eD ops.size m)↔i<ops.size/\k7 bV m i=true:=by
 rw[mem_ready];constructor
 .rintro⟨h1,o,a,d⟩
  have hi:i<ops.size:=(ly.1 a).1;refine⟨hi,?_⟩;rw[qK hi]at h1;simp only[k7,h1,Bool.not_false,iy];rw[vr hc a];have:iD (nL o)&&&m=iD (nL o):=by
   apply Nat.eq_of_testBit_eq;intro k;simp only[Nat.testBit_and,mM];by_cases b:k∈nL o
   .obtain⟨e,he,hb,f⟩:=vt.1 b
    have h2:=d e he hb;rw[f]at h2;rcases eP k ops.size with aI|g
    .rw[qK aI]at h2;simp[b,h2]
    .rw[G6 g]at h2;cases h2
   .simp[b]
  rw[this];exact Nat.beq_refl _
 .rintro⟨hi,h⟩
  simp only[k7,du,kW]at h;have a:ops[i]? =some ops[i]:=by simp[hi]
  refine⟨by rw[qK hi];exact h.1,ops[i],a,λe he hb=>?_⟩;have h2:=iN h.2;rw[vr hc a]at h2;have c:m.testBit e.on=true:=Cf h2 (by
   rw[mM];simp only[cT];exact vt.2 ⟨e,he,hb,rfl⟩)
  have aI:e.on<ops.size:=by
   rcases eP e.on ops.size with h|h
   .exact h
   .rw[hm _ h]at c;cases c
  rw[qK aI];exact c
theorem Ch:∀ (N:Nat) {m:Nat}{is:Y Nat},lG bV m is N=true->∀k,k<N->k7 bV m k=true->k∈is
 |0,_,_,_,k,b,_=>by omega
 |N+1,m,is,h,k,b,a=>by
  simp only[lG,du,jv,kW]at h
  rcases eP k N with h1|h1
  .exact Ch N h.2 k h1 a
  .have:k=N:=by omega
   subst this
   rcases h.1 with h2|h2
   .obtain⟨x,hx,hb⟩:=nB.1 h2
    rw[iN hb];exact hx
   .rw[a]at h2;cases h2
theorem o6(hc:l4 bV D K ops=true){m:Nat}{is:Y Nat}(hm:Small ops.size m)(h:lG bV m is ops.size=true):
 ∀k∈Region.ready .any ops (eD ops.size m),k∈is:=λk a=>
 let ⟨h1,h2⟩:=(vv hc hm).1 a
 Ch _ h k h1 h2
theorem Ci:∀ (b c d:Y Nat) (n:Y Nat) (e i f g j k:Nat) (l a m:Nat),te n e i f g j b c d=true->b[k]? =some l->c[k]? =some a->d[k]? =some m->
 e.testBit (j+k)=true\/i=j+k\/l.testBit i=true\/(f&&&(m|||a)=0/\a&&&g=0)
 | [],_,_,_,_,_,_,_,_,_,_,_,_,_,h,_,_=>by simp at h
 |_::_,[],_,_,_,_,_,_,_,_,_,_,_,_,_,h,_=>by simp at h
 |_::_,_::_,[],_,_,_,_,_,_,_,_,_,_,_,_,_,h=>by simp at h
 |p::b,q::c,r::d,n,e,i,f,g,j,k,l,a,m,hc,h1,h2,o=>by
  simp only[te,du,jv]at hc
  cases k with
  |zero=>
   simp only[nA,Option.some.injEq]at h1 h2 o
   subst h1 h2 o
   rcases hc.1 with h|h|h|h
   .exact .inl h
   .exact .inr (.inl (iN h))
   .exact .inr (.inr (.inl h))
   .exact .inr (.inr (.inr ⟨iN h.1,iN h.2⟩))
  |succ k=>
   have:=Ci b c d n e i f g (j+1) k l a m hc.2 (by simpa using h1) (by simpa using h2) (by simpa using o)
   rw[show j+(k+1)=j+1+k from J]
   exact this
theorem Cj:∀ (a b:Y Nat) (i k:Nat) (c e:Nat),vp bV D K i a b=true->a[k]? =some c->b[k]? =some e->
 te bV.M (k6 bV.A (i+k)) (i+k) c e 0 bV.M D K=true
 | [],_,_,_,_,_,_,h,_=>by simp at h
 |_::_,[],_,_,_,_,_,_,h=>by simp at h
 |d::a,f::b,i,k,c,e,hc,h1,h2=>by
  simp only[vp,du]at hc
  cases k with
  |zero=>
   simp only[nA,Option.some.injEq]at h1 h2
   subst h1 h2
   exact hc.1
  |succ k=>
   have:=Cj a b (i+1) k c e hc.2 (by simpa using h1) (by simpa using h2)
   rw[show i+(k+1)=i+1+k from J]
   exact this
theorem zz{a b:Nat}(h:a&&&b=0){k:Nat}(c:a.testBit k=true):b.testBit k=false:=by
 have:=congrArg (λx=>x.testBit k) h;simp only[Nat.testBit_and,c,iy,Nat.zero_testBit]at this;exact this
theorem G8{x y:Oper}(h1:iD x.dst.toList&&&(iD (y.looksAt ops)|||iD y.dst.toList)=0)(h2:iD y.dst.toList&&&iD (x.looksAt ops)=0):
 x.apart ops y=true:=by
 unfold Oper.apart;simp only[du];refine⟨?_,?_⟩
 .cases hx:x.dst with
  |none=>rfl
  |some d=>
   rw[hx]at h1;have a:=zz h1 (k:=d) (by rw[mM];simp);simp only[nz,mM,qq,kX]at a;simp only[du,kW,bne_iff_ne,ne_eq];refine⟨by simpa using a.1,λh=>?_⟩;rw[h]at a;simp at a
 .cases b:y.dst with
  |none=>rfl
  |some d=>
   rw[b]at h2;have a:=zz h2 (k:=d) (by rw[mM];simp);simp only[mM,kX]at a;simpa using a
theorem G9(hc:l4 bV D K ops=true){m i:Nat}{d:Oper}(hi:ops[i]? =some d)(h:Ca bV ops.size m i=true):
 ∀j a,ops[j]? =some a->j≠i->(eD ops.size m).getD j true=false->(∀e∈a.after,Region.binds .any e=true->e.on≠i)->d.apart ops a=true:=by
 intro j a b p f q;have r:=hc;simp only[l4,du]at hc;obtain⟨hlen,A,s,t,au⟩:=hc;have B:=iN hlen;have u:=zy s;have v:=zy t;have g:j<ops.size:=(ly.1 b).1;have l:∀ {k:Nat}{o:Oper},ops[k]? =some o->D[k]? =some (iD o.dst.toList):=λ{k o} c=>by
  rw[←u];simp[Cb,c]
 have n:∀ {k:Nat}{o:Oper},ops[k]? =some o->K[k]? =some (iD (o.looksAt ops)):=λ{k o} c=>by
  rw[←v];simp[Cc,c]
 have w:=Cj D K 0 i _ _ au (l hi) (n hi);have x:bV.M[j]? =some (k6 bV.M j):=by
  unfold k6;have:j<bV.M.length:=by omega
  simp[List.getD,this]
 have:=Ci bV.M D K bV.M _ _ _ _ 0 j _ _ _ w x (l b) (n b);simp only[cg]at this;rcases this with h1|h1|h1|h1
 .exfalso
  have h2:=iN h;have y:=zz h2 h1;rw[qK g]at f;simp[Nat.testBit_xor,Nat.testBit_two_pow_sub_one,g,f]at y
 .exact absurd h1.symm p
 .exfalso
  rw[vr r b,mM]at h1;simp only[cT]at h1;obtain⟨e,he,hb,z⟩:=vt.1 h1;exact q e he hb z
 .exact G8 h1.1 h1.2
end
def o7(ops:Array Oper)(listed:Array ai)(j:Nat):Prop:=
 ∀k ok a,ops[k]? =some ok->ops[j]? =some a->j3 ok=true->listed.getD k false=true->∃e∈a.after,Region.binds .any e=true/\e.on=k
def l5(P:Program)(ops:Array Oper)(Q:Exit->Act->I->Prop)(n:Nat)(L:Array ai->Act->I->Prop):Nat->(I->Prop)->Array ai->Act->I->Prop
 |0,_,listed,a,w=>L listed a w
 |f+1,S,listed,a,w=>Region.ready .any ops listed≠ []/\
  ∀i∈Region.ready .any ops listed,i<n/\wpOp P ops Q i (λa' w'=>∃aM:I->Prop,((∀x,aM x->S x)\/o7 ops listed i)/\aM w'/\l5 P ops Q n L f aM (listed.setIfInBounds i true) a' w') a w
def th(ops:Array Oper)(n:Nat):Prop:=
 ∀listed,HeadInv .any ops n listed->∀i,i<n->listed.getD i true=false->∀t,n<=t->t∉Region.ready .any ops listed
theorem G_(ops:Array Oper):th ops ops.size:=by
 intro listed _ i _ _ t ht a;obtain⟨_,o,b,_⟩:=mem_ready.1 a;have:=(ly.1 b).1;omega
theorem Ha{ops:Array Oper}{n:Nat}(hs:Region.sinkB .any ops n=true)(hc:Region.chainB .any ops n=true)(a:n<ops.size):th ops n:=
 λ_ inv i hi b t ht=>tail_waits hs hc a inv _ i rfl hi b t ht
section
variable {P:Program}{ops:Array Oper}{Q:Exit->Act->I->Prop}{n:Nat}{L:Array ai->Act->I->Prop}
theorem YieldsIf.mono{S aM:I->Prop}{o:Oper}{v:O}{a:Act}(h:YieldsIf P ops S o v a)(hs:∀x,aM x->S x):YieldsIf P ops aM o v a:=
 h.imp (λ⟨h1,h2⟩=>⟨h1,λw b=>h2 w (hs w b)⟩) id
theorem Hb(D:th ops n){i:Nat}{l:Oper}{v:O}(hi:ops[i]? =some l)(E:∀ (j:Nat) (o:Oper) cs b,ops[j]? =some o->o.op≠ .select cs b)
 (aa:∀c a w,Q (.panic c) (a.put l.dst v) w->Q (.panic c) a w) (F:i<n) (ab:∀listed a w,L listed a w->∀j∈Region.ready .any ops listed,n<=j):
 ∀ (f:Nat) (S T:I->Prop) (listed:Array ai) (a:Act) (w:I),(∀x,S x->T x)->(j3 l=true\/∀x,T x)->HeadInv .any ops n listed->
  (∀j q,ops[j]? =some q->j≠i->listed.getD j true=false->(∀e∈q.after,Region.binds .any e=true->e.on≠i)->l.apart ops q=true)->
  i∈Region.ready .any ops listed->YieldsIf P ops T l v a->S w->
  l5 P ops Q n L f S (listed.setIfInBounds i true) (a.put l.dst v) w->l5 P ops Q n L (f+1) S listed a w:=by
 intro f
 induction f with
 |zero=>
  intro S T listed a w u G inv _ m y s H;have d:=(mem_ready.1 m).1;refine⟨λh=>(by rw[h]at m;cases m),λj r=>?_⟩;have t:j<n:=by
   rcases eP j n with h|h
   .exact h
   .exact absurd r (D listed inv i F d j h)
  refine⟨t,?_⟩;by_cases p:j=i
  .subst p;exact(YieldsIf.mono y u).wpOp hi s ⟨S,.inl λ_ h=>h,s,H⟩
  .have:=ab _ _ _ H j (ready_mono r p)
   omega
 |succ f J=>
  intro S T listed a w u G inv K m y s H;have d:=(mem_ready.1 m).1;refine⟨λh=>(by rw[h]at m;cases m),λj r=>?_⟩;have t:j<n:=by
   rcases eP j n with h|h
   .exact h
   .exact absurd r (D listed inv i F d j h)
  refine⟨t,?_⟩;by_cases p:j=i
  .subst p;exact(YieldsIf.mono y u).wpOp hi s ⟨S,.inl λ_ h=>h,s,H⟩
  .have h1:=(H.2 j (ready_mono r p)).2
   obtain⟨M,q,z,ac⟩:=mem_ready.1 r;have N:∀e∈q.after,Region.binds .any e=true->e.on≠i:=λe he hb ad=>by
    have h1:=ac e he hb;rw[ad,getD_both d]at h1
    cases h1
   have h2:=wpOp_putIf z (K j q z p M N) (λcs b=>E i l cs b hi) (λcs b=>E j q cs b z) aa y h1;have R:∀k ok,ops[k]? =some ok->k≠i->(listed.setIfInBounds j true).getD k true=false->
    (∀e∈ok.after,Region.binds .any e=true->e.on≠i)->l.apart ops ok=true:=λk ok B ae d af=>by
    refine K k ok B ae ?_ af;by_cases U:j=k
    .subst U;exact M
    .rw[getD_set_ne true U]at d;exact d
   refine wpOp_mono (λa' w' ag=>?_) h2;obtain⟨V,aM,W,A,ah⟩:=ag;have C:=ah;rw[←Array.setIfInBounds_comm _ _ p]at C;have aj:o7 ops (listed.setIfInBounds i true) j->o7 ops listed j:=λak k ok al B am hs g=>ak k ok al B am hs (by
    by_cases X:i=k
    .subst X
     have:listed.getD i true=true:=by
      simp only[Array.getD]at g⊢;split at g
      .rename_i aI;simp[aI]at g⊢;exact g
      .cases g
     rw[this]at d;cases d
    .simp only[Array.getD,Array.size_setIfInBounds]at g⊢
     split at g
     .rename_i aI
      simp only[aI,dif_pos];simp only[Array.getInternal_eq_getElem]at g⊢;rw[Array.getElem_setIfInBounds_ne _ X];exact g
     .cases g)
   rcases G with hs|Y
   .have Z:∀x,aM x->S x:=by
     rcases W with h|h
     .exact h
     .exfalso
      obtain⟨e,he,hb,an⟩:=h i l q hi z hs (by
       have aI:i<listed.size:=by
        rcases eP i listed.size with h|h
        .exact h
        .simp[Array.getD,Nat.not_lt.2 h]at d
       simp[Array.getD,aI])
      exact N e he hb an
    exact⟨aM,.inl Z,A,J aM T (listed.setIfInBounds j true) a' w' (λx hx=>u x (Z x hx)) (.inl hs) (inv.set r t) R (ready_mono m (Ne.symm p)) V A C⟩
   .exact⟨aM,W.imp id aj,A,J aM T (listed.setIfInBounds j true) a' w' (λx _=>Y x) (.inr Y) (inv.set r t) R (ready_mono m (Ne.symm p)) V A C⟩
theorem Ck{g:Nat}(b:∀listed a w,L listed a w->wpAny P .any ops Q g listed a w):
 ∀ (f:Nat) (S:I->Prop) (listed:Array ai) (a:Act) (w:I),l5 P ops Q n L f S listed a w->wpAny P .any ops Q (f+g) listed a w
 |0,_,listed,a,w,h=>by rw[cg];exact b _ _ _ h
 |f+1,S,listed,a,w,h=>by
  rw[show f+1+g=(f+g)+1 from J]
  exact⟨λh0=>absurd h0 h.1,λi hi=>wpOp_mono (λa' w' ⟨aM,_,_,c⟩=>Ck b f aM _ a' w' c) (h.2 i hi).2⟩
def LE(P:Program)(ops:Array Oper)(Q:Exit->Act->I->Prop)(n:Nat)(listed:Array ai)(a:Act)(w:I):Prop:=
 (Region.ready .any ops listed=[]/\n=ops.size/\Q .normal a w)\/
 (Region.seqB .any ops (ops.size-n) n listed=true/\n<ops.size/\wpList P ops Q (ops.toList.drop n) a w)
theorem Hc:∀listed a w,LE P ops Q n listed a w->∀j∈Region.ready .any ops listed,n<=j:=by
 rintro listed a w (⟨h,_,_⟩|⟨h,c,_⟩) j b
 .rw[h]at b;cases b
 .exact seqB_ready h j b
theorem Hd:∀listed a w,LE P ops Q n listed a w->wpAny P .any ops Q (ops.size-n) listed a w:=by
 rintro listed a w (⟨h,c,b⟩|⟨h,c,b⟩)
 .subst c
  rw[Nat.sub_self];exact⟨h,b⟩
 .have:=wpAny_of_seq (md:=.any) (P:=P) (Q':=Q) (ops.toList.drop n) n listed a w (λj=>by simp[u3]) (by simpa using h) b
  simpa using this
end
section
variable {P:Program}{tk:TypeId->dI}{ops:Array Oper}{n:Nat}{bV:k5}{D0 l6:Y Nat}{W:Nat->Prop}
theorem Cl(hc:l4 bV D0 l6 ops=true):∀ (g k m:Nat),Small ops.size m->k+g=ops.size->tg bV g k ops.size m=true->Region.seqB .any ops g k (eD ops.size m)=true
 |0,k,m,hm,d,h=>by
  simp only[tg]at h
  simp only[Region.seqB,List.isEmpty_iff]
  cases e:Region.ready .any ops (eD ops.size m) with
  |nil=>rfl
  |cons x l=>
   have:=o6 hc hm h x (by rw[e];simp)
   cases this
 |g+1,k,m,hm,d,h=>by
  simp only[tg,du]at h
  simp only[Region.seqB,du,cT]
  have c:k<ops.size:=by omega
  have b:k∈Region.ready .any ops (eD ops.size m):=(vv hc hm).2 ⟨c,h.1.1⟩
  refine⟨?_,?_⟩
  .have a:=o6 hc hm h.1.2
   have dJ:(Region.ready .any ops (eD ops.size m)).Nodup:=by
    unfold Region.ready;exact List.Pairwise.filter _ List.nodup_range
   revert b a dJ
   generalize Region.ready .any ops (eD ops.size m)=l;intro b a dJ
   match l,b,a,dJ with
   | [],b,_,_=>cases b
   | [x],b,a,_=>rw[dH.1 (a x (by simp))]
   |x::y::l,_,a,dJ=>
    have hx:=dH.1 (a x (by simp));have f:=dH.1 (a y (by simp));simp[hx,f]at dJ
  .rw[vq]
   exact Cl hc g (k+1) (m|||2^k) (vu hm c) J h.2
theorem He(hc:l4 bV D0 l6 ops=true)(aj:th ops n)(aA:n<=ops.size)(ak:Region.noSelect ops=true){a0:Act}(hb:∀d∈bM ops.toList,d<a0.tmps.size):
 ∀ (t:bf) (W:Nat->Prop) (f:Nat) (m:Nat) (K:Env->I->Prop) (e:Env) (a:Act) (w:I),de e a->dS (bM ops.toList) a0 a->Small ops.size m->HeadInv .any ops n (eD ops.size m)->
  dO P tk ops n bV W t f m K e w->l5 P ops (gR a0 (bM ops.toList) K) n (LE P ops (gR a0 (bM ops.toList) K) n) f (ad W w) (eD ops.size m) a w:=by
 intro t;have N:∀ (i:Nat) (o:Oper),ops[i]? =some o->∀k,o.dst=some k->k∈bM ops.toList:=by
  intro i o p k g;simp only[bM,List.mem_filterMap];exact⟨o,by simpa using Array.mem_of_getElem? p,g⟩
 have Q:∀ (W:Nat->Prop) (t:bf),(∀ (W:Nat->Prop) (f:Nat) (m:Nat) (K:Env->I->Prop) (e:Env) (a:Act) (w:I),de e a->dS (bM ops.toList) a0 a->Small ops.size m->HeadInv .any ops n (eD ops.size m)->
  dO P tk ops n bV W t f m K e w->l5 P ops (gR a0 (bM ops.toList) K) n (LE P ops (gR a0 (bM ops.toList) K) n) f (ad W w) (eD ops.size m) a w)->
  ∀ (f:Nat) (m:Nat) (K:Env->I->Prop) (e:Env) (a:Act) (w:I) (i:Nat) (o:Oper),de e a->dS (bM ops.toList) a0 a->Small ops.size m->HeadInv .any ops n (eD ops.size m)->
  i∈Region.ready .any ops (eD ops.size m)->i<n->ops[i]? =some o->
  hC ops o e (j2 P tk o (λv w'=>ad W w w'/\dO P tk ops n bV W t f (m|||2^i) K (c_ o.dst v e) w') e w) (dO P tk ops n bV W t f (m|||2^i) K (c_ o.dst undef e) w)->
  wpOp P ops (gR a0 (bM ops.toList) K) i (λa' w'=>∃aM:I->Prop,((∀x,aM x->ad W w x)\/o7 ops (eD ops.size m) i)/\aM w'/\l5 P ops (gR a0 (bM ops.toList) K) n (LE P ops (gR a0 (bM ops.toList) K) n) f aM ((eD ops.size m).setIfInBounds i true) a' w') a w:=by
  intro W t L f m K e a w i o au g hm inv R G p h;have next:∀ (v:O) (w':I),ad W w w'->dO P tk ops n bV W t f (m|||2^i) K (c_ o.dst v e) w'->
   ∃aM:I->Prop,((∀x,aM x->ad W w x)\/o7 ops (eD ops.size m) i)/\aM w'/\l5 P ops (gR a0 (bM ops.toList) K) n (LE P ops (gR a0 (bM ops.toList) K) n) f aM ((eD ops.size m).setIfInBounds i true) (a.put o.dst v) w':=by
   intro v w' al h;have z:dS (bM ops.toList) a (a.put o.dst v):=dS.put (N i o p);have hinv:=inv.set R G;rw[vq]at hinv⊢;exact⟨ad W w',.inl λx hx=>al.trans hx,.refl _ _,L W f _ K _ _ w' (au.put λk T=>by rw[g.size];exact hb k (N i o p k T)) (g.trans z) (vu hm J) hinv h⟩
  unfold wpOp;simp only[p];rcases tb au h with ⟨E,F⟩|⟨E,F⟩
  .simp only[E,if_true]
   exact .inl ((vm au F).wp λv w' ⟨h1,h2⟩=>next v w' h1 h2)
  .simp only[E,fW,if_false]
   exact next _ _ (.refl _ _) F
 have ab:∀ {b c d:ai}{X:Prop},(bif b&&(c&&d) then X else False)->b=true/\c=true/\d=true/\X:=by
  intro b c d X h
  cases b<;>cases c<;>cases d<;>first|exact h.elim|exact⟨rfl,rfl,rfl,h⟩
 have ae:∀ {b c:ai}{X:Prop},(bif b&&c then X else False)->b=true/\c=true/\X:=by
  intro b c X h
  cases b<;>cases c<;>first|exact h.elim|exact⟨rfl,rfl,h⟩
 have A:∀ {i j:Nat},Nat.blt i j=true->i<j:=λh=>by
  have:=nC h;omega
 have ne_nil:∀ {m i:Nat},Small ops.size m->k7 bV m i=true->i<ops.size->Region.ready .any ops (eD ops.size m)≠ []:=λhm h hi h0=>by
  have:=(vv hc hm).2 ⟨hi,h⟩;rw[h0]at this;cases this
 induction t with
 |take i t L=>
  intro W f m K e a w au g hm inv h
  cases f with
  |zero=>simp[dO]at h
  |succ f=>
   simp only[dO]at h;obtain⟨h1,h2,C,h⟩:=ab h;have G:=A C;have R:i∈Region.ready .any ops (eD ops.size m):=(vv hc hm).2 ⟨J,h1⟩;split at h
   .rename_i o p
    have fin:∀v,YieldsIf P ops (λx=>j3 o=true->ad W w x) o v a->dO P tk ops n bV W t f (m|||2^i) K (c_ o.dst v e) w->
     l5 P ops (gR a0 (bM ops.toList) K) n (LE P ops (gR a0 (bM ops.toList) K) n) (f+1) (ad W w) (eD ops.size m) a w:=by
     intro v am h;have z:dS (bM ops.toList) a (a.put o.dst v):=dS.put (N i o p);refine Hb aj p (Region.noSelect_spec ak) (λc a w U=>by cases U.1) G Hc f (ad W w) (λx=>j3 o=true->ad W w x) _ a w (λ_ h _=>h) (by cases hs:j3 o<;>simp) inv (G9 hc p h2) R am (.refl _ _) ?_;have hinv:=inv.set R G;rw[vq]at hinv⊢;exact L W f _ K _ _ w (au.put λk T=>by rw[g.size];exact hb k (N i o p k T)) (g.trans z) (vu hm J) hinv h
    rcases tb au h with ⟨E,F⟩|⟨E,F⟩
    .obtain⟨v,an,ao⟩:=G5 au F
     exact fin v (.inl ⟨E,λw' hc=>an w' hc⟩) ao
    .exact fin undef (.inr ⟨E,rfl⟩) F
   .exact h.elim
 |bU i t L=>
  intro W f m K e a w au g hm inv h
  cases f with
  |zero=>simp[dO]at h
  |succ f=>
   simp only[dO]at h;obtain⟨B,C,h⟩:=ae h;simp only[du]at B;have G:=A C;split at h
   .rename_i o p
    refine⟨ne_nil hm B.1 J,λj Y=>?_⟩;have af:j=i:=by simpa using o6 hc hm B.2 j Y
    subst af;exact⟨G,Q W t L f m K e a w j o au g hm inv Y G p h⟩
   .exact h.elim
 |out i b t L=>
  intro W f m K e a w au g hm inv h
  cases f with
  |zero=>simp[dO]at h
  |succ f=>
   simp only[dO]at h;obtain⟨B,C,H,h⟩:=ab h;simp only[du]at B;have G:=A C;have H:=iN H;split at h
   .rename_i o p
    refine⟨ne_nil hm B.1 J,λj Y=>?_⟩;have af:j=i:=by simpa using o6 hc hm B.2 j Y
    subst af;refine⟨G,?_⟩;have ap:o7 ops (eD ops.size m) j:=by
     intro k ok aB z aq hs ag;have ar:k<ops.size:=(ly.1 z).1;rw[qK ar]at ag;have av:(lF 0 ops.toList&&&m).testBit k=true:=by
      rw[Nat.testBit_and,ag,Bool.and_true];exact(Cg ops.toList 0 k ok (by simpa using z)).trans hs|>(by simpa using ·)
     have S:(k6 bV.M j).testBit k=true:=Cf H av;rw[vr hc aq,mM]at S;simp only[cT]at S;exact vt.1 S
    have next:∀ (v:O) (w':I) (V:Nat->Prop),dO P tk ops n bV V t f (m|||2^j) K (c_ o.dst v e) w'->
     ∃aM:I->Prop,((∀x,aM x->ad W w x)\/o7 ops (eD ops.size m) j)/\aM w'/\l5 P ops (gR a0 (bM ops.toList) K) n (LE P ops (gR a0 (bM ops.toList) K) n) f aM ((eD ops.size m).setIfInBounds j true) (a.put o.dst v) w':=by
     intro v w' V h;have z:dS (bM ops.toList) a (a.put o.dst v):=dS.put (N j o p);have hinv:=inv.set Y G;rw[vq]at hinv⊢;exact⟨ad V w',.inr ap,.refl _ _,L V f _ K _ _ w' (au.put λk T=>by rw[g.size];exact hb k (N j o p k T)) (g.trans z) (vu hm J) hinv h⟩
    unfold wpOp;simp only[p];rcases tb au h with ⟨E,F⟩|⟨E,F⟩
    .simp only[E,if_true]
     refine .inl ((vm au F).wp λv w' h2=>?_)
     cases b with
     |true=>
      obtain⟨V,h2⟩:=h2;exact next v w' V h2
     |false=>exact next v w' W h2
    .simp only[E,fW,if_false]
     exact next _ _ W F
   .exact h.elim
 |two i t j u Z aa=>
  intro W f m K e a w au g hm inv h
  cases f with
  |zero=>simp[dO]at h
  |succ f=>
   simp only[dO]at h;obtain⟨B,C,H,h⟩:=ab h;simp only[du]at B;have hi:=A C;split at h
   .rename_i o q p U
    refine⟨ne_nil hm B.1 J,λk z=>?_⟩;have D:k=i\/k=j:=by simpa using o6 hc hm B.2 k z
    rcases D with D|D
    .subst D
     exact⟨A C,Q W t Z f m K e a w k o au g hm inv z (A C) p h.1⟩
    .subst D
     exact⟨A H,Q W u aa f m K e a w k q au g hm inv z (A H) U h.2⟩
   .exact h.elim
 |three i t j u k x Z aa aw=>
  intro W f m K e a w au g hm inv h
  cases f with
  |zero=>simp[dO]at h
  |succ f=>
   simp only[dO]at h;obtain⟨B,C,ax,h⟩:=ab (d:=_) h;obtain⟨H,S⟩:Nat.blt j n=true/\Nat.blt k n=true:=by simpa using ax
   simp only[du]at B;have hi:=A C;split at h
   .rename_i o q r p U ay
    refine⟨ne_nil hm B.1 J,λy z=>?_⟩;have D:y=i\/y=j\/y=k:=by simpa using o6 hc hm B.2 y z
    rcases D with D|D|D
    .subst D
     exact⟨A C,Q W t Z f m K e a w y o au g hm inv z (A C) p h.1⟩
    .subst D
     exact⟨A H,Q W u aa f m K e a w y q au g hm inv z (A H) U h.2.1⟩
    .subst D
     exact⟨A S,Q W x aw f m K e a w y r au g hm inv z (A S) ay h.2.2⟩
   .exact h.elim
 |sp s t u Z aa=>
  intro W f m K e a w au g hm inv h;have ac:match e.get s with
   |some (.bool c)=>(c=true->dO P tk ops n bV W t f m K ((s,.bool true)::e) w)/\(c=false->dO P tk ops n bV W u f m K ((s,.bool false)::e) w)
   |_=>False:=by cases f<;>simpa only[dO] using h
  split at ac
  .rename_i c hs
   cases c with
   |true=>exact Z W f m K _ a w (au.lit hs) g hm inv (ac.1 rfl)
   |false=>exact aa W f m K _ a w (au.lit hs) g hm inv (ac.2 rfl)
  .exact ac.elim
 |fin=>
  intro W f m K e a w au g hm inv h
  cases f with
  |succ f=>simp[dO]at h
  |zero=>
   simp only[dO]at h;obtain⟨h1,h2,h⟩:=ae h;refine .inl ⟨?_,iN h2,rfl,g,e,au,h⟩
   cases R:Region.ready .any ops (eD ops.size m) with
   |nil=>rfl
   |cons x l=>
    have:=o6 hc hm h1 x (by rw[R];simp)
    cases this
 |tail as=>
  intro W f m K e a w au g hm inv h
  cases f with
  |succ f=>simp[dO]at h
  |zero=>
   simp only[dO]at h;obtain⟨h1,h2,h⟩:=ae h;have ah:∀k,k∈bM (ops.toList.drop n)->k∈bM ops.toList:=λk g=>by
    simp only[bM,List.mem_filterMap]at g⊢;obtain⟨o,p,g⟩:=g;exact⟨o,List.mem_of_mem_drop p,g⟩
   have:=B5 _ _ _ K e a w au (λd hd=>by rw[g.size];exact hb d (ah d hd)) h;exact .inr ⟨Cl hc _ _ _ hm J h1,A h2,jd (λx a' w' ⟨aJ,aW,az⟩=>⟨aJ,g.trans (aW.mono ah),az⟩) _ _ _ this⟩
theorem Hf(ops:Array Oper)(n:Nat):HeadInv .any ops n (Array.replicate ops.size false):=
 ⟨by simp,λj b _ a=>(by rw[getD_replicate_false]at a;cases a),λt _ ht=>getD_in (by simpa using ht) (getD_replicate_false _ _)⟩
def zA(P:Program)(tk:TypeId->dI)(ops:Array Oper)(n:Nat)(a:ai)(bV:k5)(D0 l6:Y Nat)(t:bf)(K:Env->I->Prop)(e:Env)(w:I):Prop:=
 bif (Region.noSelect ops&&l4 bV D0 l6 ops)&&(bif Nat.beq n ops.size then true else Nat.blt n ops.size&&(Region.sinkB .any ops n&&Region.chainB .any ops n)) then
  bif a then
   ao w.drew λw1=>∃W:Nat->Prop,dO P tk ops n bV W t n 0 K e w1
  else ao w.drew λw1=>dO P tk ops n bV (λ_=>False) t n 0 K e w1
 else False
theorem Hg{id:Nat}{c:ai}{t:bf}{K:Env->I->Prop}{e:Env}{a:Act}{w:I}(hm:P.follows .mixedOrders=true)
 (au:de e a) (hb:∀d∈bM ops.toList,d<a.tmps.size) (h:zA P tk ops n c bV D0 l6 t K e w):
 (Code.region id ops true).wp P (gR a (bM ops.toList) K) a w:=by
 unfold zA at h
 cases h0:(Region.noSelect ops&&l4 bV D0 l6 ops) with
 |false=>rw[h0]at h;exact h.elim
 |true=>
  rw[h0]at h;simp only[iy]at h;simp only[du]at h0;obtain⟨h1,hc⟩:=h0
  cases h2:(bif Nat.beq n ops.size then true else Nat.blt n ops.size&&(Region.sinkB .any ops n&&Region.chainB .any ops n)) with
  |false=>rw[h2]at h;exact h.elim
  |true=>
   rw[h2]at h;simp only[cond_true]at h;have g:th ops n:=by
    cases b:Nat.beq n ops.size with
    |true=>rw[iN b];exact G_ ops
    |false=>
     rw[b]at h2;simp only[cond_false,du]at h2;refine Ha h2.2.1 h2.2.2 ?_;have:=nC h2.1;omega
   have i:n<=ops.size:=by
    cases b:Nat.beq n ops.size with
    |true=>rw[iN b];exact bk _
    |false=>
     rw[b]at h2;simp only[cond_false,du]at h2;have:=nC h2.1;omega
   have key:∀W,dO P tk ops n bV W t n 0 K e w.drew->(Code.region id ops true).wp P (gR a (bM ops.toList) K) a w:=by
    intro W h;refine wp_region_any hm ?_;have f:=He hc g i h1 hb t W n 0 K e a w.drew au (.refl _ _) (G7 _) (by rw[Cd];exact Hf ops n) h;rw[Cd]at f;have:=Ck Hd _ _ _ _ _ f;rw[show n+(ops.size-n)=ops.size from J]at this;exact this
   cases c with
   |true=>obtain⟨W,h⟩:=h;exact key W h
   |false=>exact key _ h
end
end aO
namespace aO
open Go
inductive aB where
 |leaf
 |o8 (as:Y k4)
 |vw (n:Nat) (c:ai) (bV:k5) (D0 l6:Y Nat) (t:bf)
 |seq (a b:aB)
 |cond (a b:aB)
 |bc (a:aB)
 |loop (live:Y (Nat×cK)) (fb:Y Nat) (a:aB)
 |dZ (live:Y (Nat×cK)) (fb:Y Nat) (a:aB)
def gH:Y (Nat×cK)->Type
 | []=>I->Prop
 |(_,l)::r=>l.T->gH r
def nM:Y (Nat×cK)->Type
 | []=>I->Nat
 |(_,l)::r=>l.T->nM r
def qL(l:cK)(v:al O)(K:l.T->Prop):Prop:=
 match l,v with
 | .int k,some (.int d n)=>bif ko k d then K n else False
 | .bool,some (.bool b)=>K b
 | .str,some (.string s)=>K s
 | .ptr,some (.pointer p)=>K p
 | .slice,some (.slice a n c)=>K ⟨a,n,c⟩
 | .map,some (.map r)=>K r
 | .agg,some (.agg cs)=>K cs
 | .fn,some (.func (.func f) a b)=>K ⟨f,a,b⟩
 | .any,some v=>K v
 |_,_=>False
def gH.app:(live:Y (Nat×cK))->gH live->(Nat->al O)->I->Prop
 | [],k,_,w=>k w
 |(s,l)::r,k,g,w=>qL l (g s) λx=>gH.app r (k x) g w
def gH.lam:(live:Y (Nat×cK))->(Env->I->Prop)->gH live
 | [],F=> λw=>F [] w
 |(s,l)::r,F=> λx=>gH.lam r λe w=>F ((s,l.v x)::e) w
def zB:(live:Y (Nat×cK))->gH live->nM live->(Env->Nat->I->Prop)->Prop
 | [],a,b,F=>∀w,a w->F [] (b w) w
 |(s,l)::r,a,b,F=>∀x:l.T,zB r (a x) (b x) λe m w=>F ((s,l.v x)::e) m w
def zC:(live:Y (Nat×cK))->gH live->nM live->Nat->(Nat->al O)->I->Prop
 | [],a,b,m,_,w=>a w/\b w<m
 |(s,l)::r,a,b,m,g,w=>qL l (g s) λx=>zC r (a x) (b x) m g w
def jA:(live:Y (Nat×cK))->nM live->(Nat->al O)->I->Nat
 | [],d,_,w=>d w
 |(s,l)::r,d,g,w=>
  match l,g s,d with
  | .int _,some (.int _ n),d=>jA r (d n) g w
  | .bool,some (.bool b),d=>jA r (d b) g w
  | .str,some (.string b),d=>jA r (d b) g w
  | .ptr,some (.pointer b),d=>jA r (d b) g w
  | .slice,some (.slice a n c),d=>jA r (d (ag.mk a n c)) g w
  | .map,some (.map b),d=>jA r (d b) g w
  | .agg,some (.agg b),d=>jA r (d b) g w
  | .fn,some (.func (.func f) a b),d=>jA r (d (h_.mk f a b)) g w
  | .any,some v,d=>jA r (d v) g w
  |_,_,_=>0
def writes:Code->Y Nat
 | .region _ ops _=>bM ops.toList
 | .seq a b=>writes a++writes b
 | .cond _ a b=>writes a++writes b
 | .block _ a=>writes a
 | .loop a=>writes a
 | .scope a=>writes a
 |_=> []
def ti(fb ws:Y Nat):ai:=fb.all λs=> !(ws.any λd=>Nat.beq d s)
def o9(e:Env):Y Nat->Env
 | []=> []
 |s::a=>match e.get s with
  |some v=>(s,v)::o9 e a
  |none=>o9 e a
def qM:Env->Env->Env
 | [],f=>f
 |p::e,f=>p::qM e f
def D(P:Program)(tk:TypeId->dI):aB->Code->(Exit->Env->I->Prop)->Env->I->Prop
 | .leaf,c,K,e,w=>
  match c with
  | .skip=>K .normal e w
  | .label _=>K .normal e w
  | .exit id=>K (.exit id) e w
  | .ret=>K .ret e w
  |_=>False
 | .o8 as,c,K,e,w=>
  match c with
  | .region _ ops false=>fY P tk ops (ops.size+1) ops.toList as (λe' w'=>K .normal e' w') e w
  |_=>False
 | .vw n he bV D0 l6 t,c,K,e,w=>
  match c with
  | .region _ ops true=>zA P tk ops n he bV D0 l6 t (λe' w'=>K .normal e' w') e w
  |_=>False
 | .seq A B,c,K,e,w=>
  match c with
  | .seq a b=>D P tk A a (λx e' w'=>match x with| .normal=>D P tk B b K e' w'|x=>K x e' w') e w
  |_=>False
 | .cond A B,c,K,e,w=>
  match c with
  | .cond o x y=>match ev e o with
   |some (.bool b)=>(b=true->D P tk A x K e w)/\(b=false->D P tk B y K e w)
   |_=>False
  |_=>False
 | .bc A,c,K,e,w=>
  match c with
  | .block id b=>D P tk A b (λx e' w'=>match x with| .exit g=>bif Nat.beq g id then K .normal e' w' else K (.exit g) e' w'|x=>K x e' w') e w
  | .scope b=>D P tk A b (λx e' w'=>match x with| .goto _=>False|x=>K x e' w') e w
  |_=>False
 | .loop live fb A,c,K,e,w=>
  match c with
  | .loop b=>bif ti fb (writes b) then
   ∃ (d:gH live) (h:nM live),gH.app live d e.get w/\
    zB live d h λf m w'=>D P tk A b (λx e' i=>match x with| .normal=>zC live d h m e'.get i|x=>K x e' i) (qM f (o9 e fb)) w'
   else False
  |_=>False
 | .dZ live fb A,c,K,e,w=>
  bif ti fb (writes c) then
   aX (λk:gH live=>D P tk A c (λx e' w'=>match x with| .normal=>gH.app live k e'.get w'|x=>K x e' w') e w)
    (gH.lam live λf w'=>K .normal (qM f (o9 e fb)) w')
  else False
def Hh(a:Act)(ds:Y Nat)(K:Exit->Env->I->Prop)(x:Exit)(a':Act)(w':I):Prop:=
 dS ds a a'/\∃e',de e' a'/\K x e' w'
def Sub(e:Env)(g:Nat->al O):Prop:=∀s v,e.get s=some v->g s=some v
theorem Sub.cons{e:Env}{g:Nat->al O}{s:Nat}{v:O}(h:Sub e g)(hs:g s=some v):Sub ((s,v)::e) g:=by
 intro t u ht;rw[o1]at ht;by_cases a:s=t
 .subst a;rw[if_pos rfl]at ht;rw[hs];exact ht
 .rw[if_neg a]at ht;exact h t u ht
theorem Sub.nil{g:Nat->al O}:Sub [] g:=λ_ _ h=>by cases h
theorem vx{l:cK}{v:al O}{K:l.T->Prop}(h:qL l v K):∃x:l.T,v=some (l.v x)/\K x:=by
 unfold qL at h;split at h
 .rename_i k b n K
  by_cases a:k=b
  .subst a
   simp only[ko,decide_true,cond_true]at h;exact⟨n,rfl,h⟩
  .simp[ko,a]at h
 all_goals first
  |exact⟨_,rfl,h⟩
  |exact h.elim
theorem Cm{l:cK}{v:al O}{K:l.T->Prop}{x:l.T}(a:v=some (l.v x))(h:K x):qL l v K:=by
 subst a
 cases l<;>simp only[qL,cK.v,ko,decide_true,cond_true]<;>exact h
theorem Cn{s:Nat}{l:cK}{r:Y (Nat×cK)}{a:nM ((s,l)::r)}{g:Nat->al O}{w:I}{x:l.T}(b:g s=some (l.v x)):
 jA ((s,l)::r) a g w=jA r (a x) g w:=by
 cases l<;>simp only[jA,b,cK.v]<;>rfl
theorem Co:∀ {live:Y (Nat×cK)}{F:Env->I->Prop}{g:Nat->al O}{w:I},gH.app live (gH.lam live F) g w->∃a,Sub a g/\F a w
 | [],F,g,w,h=>⟨[],Sub.nil,h⟩
 |(s,l)::r,F,g,w,h=>by
  obtain⟨x,b,h⟩:=vx h
  obtain⟨a,hs,h⟩:=Co h
  exact⟨(s,l.v x)::a,hs.cons b,h⟩
theorem Cp:∀ {live:Y (Nat×cK)}{a:gH live}{g g':Nat->al O}{w:I},(∀s v,g s=some v->g' s=some v)->gH.app live a g w->gH.app live a g' w
 | [],_,_,_,_,_,h=>h
 |(s,l)::r,a,g,g',w,hg,h=>by
  obtain⟨x,b,h⟩:=vx h
  exact Cm (hg _ _ b) (Cp hg h)
theorem Cq:∀ {live:Y (Nat×cK)}{b:gH live}{c:nM live}{F:Env->Nat->I->Prop}{g:Nat->al O}{w:I},
 zB live b c F->gH.app live b g w->∃d,Sub d g/\F d (jA live c g w) w
 | [],b,c,F,g,w,h,a=>⟨[],Sub.nil,h w a⟩
 |(s,l)::r,b,c,F,g,w,h,a=>by
  obtain⟨x,e,a⟩:=vx a
  obtain⟨d,hs,h⟩:=Cq (h x) a
  exact⟨(s,l.v x)::d,hs.cons e,by rw[Cn e];exact h⟩
theorem Cr:∀ {live:Y (Nat×cK)}{a:gH live}{b:nM live}{m:Nat}{g g':Nat->al O}{w:I},
 (∀s v,g s=some v->g' s=some v)->zC live a b m g w->gH.app live a g' w/\jA live b g' w<m
 | [],_,_,_,_,_,_,_,h=>h
 |(s,l)::r,a,b,m,g,g',w,hg,h=>by
  obtain⟨x,c,h⟩:=vx h
  obtain⟨h1,h2⟩:=Cr hg h
  exact⟨Cm (hg _ _ c) h1,by rw[Cn (hg _ _ c)];exact h2⟩
theorem Cs:∀ {e f:Env}{s:Nat}{v:O},(qM e f).get s=some v->e.get s=some v\/f.get s=some v
 | [],_,_,_,h=>.inr h
 |(k,u)::e,f,s,v,h=>by
  simp only[qM]at h
  rw[o1]at h⊢
  by_cases a:k=s
  .rw[if_pos a]at h⊢;exact .inl h
  .rw[if_neg a]at h⊢;exact Cs h
theorem zD{e:Env}:∀ {a:Y Nat}{s:Nat}{v:O},(o9 e a).get s=some v->s∈a/\e.get s=some v
 | [],_,_,h=>by cases h
 |k::a,s,v,h=>by
  simp only[o9]at h
  split at h
  .rename_i u hu
   rw[o1]at h
   by_cases b:k=s
   .rw[if_pos b]at h
    subst b
    exact⟨by simp,by rw[hu];exact h⟩
   .rw[if_neg b]at h
    have:=zD h
    exact⟨by simp[this.1],this.2⟩
  .have:=zD h
   exact⟨by simp[this.1],this.2⟩
theorem Ct{e b:Env}{a a':Act}{fb ws:Y Nat}(au:de e a)(d:dS ws a a')(f:ti fb ws=true)(hs:Sub b λs=>a'.tmps[s]?):
 de (qM b (o9 e fb)) a':=by
 constructor;intro s v h;rcases Cs h with h|h
 .exact hs s v h
 .obtain⟨h1,h2⟩:=zD h
  have c:=ny.1 f s h1;simp only[kW,oU]at c;rw[d.same s λhm=>c s hm (Nat.beq_refl s)];exact au.get s v h2
section
variable {P:Program}{tk:TypeId->dI}
theorem jB{c:Code}{Q Q':Exit->Act->I->Prop}{a:Act}{w:I}(h:c.wp P Q a w)(b:∀e a w,Q e a w->Q' e a w):c.wp P Q' a w:=wp_mono h b
theorem vy(hm:P.follows .mixedOrders=true):∀ (A:aB) (c:Code) (K:Exit->Env->I->Prop) (e:Env) (a:Act) (w:I),de e a->(∀d∈writes c,d<a.tmps.size)->
 D P tk A c K e w->c.wp P (Hh a (writes c) K) a w:=by
 intro A
 induction A with
 |leaf=>
  intro c K e a w au hb h;simp only[D]at h;split at h
  .exact wp_skip ⟨.refl _ _,e,au,h⟩
  .exact wp_label ⟨.refl _ _,e,au,h⟩
  .exact wp_exit ⟨.refl _ _,e,au,h⟩
  .exact wp_ret ⟨.refl _ _,e,au,h⟩
  .exact h.elim
 |o8 as=>
  intro c K e a w au hb h;simp only[D]at h;split at h
  .rename_i id ops
   have:=B5 _ _ _ _ e a w au hb h;refine wp_region_list (jd ?_ _ _ _ this);rintro x a' w' ⟨rfl,f,e',r,u⟩;exact⟨f,e',r,u⟩
  .exact h.elim
 |vw n he bV D0 l6 t=>
  intro c K e a w au hb h;simp only[D]at h;split at h
  .rename_i id ops
   refine jB (Hg hm au hb h) ?_;rintro x a' w' ⟨rfl,f,e',r,u⟩;exact⟨f,e',r,u⟩
  .exact h.elim
 |seq A B z C=>
  intro c K e a w au hb h;simp only[D]at h;split at h
  .rename_i x y
   have hx:∀d,d∈writes x->d∈writes (.seq x y):=λd hd=>by simp[writes,hd]
   have p:∀d,d∈writes y->d∈writes (.seq x y):=λd hd=>by simp[writes,hd]
   refine wp_seq (jB (z x _ e a w au (λd hd=>hb d (hx d hd)) h) ?_);rintro ex a1 w1 ⟨f,aP,g,h1⟩
   cases ex with
   |normal=>
    refine jB (C y K aP a1 w1 g (λd hd=>by rw[f.size];exact hb d (p d hd)) h1) ?_;rintro ex a2 af ⟨i,aU,j,h2⟩;exact⟨(f.mono hx).trans (i.mono p),aU,j,h2⟩
   |exit id=>exact⟨f.mono hx,aP,g,h1⟩
   |goto l=>exact⟨f.mono hx,aP,g,h1⟩
   |ret=>exact⟨f.mono hx,aP,g,h1⟩
   |panic q=>exact⟨f.mono hx,aP,g,h1⟩
   |outgrown=>exact⟨f.mono hx,aP,g,h1⟩
  .exact h.elim
 |cond A B z C=>
  intro c K e a w au hb h;simp only[D]at h;split at h
  .rename_i o x y
   have hx:∀d,d∈writes x->d∈writes (.cond o x y):=λd hd=>by simp[writes,hd]
   have p:∀d,d∈writes y->d∈writes (.cond o x y):=λd hd=>by simp[writes,hd]
   split at h
   .rename_i b J
    refine wp_cond_split (au.ev J) (λE=>?_) (λE=>?_)
    .refine jB (z x K e a w au (λd hd=>hb d (hx d hd)) (h.1 E)) ?_
     rintro ex a2 af ⟨i,aU,j,h2⟩;exact⟨i.mono hx,aU,j,h2⟩
    .refine jB (C y K e a w au (λd hd=>hb d (p d hd)) (h.2 E)) ?_
     rintro ex a2 af ⟨i,aU,j,h2⟩;exact⟨i.mono p,aU,j,h2⟩
   .exact h.elim
  .exact h.elim
 |bc A m=>
  intro c K e a w au hb h;simp only[D]at h;split at h
  .rename_i id b
   refine wp_block (jB (m b _ e a w au hb h) ?_);rintro ex a1 w1 ⟨f,aP,g,h1⟩
   cases ex with
   |exit F=>
    simp only[Exit.inBlock];by_cases G:F=id
    .subst G
     simp only[Nat.beq_refl,cond_true]at h1;rw[if_pos rfl];exact⟨f,aP,g,h1⟩
    .have:Nat.beq F id=false:=by
      cases L:Nat.beq F id
      .rfl
      .exact absurd (iN L) G
     simp only[this,cond_false]at h1;rw[if_neg G];exact⟨f,aP,g,h1⟩
   |normal=>exact⟨f,aP,g,h1⟩
   |goto l=>exact⟨f,aP,g,h1⟩
   |ret=>exact⟨f,aP,g,h1⟩
   |panic q=>exact⟨f,aP,g,h1⟩
   |outgrown=>exact⟨f,aP,g,h1⟩
  .rename_i b
   refine wp_scope_straight (jB (m b _ e a w au hb h) ?_);rintro ex a1 w1 ⟨f,aP,g,h1⟩
   cases ex with
   |goto l=>exact h1.elim
   |normal=>exact⟨f,aP,g,h1⟩
   |exit id=>exact⟨f,aP,g,h1⟩
   |ret=>exact⟨f,aP,g,h1⟩
   |panic q=>exact⟨f,aP,g,h1⟩
   |outgrown=>exact⟨f,aP,g,h1⟩
  .exact h.elim
 |loop live fb A m=>
  intro c K e a w au hb h;simp only[D]at h;split at h
  .rename_i b
   cases k:ti fb (writes b) with
   |false=>rw[k]at h;exact h.elim
   |true=>
    rw[k]at h;obtain⟨M,N,h0,O⟩:=h;refine wp_loop (λa' w'=>dS (writes b) a a'/\gH.app live M (λs=>a'.tmps[s]?) w') (λa' w'=>jA live N (λs=>a'.tmps[s]?) w')
     ⟨.refl _ _,Cp (λs v hs=>au.get s v hs) h0⟩ ?_
    rintro a1 w1 ⟨f,Q⟩;obtain⟨R,hs,H⟩:=Cq O Q;refine jB (m b _ _ a1 w1 (Ct au f k hs) (λd hd=>by rw[f.size];exact hb d hd) H) ?_;rintro ex a2 af ⟨i,aU,j,h2⟩
    cases ex with
    |normal=>
     obtain⟨aJ,aW⟩:=Cr (g':=λs=>a2.tmps[s]?) (λs v hs=>j.get s v hs) h2;exact⟨⟨f.trans i,aJ⟩,aW⟩
    |exit id=>exact⟨f.trans i,aU,j,h2⟩
    |goto l=>exact⟨f.trans i,aU,j,h2⟩
    |ret=>exact⟨f.trans i,aU,j,h2⟩
    |panic q=>exact⟨f.trans i,aU,j,h2⟩
    |outgrown=>exact⟨f.trans i,aU,j,h2⟩
  .exact h.elim
 |dZ live fb A m=>
  intro c K e a w au hb h;simp only[D]at h
  cases k:ti fb (writes c) with
  |false=>rw[k]at h;exact h.elim
  |true=>
   rw[k]at h;simp only[cond_true]at h;have h:=h.out;refine jB (m c _ e a w au hb h) ?_;rintro ex a1 w1 ⟨f,aP,g,h1⟩
   cases ex with
   |normal=>
    obtain⟨R,hs,H⟩:=Co h1;exact⟨f,_,Ct au f k (λs v h=>g.get s v (hs s v h)),H⟩
   |exit id=>exact⟨f,aP,g,h1⟩
   |goto l=>exact⟨f,aP,g,h1⟩
   |ret=>exact⟨f,aP,g,h1⟩
   |panic q=>exact⟨f,aP,g,h1⟩
   |outgrown=>exact⟨f,aP,g,h1⟩
def mN(P:Program)(tk:TypeId->dI):Y ResultVar->Env->I->(Y O->Prop)->Prop
 | [],_,_,K=>K []
 | .tmp t::r,e,w,K=>match e.get t with
  |some v=>mN P tk r e w λvs=>K (v::vs)
  |none=>False
 | .cell t T::r,e,w,K=>match e.get t with
  |some (.pointer (some A))=>qE P tk T A w λv=>mN P tk r e w λvs=>K (v::vs)
  |_=>False
def qN:Y O->O
 | [v]=>v
 |vs=>.tuple vs.toArray
def Cu(P:Program)(tk:TypeId->dI)(a:Y ResultVar)(R:O->I->Prop)(x:Exit)(e:Env)(w:I):Prop:=
 match x with
 | .normal=>mN P tk a e w λvs=>R (qN vs) w
 | .ret=>mN P tk a e w λvs=>R (qN vs) w
 |_=>False
def o_:Nat->Y O->Env
 |_,[]=> []
 |i,v::vs=>(i,v)::o_ (i+1) vs
def qO(P:Program)(tk:TypeId->dI)(A:aB)(fn:Func)(args:Y O)(w:I)(R:O->I->Prop):Prop:=
 match fn.body with
 |some c=>D P tk A c (Cu P tk fn.results.toList R) (o_ 0 args) w
 |none=>False
def pb(fn:Func)(n:Nat):ai:=
 match fn.body with
 |some c=>(writes c).all (λd=>Nat.blt d fn.ntmps)&&Nat.ble n fn.ntmps
 |none=>false
theorem zE:∀ {vs:Y O}{i s:Nat}{v:O},(o_ i vs).get s=some v->i<=s/\vs[s-i]? =some v
 | [],_,_,_,h=>by cases h
 |u::vs,i,s,v,h=>by
  simp only[o_]at h
  rw[o1]at h
  by_cases a:i=s
  .subst a
   rw[if_pos rfl]at h
   simpa using h
  .rw[if_neg a]at h
   obtain⟨h1,h2⟩:=zE h
   refine⟨J,?_⟩
   rw[show s-i=(s-(i+1))+1 from J]
   simpa using h2
def tj(tmps:Array O)(r:ResultVar):Sem O:=
 match r with
 | .tmp t=>pure (tmps.getD t undef)
 | .cell x t=>do loadVar t (←asAddr (tmps.getD x undef))
theorem mO{a:Act}:∀ {f:Y ResultVar}{e:Env}{w:I}{K:Y O->Prop},de e a->mN P tk f e w K->
 ∃vs,(f.mapM (tj a.tmps)).run P w=.ok vs w/\K vs
 | [],_,_,_,_,h=>⟨[],by simp,h⟩
 | .tmp t::r,e,w,K,au,h=>by
  simp only[mN]at h
  split at h
  .rename_i v b
   obtain⟨vs,c,d⟩:=mO au h
   refine⟨v::vs,?_,d⟩
   have ht:a.tmps.getD t undef=v:=by simp[Array.getD_eq_getD_getElem?,au.get _ _ b]
   simp only[List.mapM_cons,tj,Sem.run_bind,Sem.run_pure,Result.andThen,ht]
   rw[c]
  .exact h.elim
 | .cell t T::r,e,w,K,au,h=>by
  simp only[mN]at h
  split at h
  .rename_i A b
   obtain⟨v,g,h⟩:=B1 h
   obtain⟨vs,c,d⟩:=mO au h
   refine⟨v::vs,?_,d⟩
   have ht:a.tmps.getD t undef=.pointer (some A):=by simp[Array.getD_eq_getD_getElem?,au.get _ _ b]
   have i:(loadVar T A).run P w=.ok v w:=by simpa[Instr.loadAt,Instr.sureAddr] using g
   simp only[List.mapM_cons,tj,Sem.run_bind,Sem.run_pure,Result.andThen,ht,asAddr,i]
   rw[c]
  .exact h.elim
theorem pc{fn:Func}{tmps:Array O}{w:I}{vs:Y O}
 (h:(fn.results.toList.mapM (tj tmps)).run P w=.ok vs w):
 (results fn tmps).run P w=.ok (qN vs) w:=by
 have aP:results fn tmps=(do let vs ←fn.results.mapM (tj tmps);pure (if h:vs.size=1 then vs[0] else .tuple vs)):=rfl;rw[aP,Array.mapM_eq_mapM_toList];simp only[Sem.run_bind,Sem.run_map];rw[h];simp only[Result.andThen,Sem.run_pure]
 congr 1
 match vs with
 | []=>rfl
 | [v]=>rfl
 |u::v::vs=>simp[qN]
theorem Hi{f:FuncId}{fn:Func}{A:aB}{args:Y O}{w:I}{R:O->I->Prop}(hm:P.follows .mixedOrders=true)
 (hf:P.funcs[f]? =some fn) (b:pb fn args.length=true) (h:qO P tk A fn args w R):
 Calls P f args.toArray w λe w'=>∃v,e=.returned v/\R v w':=by
 unfold qO at h;unfold pb at b
 cases g:fn.body with
 |none=>rw[g]at h;exact h.elim
 |some c=>
  rw[g]at h b;simp only[du]at h b;obtain⟨m,n⟩:=b;have q:=nC n;refine calls_of_wp hf g ?_;have o:(args.toArray++Array.replicate (fn.ntmps-args.toArray.size) undef).size=fn.ntmps:=by simp;omega
  have au:de (o_ 0 args) {tmps:=args.toArray++Array.replicate (fn.ntmps-args.toArray.size) undef,defers:=[]}:=by
   constructor;intro s v hs;obtain⟨_,h2⟩:=zE hs;simp only[Nat.sub_zero]at h2;have aI:s<args.length:=(qp.1 h2).1;simp[Array.getElem?_append,aI];rw[fQ aI]at h2;exact Option.some.inj h2
  refine jB (vy hm A c _ _ _ w au (λd hd=>?_) h) ?_
  .have h1:=ny.1 m d hd
   have h2:=nC h1;show d<(args.toArray++Array.replicate (fn.ntmps-args.toArray.size) undef).size;rw[o];omega
  .rintro x a' w' ⟨p,e',k,a⟩
   have hd:a'.defers=[]:=p.defers
   cases x with
   |normal=>
    obtain⟨vs,i,j⟩:=mO k a;exact⟨hd,_,pc i,_,rfl,j⟩
   |ret=>
    obtain⟨vs,i,j⟩:=mO k a;exact⟨hd,_,pc i,_,rfl,j⟩
   |exit id=>exact a.elim
   |goto l=>exact a.elim
   |panic r=>exact a.elim
   |outgrown=>exact a.elim
end
end aO
namespace aO
open Go Go.ChangeShapes Go.WideShapes Go.ChangeAt Go.RowKit
def gu(P:Program)(w:I):Nat->TypeId->Y O->Prop
 |0,_,_=>False
 |fuel+1,t,cs=>
  match P.underlying t with
  |some .bool=>∃b:ai,cs=[.bool b]
  |some (.int k)=>∃n:Int,cs=[.int k n]/\k.min<=n/\n<=k.max
  |some .string=>∃s:ByteArray,cs=[.string s]/\s.size<=maxLen
  |some (.slice e)=>∃s:ag,cs=[.slice s.a s.len s.cap]/\s.len<=s.cap/\s.cap<=maxLen/\(s.a=none->s.cap=0)/\
   ∀a,s.a=some a->∀i,i<s.cap->∃vs,aT w (a.add (i*P.cellsOf e)) 0 (P.cellsOf e)=some vs/\gu P w fuel e vs
  |some (.struct fs)=>cs.length=P.cellsOf t/\∀f∈fs,gu P w fuel f.type ((cs.drop f.offset).take (P.cellsOf f.type))
  |some (.array n e)=>cs.length=P.cellsOf t/\∀i,i<n->gu P w fuel e ((cs.drop (i*P.cellsOf e)).take (P.cellsOf e))
  |some (.pointer e)=>cs=[.pointer none]\/∃a vs,cs=[.pointer (some a)]/\aT w a 0 (P.cellsOf e)=some vs/\gu P w fuel e vs
  |_=>True
theorem mapM_some{α β:Type}{f:α->al β}:∀ {l:Y α}{r:Y β},l.mapM f=some r->∀x∈l,∃y,f x=some y
 | [],_,_,_,hx=>by cases hx
 |a::l,r,h,x,hx=>by
  simp only[List.mapM_cons]at h
  cases c:f a with
  |none=>simp[c]at h
  |some b=>
   cases d:l.mapM f with
   |none=>simp[c,d]at h
   |some bs=>
    rcases cW.1 hx with rfl|hx
    .exact⟨b,c⟩
    .exact mapM_some d x hx
theorem Cv{w:I}{a:ar}:∀ (n i:Nat) (vs:Y O),((List.range' i n).mapM λj=>w.cell? (a.add j))=some vs->aT w a i n=some vs
 |0,i,vs,h=>by simp at h;simp[aT,h]
 |n+1,i,vs,h=>by
  simp only[List.range'_succ,List.mapM_cons]at h
  cases h1:w.cell? (a.add i) with
  |none=>simp[h1]at h
  |some v=>
   cases h2:((List.range' (i+1) n).mapM λj=>w.cell? (a.add j)) with
   |none=>simp[h1,h2]at h
   |some us=>
    simp[h1,h2]at h
    have:=Cv n (i+1) us h2
    simp[aT,h1,this,h]
theorem Cw{w:I}{base:Nat}{a:ar}{n:Nat}{vs:Y O}(h:w.cells? base a n=some vs):aT w a 0 n=some vs:=by
 unfold World.cells? at h;split at h
 .rw[List.range_eq_range']at h
  exact Cv n 0 vs h
 .cases h
section
variable {H:Type}{enc:TypeId×O->H}{P:Program}{w:I}
theorem tm:∀ (fuel:Nat) (t:TypeId) (cs:Y O) (x:DataW H×Y MemPlace),DataW.trod enc P w 0 (λ_=>true) true fuel t cs=some x->gu P w fuel t cs
 |0,_,_,_,h=>by cases h
 |fuel+1,t,cs,x,h=>by
  simp only[DataW.trod]at h
  simp only[gu]
  cases ht:P.underlying t with
  |none=>trivial
  |some d=>
   rw[ht]at h
   cases d<;>try trivial
   case bool=>
    match cs,h with
    | [.bool b],_=>exact⟨b,rfl⟩
   case int k=>
    match cs,h with
    | [.int q n],h=>
     simp only at h
     split at h
     .rename_i g
      obtain⟨rfl,l⟩:=g
      exact⟨n,rfl,by simpa[Lit.wf] using l⟩
     .cases h
   case string=>
    match cs,h with
    | [.string s],h=>
     simp only at h
     split at h
     .rename_i g;exact⟨s,rfl,g⟩
     .cases h
   case pointer e=>
    match cs,h with
    | [.pointer none],_=>exact .inl rfl
    | [.pointer (some a)],h=>
     simp only[Option.map_eq_some_iff]at h
     obtain⟨y,c,_⟩:=h
     obtain⟨vs,h1,h2⟩:=Option.bind_eq_some_iff.1 c
     exact .inr ⟨a,vs,rfl,Cw h1,tm fuel e vs _ h2⟩
   case slice e=>
    match cs,h with
    | [.slice none 0 0],_=>exact⟨⟨none,0,0⟩,rfl,bk _,dd _,(λ_=>rfl),(λa m=>by cases m)⟩
    | [.slice (some a) len cap],h=>
     simp only at h
     split at h
     .rename_i g
      refine⟨⟨some a,len,cap⟩,rfl,g.2.1,g.2.2,(λh0=>by cases h0),λa' o i hi=>?_⟩
      obtain⟨elems,he,h⟩:=Option.bind_eq_some_iff.1 h
      simp only[if_true,Option.map_eq_some_iff]at h
      obtain⟨rest,p,_⟩:=h
      cases o
      have key:∃y,((w.cells? 0 (a.add (i*P.cellsOf e)) (P.cellsOf e)).bind (DataW.trod enc P w 0 (λ_=>true) true fuel e))=some y:=by
       rcases eP i len with j|j
       .exact mapM_some he i (kl.2 j)
       .obtain⟨y,c⟩:=mapM_some p (i-len) (kl.2 (by simp only at hi;omega))
        rw[show len+(i-len)=i from J]at c;exact⟨y,c⟩
      obtain⟨y,c⟩:=key;obtain⟨vs,h1,h2⟩:=Option.bind_eq_some_iff.1 c;exact⟨vs,Cw h1,tm fuel e vs _ h2⟩
     .cases h
   case struct fs=>
    simp only at h;split at h
    .rename_i j
     refine⟨j,λf hf=>?_⟩;simp only[Option.map_eq_some_iff]at h;obtain⟨ys,c,_⟩:=h;obtain⟨y,c⟩:=mapM_some c f (by simpa using hf);exact tm fuel _ _ _ c
    .cases h
   case array n e=>
    simp only at h;split at h
    .rename_i j
     refine⟨j,λi hi=>?_⟩;simp only[Option.map_eq_some_iff]at h;obtain⟨ys,c,_⟩:=h;obtain⟨y,c⟩:=mapM_some c i (kl.2 hi);exact tm fuel _ _ _ c
    .cases h
def k8(P:Program)(w:I)(t:TypeId)(v:O):Prop:=
 match P.underlying t with
 |some (.struct _)=>∃cs:Array O,v=.agg cs/\∃fuel,gu P w fuel t cs.toList
 |some (.array _ _)=>∃cs:Array O,v=.agg cs/\∃fuel,gu P w fuel t cs.toList
 |_=>∃fuel,gu P w fuel t [v]
theorem zF{r:Reach}{b0:Nat}{t:TypeId}{v:O}{d:DataW H}{ps:Y MemPlace}(iE:Value.okWide P w r b0 t v)
 (hd:DataW.Trod enc P w 0 (λ_=>true) true t v d ps):k8 P w t v:=by
 obtain⟨fuel,hd⟩:=hd;have h1:=tm fuel t _ _ hd;unfold k8;unfold Value.okWide at iE;have sc:(∀cs,v≠ .agg cs)->v.cells.toList=[v]:=λh=>by cases v<;>first|rfl|exact absurd rfl (h _)
 cases ht:P.underlying t with
 |none=>
  rw[ht]at iE
  cases fuel with
  |zero=>cases hd
  |succ f=>exact⟨1,by simp[gu,ht]⟩
 |some a=>
  rw[ht]at iE
  cases a
  case struct fs=>obtain⟨cs,rfl,_,_⟩:=iE;exact⟨cs,rfl,fuel,h1⟩
  case array n e=>obtain⟨cs,rfl,_,_⟩:=iE;exact⟨cs,rfl,fuel,h1⟩
  all_goals
   refine⟨fuel,?_⟩;rw[←sc]
   .exact h1
   .rintro cs rfl
    simp[Cell.okWide,Cell.ok,ht]at iE
theorem Cx{w w':I}(h:ad (λ_=>False) w w'):Below w.heap.size w w':=
 ⟨h.os,h.tape,h.output,h.size,λk a=>h.block k a (λh=>h)⟩
theorem Hj{f:Func}{s:ChangeSpec}{apart fresh handsOn again:ai}{W W':I}{args:Array O}{T:TypeId}{ds gs:Y (DataW H)}{before pa fJ:Y MemPlace}
 (b4:DataW.Whole enc P f.params.toList s.vars apart W args.toList ds gs before) (d:P.underlying T=some .bool) (e:f.resultTypes= #[T])
 (hs:s.fn H (ds++gs)={results:=[.lit (.bool true)],args:=ds})
 (vz:∀sp:Nat->ai,(∀p∈before,sp p.block=true)->DataW.TrodAll enc P W' 0 sp true f.params.toList args.toList ds pa)
 (l:∀sp:Nat->ai,(∀p∈before,sp p.block=true)->DataW.TrodVars enc P W' sp s.vars [] fJ)
 (c:before=pa++fJ) (hb:ad (λ_=>False) W W'):
 s.post enc P f apart fresh handsOn again W args (.bool true) W':=by
 have g:=Cx hb;have aI:∀p∈before,p.block<W.heap.size:=λp a=>b4.lt p a;have hold:∀p∈before,(λb=>decide (b<W.heap.size)) p.block=true:=λp a=>by simpa using aI p a
 have h:∀ (b:Nat) (sp:Nat->ai) (hd:ai),DataW.TrodAll enc P W' b sp hd f.resultTypes.toList ((Value.bool true).resultList f.resultTypes.size) (s.fn H (ds++gs)).results []:=by
  intro b sp hd;rw[hs,e];exact trodAll_cons_mk (shut_bool d true) trodAll_mk0
 have i:∀sp:Nat->ai,(∀p∈before,sp p.block=true)->DataW.TrodAll enc P W' 0 sp true f.params.toList args.toList (s.fn H (ds++gs)).args pa:=by
  intro sp gY;rw[hs];exact vz sp gY
 have j:∀sp:Nat->ai,(∀p∈before,sp p.block=true)->DataW.TrodVars enc P W' sp s.vars (s.fn H (ds++gs)).vars fJ:=by
  intro sp gY;rw[hs];exact l sp gY
 refine⟨ds,gs,before,[],pa,fJ,b4,h _ _ _,i _ hold,j _ hold,World.keptBut_mono (λp a=>⟨a,?_⟩) (g.frame (· ∈before)),λ_=>?_⟩
 .rw[c,ed]at a
  exact Or.inr a
 .obtain⟨_,_,_,_,_,m,n⟩:=b4
  refine⟨ok_one e rfl (okWide_bool_mk d _),_,_,([]++pa)++fJ,⟨[]++pa,fJ,trodAll_append (i _ (λ_ _=>rfl)) (h _ _ _),j _ (λ_ _=>rfl),rfl,?_,?_⟩,?_⟩
  .intro b off a
   have k:MemPlace.cell b off∈before:=by rw[c];simpa using a
   rw[g.frozen (aI _ k)];exact m b off k
  .intro o
   have:=n o;rw[c]at this;simpa using this
  .intro p a _
   rw[c];simpa using a
theorem zG{t:TypeId}(a:laidOutB P=true)(b:P.readableRec t=true)(c:t<P.types.size){W W':I}{v:O}{d:DataW H}{ps:Y MemPlace}{sp:Nat->ai}
 (h:DataW.Trod enc P W 0 (λ_=>true) true t v d ps) (hb:ad (λ_=>False) W W') (aI:∀x∈ps,x.block<W.heap.size) (hs:∀p∈ps,sp p.block=true):
 DataW.Trod enc P W' 0 sp true t v d ps:=
 WideElems.Trod_stays a b c h (λx hx=>(Cx hb).same (aI x hx)) hs
end
end aO
namespace aO
open Go Go.RowKit
def az(P:Program)(f:FuncId)(args:Array O)(w:I)(Q:O->I->Prop):Prop:=
 Calls P f args w λe w1=>∃v,e=.returned v/\Q v w1
theorem az.use{P:Program}{f:FuncId}{args:Array O}{w:I}{Q:O->I->Prop}{R:Ending->I->Prop}
 (h:az P f args w Q) (k:∀v w',Q v w'->R (.returned v) w'):Calls P f args w R:=
 Calls.mono h λ_ _ ⟨v,a,b⟩=>by subst a;exact k v _ b
theorem az.mono{P:Program}{f:FuncId}{args:Array O}{w:I}{Q R:O->I->Prop}
 (h:az P f args w Q) (k:∀v w',Q v w'->R v w'):az P f args w R:=
 az.use h λv _ a=>⟨v,rfl,k _ _ a⟩
abbrev Ext(w w':I):Prop:=ad (λ_=>False) w w'
theorem ad.bA{W:Nat->Prop}{w w':I}(h:Ext w w'):ad W w w':=ad.mono h λ_ _ h=>h.elim
theorem ad.drew{W:Nat->Prop}{w w':I}(h:ad W w w'):ad W w w'.drew:=⟨h.os,h.tape,h.output,h.size,h.block⟩
theorem ad.alloc{W:Nat->Prop}{w w':I}(h:ad W w w')(o:Obj):ad W w (w'.alloc o):=
 h.trans ⟨rfl,rfl,rfl,by simp,λk a _=>Below.heap_alloc _ _ _ a⟩
theorem ad.set{W:Nat->Prop}{w w':I}(h:ad W w w'){A:ar}(hb:A.block<w.heap.size->W A.block)(v:O):ad W w (w'.setCell A v):=
 ⟨h.os,h.tape,h.output,by simp only[World.setCell,Array.size_modify];exact h.size,λk a b4=>by
  rw[Below.heap_setCell _ _ _ _ (λe=>b4 (by subst e;exact hb a))];exact h.block k a b4⟩
theorem ad.setCells{W:Nat->Prop}{w:I}{A:ar}(hb:A.block<w.heap.size->W A.block):∀ (vs:Y O) (i:Nat) {w':I},ad W w w'->ad W w (setCells w' A i vs)
 | [],_,_,h=>h
 |v::vs,i,w',h=>by
  have a:(A.add i).block=A.block:=by unfold Addr.add;split<;>rfl
  exact ad.setCells hb vs (i+1) (ad.set h (by rw[a];exact hb) v)
theorem av(b o n:Nat):(Addr.mk b o none).add n=⟨b,o+n,none⟩:=by
 unfold Addr.add;split
 .rename_i h;subst h;rfl
 .rfl
def aZ(w:I)(b:Nat)(c:Array O)(T:TypeId):Prop:=w.heap[b]? =some (.cells c T (0,0))
section
variable {w w':I}{b i:Nat}{c:Array O}{T:TypeId}
theorem aZ.lt(h:aZ w b c T):b<w.heap.size:=(ly.1 h).1
theorem aZ.cell(h:aZ w b c T)(i:Nat):w.cell? ⟨b,i,none⟩=c[i]? :=by
 unfold aZ at h;simp[World.cell?,h]
theorem aZ.frozen(h:aZ w b c T)(A:ar)(au:A.block=b):w.frozen? A=false:=by
 unfold aZ at h;simp[World.frozen?,au,h]
theorem aZ.ak{W:Nat->Prop}(h:aZ w b c T)(hc:ad W w w')(hb:¬W b):aZ w' b c T:=by
 have a:=h.lt;unfold aZ at h⊢;rw[hc.block b a hb];exact h
theorem aZ.ext(h:aZ w b c T)(hc:Ext w w'):aZ w' b c T:=h.ak hc id
theorem aZ.drew(h:aZ w b c T):aZ w.drew b c T:=h
theorem aZ.new(w:I)(c:Array O)(T:TypeId):aZ (w.alloc (.cells c T)) w.heap.size c T:=by
 show(w.heap.push (.cells c T))[w.heap.size]? =some (.cells c T (0,0));simp
theorem aZ.set(h:aZ w b c T)(i:Nat)(v:O):aZ (w.setCell ⟨b,i,none⟩ v) b (c.setIfInBounds i v) T:=by
 unfold aZ at h⊢;simp[World.setCell,u0,h]
theorem aZ.inj{c':Array O}{ay:TypeId}(h:aZ w b c T)(a:aZ w b c' ay):c=c'/\T=ay:=by
 unfold aZ at h a;rw[h]at a;simpa using a
def f_(c:Array O)(i:Nat):Y O->Array O
 | []=>c
 |v::vs=>f_ (c.setIfInBounds i v) (i+1) vs
theorem gZ:∀ (vs:Y O) (c:Array O) (i:Nat),(f_ c i vs).size=c.size
 | [],_,_=>rfl
 |v::vs,c,i=>by simp[f_,gZ vs]
theorem aZ.pd:∀ (vs:Y O) {w:I}{c:Array O} (i j:Nat),aZ w b c T->aZ (setCells w ⟨b,i,none⟩ j vs) b (f_ c (i+j) vs) T
 | [],_,_,_,_,h=>h
 |v::vs,w,c,i,j,h=>by
  simp only[setCells,f_,av]
  have:=aZ.pd vs i (j+1) (h.set (i+j) v)
  rw[show i+(j+1)=i+j+1 from J]at this
  exact this
theorem aZ.cn(h:aZ w b c T)(i:Nat)(vs:Y O)(d:i+vs.length<=c.size)(a:∀v∈vs,Plain v):bN w ⟨b,i,none⟩ vs:=by
 refine⟨λj e=>?_,a⟩;rw[av,h.cell,h.frozen _ rfl];have:i+j<c.size:=by omega
 simp[this]
end
theorem k9{B:(I->Prop)->Prop}{rest:I->Prop}(a:I->Prop)(h1:∀k:I->Prop,(∀w,a w->k w)->B k)(h2:∀w,a w->rest w):aX B rest:=⟨h1 rest h2⟩
theorem bK{a:Type}{B:(a->I->Prop)->Prop}{rest:a->I->Prop}(b:a->I->Prop)(h1:∀k:a->I->Prop,(∀x w,b x w->k x w)->B k)(h2:∀x w,b x w->rest x w):aX B rest:=⟨h1 rest h2⟩
theorem Hk{a b:Type}{B:(a->b->I->Prop)->Prop}{rest:a->b->I->Prop}(c:a->b->I->Prop)(h1:∀k:a->b->I->Prop,(∀x y w,c x y w->k x y w)->B k)(h2:∀x y w,c x y w->rest x y w):aX B rest:=⟨h1 rest h2⟩
theorem Hl.of{P:Program}{w:I}{T:TypeId}{k:IntKind}{v:O}(h:k8 P w T v)(a:P.underlying T=some (.int k)):∃n:Int,v=.int k n/\k.min<=n/\n<=k.max:=by
 simp only[k8,a]at h;obtain⟨fuel,h⟩:=h
 cases fuel with
 |zero=>cases h
 |succ f=>
  simp only[gu,a]at h;obtain⟨n,b,h1,h2⟩:=h;exact⟨n,by simpa using b,h1,h2⟩
theorem bW{n:Int}(h0: -9223372036854775808<=n)(h1:n<=9223372036854775807):IntKind.i64.wrap n=n:=by
 by_cases h:0<=n
 .exact zj h h1
 .have e:n%18446744073709551616=n+18446744073709551616:=by omega
  simp[IntKind.wrap,IntKind.signed,IntKind.bits,e];omega
end aO
namespace aO
open Go Go.RowKit
structure Src(sz:Nat)(w:I)(x:ag)(xs:Y O):Prop where
 len:xs.length=x.len*sz
 nil:x.a=none->xs=[]
 rd:∀a,x.a=some a->aT w a 0 (x.len*sz)=some xs
def aS(sz:Nat)(T:TypeId)(w:I)(s:ag)(vs:Y O):Prop:=
 vs.length=s.len*sz/\s.len<=s.cap/\s.cap<=maxLen/\
 ((s.a=none/\s.cap=0)\/∃b c,s.a=some ⟨b,0,none⟩/\aZ w b c T/\c.size=s.cap*sz/\c.toList.take (s.len*sz)=vs)
def aD(s:ag)(k:Nat):Prop:=∃A,s.a=some A/\A.block=k
theorem Cy{w:I}{A:ar}:∀ {n i:Nat}{vs:Y O},aT w A i n=some vs->vs.length=n
 |0,_,_,h=>by simp[aT]at h;simp[←h]
 |n+1,i,vs,h=>by
  simp only[aT]at h
  cases h1:w.cell? (A.add i) with
  |none=>simp[h1]at h
  |some v=>
   cases h2:aT w A (i+1) n with
   |none=>simp[h1,h2]at h
   |some us=>
    simp only[h1,h2,Option.some.injEq]at h
    subst h
    simp[Cy h2]
theorem qP{w:I}{b:Nat}{c:Array O}{T:TypeId}(h:aZ w b c T):∀ (n o i:Nat),o+i+n<=c.size->aT w ⟨b,o,none⟩ i n=some ((c.toList.drop (o+i)).take n)
 |0,o,i,_=>by simp[aT]
 |n+1,o,i,e=>by
  have h1:o+i<c.size:=by omega
  have a:=qP h n o (i+1) J
  simp only[aT,av,h.cell,a]
  have h2:c[o+i]? =some c[o+i]:=by simp[h1]
  rw[h2]
  simp only[Option.some.injEq]
  have d:c.toList.drop (o+i)=c[o+i]::c.toList.drop (o+i+1):=by
   rw[l1 (by simpa using h1)];simp
  rw[d];simp[Nat.add_assoc]
theorem aS.src{sz:Nat}{T:TypeId}{w:I}{s:ag}{vs:Y O}(h:aS sz T w s vs):Src sz w s vs:=by
 obtain⟨h1,h2,j,f⟩:=h;refine⟨h1,λe=>?_,λa d=>?_⟩
 .rcases f with ⟨_,hc⟩|⟨b,c,hb,_⟩
  .have:s.len=0:=by omega
   rw[this,Nat.zero_mul]at h1;exact oV.1 h1
  .rw[e]at hb;cases hb
 .rcases f with ⟨e,_⟩|⟨b,c,hb,g,hs,i⟩
  .rw[e]at d;cases d
  .rw[hb]at d
   cases d;have:=qP g (s.len*sz) 0 0 (by rw[hs];simp;exact qs _ h2);rw[this];simp[i]
section
variable {P:Program}{w:I}
theorem qQ{sz:Nat}{x:ag}{xs:Y O}(h:Src sz w x xs):(Builtin.firstCells sz x.len (.slice x.a x.len x.cap)).run P w=.ok xs.toArray w:=by
 cases hx:x.a with
 |none=>rw[h.nil hx];rfl
 |some a=>
  simp only[Builtin.firstCells,loadCells];rw[run_loadCellsFrom _ _ _ _ (h.rd a hx)];simp
theorem Cz(a:Nat):∀ (r c:Nat),c<=2*a+1000->Builtin.growBy a r c<=2*a+1000
 |0,c,h=>h
 |r+1,c,h=>by
  simp only[Builtin.growBy]
  split
  .exact h
  .exact Cz a r _ J
theorem CA{a cap:Nat}(h:cap<a):Builtin.nextslicecap a cap<=2*a+1000:=by
 unfold Builtin.nextslicecap;split
 .omega
 .split
  .omega
  .exact Cz a 4 cap J
theorem CB{gG:Array TypeId}{c4 dy kq e:TypeId}{d:TypeDesc}{sz:Nat}{s x:ag}{xs:Y O}(h0:gG[0]? =some dy)(h1:gG[1]? =some kq)
 (hs:P.underlying dy=some (.slice e)) (hx:P.underlying kq=some (.slice e)) (he:P.underlying e=some d) (g:P.cellsOf e=sz) (h:Src sz w x xs)
 (c:s.len+x.len<=s.cap) (i:∀a,s.a=some a->bN w (a.add (s.len*sz)) xs):
 Sem.run P (Builtin.append_ gG c4 #[.slice s.a s.len s.cap,.slice x.a x.len x.cap]) w=
  .ok (.slice s.a (s.len+x.len) s.cap) (match s.a with|some a=>setCells w (a.add (s.len*sz)) 0 xs|none=>w):=by
 have hf:=qQ (P:=P) h;have b:=hM (w:=w) he;rw[g]at b
 cases j:s.a with
 |none=>
  simp[Builtin.append_,h0,h1,cY hs,cY hx,b,Builtin.lenOf,c,hf]
 |some a=>
  have f:=i a j;have:=s3 (P:=P) (A:=a.add (s.len*sz)) xs 0 w (by simpa using f.1) f.2;simp[Builtin.append_,h0,h1,cY hs,cY hx,b,Builtin.lenOf,c,hf,this]
theorem run_append_grow{gG:Array TypeId}{c4 dy kq e:TypeId}{i:TypeInfo}{z:O}{sz:Nat}{s x:ag}{xs c:Y O}(h0:gG[0]? =some dy)(h1:gG[1]? =some kq)
 (hs:P.underlying dy=some (.slice e)) (hx:P.underlying kq=some (.slice e)) (hi:P.info? e=some i) (hd:(P.underlying e).isSome=true) (k:i.zero=some z) (l:z.cells.size=sz) (m:P.cellsOf e=sz)
 (hb:i.bytes≠0) (f:Src sz w x xs) (hold:Src sz w s c) (o:s.cap<s.len+x.len) (p:(2*(s.len+x.len)+1000)*i.bytes<=281474976710656):
 ∃ (b:Nat) (rest:Y O),s.len+x.len<=b/\b<=maxLen/\rest.length=(b-(s.len+x.len))*sz/\
  Sem.run P (Builtin.append_ gG c4 #[.slice s.a s.len s.cap,.slice x.a x.len x.cap]) w=
   .ok (.slice (some ⟨w.heap.size,0,none⟩) (s.len+x.len) b) (w.drew.alloc (.cells (c++xs++rest).toArray e)):=by
 obtain⟨d,hd⟩:=kp _ hd;have h:=hM (w:=w) hd;rw[m]at h;have r:=CA o;have L:Builtin.nextslicecap (s.len+x.len) s.cap*i.bytes<=281474976710656:=dG (qs _ r) p;have M:s.len+x.len<=281474976710656:=by
  have:s.len+x.len<=(2*(s.len+x.len)+1000)*i.bytes:=by
   have:=Nat.mul_le_mul_left (2*(s.len+x.len)+1000) (Nat.one_le_iff_ne_zero.2 hb);omega
  omega
 let q:Question:=.appendCap (s.len+x.len) s.cap e
 let b:Nat:=q.cut (w.tape w.drawn q)
 have t:q.forced=false:=rfl;have u:s.len+x.len<=b:=by show s.len+x.len<=s.len+x.len+_;omega
 have v:b<=maxLen:=by
  show s.len+x.len+_%(2^63-(s.len+x.len))<=2^63-1;have:=gq (w.tape w.drawn q) (y:=2^63-(s.len+x.len)) J;omega
 have A:Src sz w.drew x xs:=⟨f.len,f.nil,λa g=>by
  have:=f.rd a g;have hc:ad (λ_=>False) w w.drew:=ad.drew (.refl _ _);exact hc.aT (by simp) _ _ _ this⟩
 have B:Src sz w.drew s c:=⟨hold.len,hold.nil,λa g=>by
  have:=hold.rd a g;have hc:ad (λ_=>False) w w.drew:=ad.drew (.refl _ _);exact hc.aT (by simp) _ _ _ this⟩
 have hf:=qQ (P:=P) A;have C:=qQ (P:=P) B;have D:∀n (w':I),(askRoom n).run P w'=.ok () w':=λn w'=>by unfold askRoom;split<;>rfl
 have E:(choose q).run P w=.ok b w.drew:=by
  show Sem.run P (.choose q .pure) w=_;simp only[Sem.run,t,fW,if_false];rfl
 have j:=λw:I=>nI (w:=w) hi;refine⟨b,(Builtin.zeroCells z.cells (b-(s.len+x.len))).toList,u,v,by simp[Builtin.zeroCells,l],?_⟩;have aP:¬(s.len+x.len<=s.cap):=by omega
 have aU:¬((s.len+x.len:Nat):Int)>IntKind.i64.max:=by
  simp[IntKind.max,IntKind.signed,IntKind.bits];omega
 have F:¬(281474976710656<Builtin.nextslicecap (s.len+x.len) s.cap*i.bytes):=by omega
 have G:¬Builtin.nextslicecap (s.len+x.len) s.cap*i.bytes>2^48:=by simpa using F
 unfold Builtin.append_;simp only[sP,nA,za,h0,h1,Sem.run_bind,cY hs,cY hx,Result.andThen,h,Builtin.lenOf,Sem.run_pure,aP,if_false,fW,j,aU,false_and,G,Bool.not_false,if_true];have H:Sem.run P (choose (.appendCap (s.len+x.len) s.cap e)) w=.ok b w.drew:=E;simp only[H,D,hf,C,zeroValue,j,k,Sem.run_bind,Result.andThen,Sem.run_pure,newRow,newObj,Sem.run];have K:w.drew.heap.size=w.heap.size:=rfl;rw[K]
 congr 1
 show w.drew.alloc _=w.drew.alloc _
 congr 2
 simp
theorem tn:∀ (vs:Y O) (c:Array O) (i:Nat),i+vs.length<=c.size->(f_ c i vs).toList.take (i+vs.length)=c.toList.take i++vs
 | [],c,i,_=>by simp[f_]
 |v::vs,c,i,h=>by
  simp only[iz]at h
  simp only[f_]
  have:=tn vs (c.setIfInBounds i v) (i+1) (by simpa using (by omega:i+1+vs.length<=c.size))
  rw[show i+(v::vs).length=i+1+vs.length by simp;omega,this]
  have hi:i<c.size:=by omega
  have h2:(c.setIfInBounds i v).toList.take (i+1)=c.toList.take i++ [v]:=by
   rw[jZ (by simpa using hi)];have a:(List.take i c.toList).set i v=List.take i c.toList:=by
    apply List.set_eq_of_length_le;simp only[fg];omega
   simp[List.take_set,a]
  rw[h2];simp
theorem Hm{gG:Array TypeId}{c4 dy kq e:TypeId}{i:TypeInfo}{z:O}{sz:Nat}{s x:ag}{xs vs:Y O}(h0:gG[0]? =some dy)(h1:gG[1]? =some kq)
 (hs:P.underlying dy=some (.slice e)) (hx:P.underlying kq=some (.slice e)) (hi:P.info? e=some i) (hd:(P.underlying e).isSome=true) (B:i.zero=some z) (C:z.cells.size=sz) (r:P.cellsOf e=sz)
 (hb:i.bytes≠0) (f:Src sz w x xs) (t:aS sz e w s vs) (D:∀v∈xs,Plain v) (E:(2*(s.len+x.len)+1000)*i.bytes<=281474976710656):
 ∃ (g:ag) (w':I),Sem.run P (Builtin.append_ gG c4 #[.slice s.a s.len s.cap,.slice x.a x.len x.cap]) w=.ok (.slice g.a g.len g.cap) w'/\
  aS sz e w' g (vs++xs)/\g.len=s.len+x.len/\ad (aD s) w w'/\(∀k,aD g k->aD s k\/w.heap.size<=k):=by
 have hold:=t.src;obtain⟨aJ,aW,F,u⟩:=t;by_cases h:s.len+x.len<=s.cap
 .have G:∀a,s.a=some a->bN w (a.add (s.len*sz)) xs:=by
   intro a j;rcases u with ⟨n,_⟩|⟨b,c,l,o,m,y⟩
   .rw[n]at j;cases j
   .rw[l]at j
    cases j;rw[av];refine o.cn _ _ ?_ D;rw[m,f.len,cg,←j0];exact qs _ h
  obtain⟨d,hd⟩:=kp _ hd;have p:=CB (c4:=c4) h0 h1 hs hx hd r f h G;refine⟨⟨s.a,s.len+x.len,s.cap⟩,_,p,?_,rfl,?_,λk q=>.inl q⟩
  .refine⟨by simp[aJ,f.len,j0],h,F,?_⟩
   rcases u with ⟨n,hc⟩|⟨b,c,l,o,m,y⟩
   .exact .inl ⟨n,hc⟩
   .refine .inr ⟨b,f_ c (s.len*sz) xs,l,?_,by rw[gZ];exact m,?_⟩
    .simp only[l,av]
     have:=aZ.pd (T:=e) xs (0+s.len*sz) 0 o;simpa using this
    .have H:s.len*sz+xs.length<=c.size:=by
      rw[m,f.len,←j0];exact qs _ h
     have:=tn xs c (s.len*sz) H;rw[f.len,←j0]at this;rw[this,y]
  .cases K:s.a with
   |none=>exact .refl _ _
   |some a=>
    refine ad.setCells (λ_=>?_) xs 0 (.refl _ _);exact⟨a,K,by unfold Addr.add;split<;>rfl⟩
 .obtain⟨L,rest,M,N,Q,p⟩:=run_append_grow (c4:=c4) h0 h1 hs hx hi hd B C r hb f hold J E
  refine⟨⟨some ⟨w.heap.size,0,none⟩,s.len+x.len,L⟩,_,p,?_,rfl,ad.alloc (ad.drew (.refl _ _)) _,?_⟩
  .refine⟨by simp[aJ,f.len,j0],M,N,.inr ⟨w.heap.size,(vs++xs++rest).toArray,rfl,aZ.new w.drew _ _,?_,?_⟩⟩
   .simp[aJ,f.len,Q]
    rw[←j0,←j0]
    congr 1
    omega
   .have:(vs++xs).length=(s.len+x.len)*sz:=by simp[aJ,f.len,j0]
    show List.take ((s.len+x.len)*sz) (vs++xs++rest).toArray.toList=vs++xs;rw[←this];exact List.take_left
  .rintro k ⟨A,au,q⟩
   cases au;exact .inr (by simpa using q▸bk _)
end
theorem aS.ak{sz:Nat}{T:TypeId}{w w':I}{s:ag}{vs:Y O}{W:Nat->Prop}(h:aS sz T w s vs)(hc:ad W w w')(d:∀k,aD s k->¬W k):aS sz T w' s vs:=by
 obtain⟨h1,h2,e,a⟩:=h;refine⟨h1,h2,e,?_⟩;rcases a with a|⟨b,c,hb,f,g,i⟩
 .exact .inl a
 .exact .inr ⟨b,c,hb,f.ak hc (d b ⟨_,hb,rfl⟩),g,i⟩
theorem Src.ak{sz:Nat}{w w':I}{s:ag}{vs:Y O}{W:Nat->Prop}(h:Src sz w s vs)(hc:ad W w w')(c:∀k,aD s k->¬W k):Src sz w' s vs:=
 ⟨h.len,h.nil,λa b=>hc.aT (c _ ⟨a,b,rfl⟩) _ _ _ (h.rd a b)⟩
theorem aS.lt{sz:Nat}{T:TypeId}{w:I}{s:ag}{vs:Y O}(h:aS sz T w s vs):∀k,aD s k->k<w.heap.size:=by
 rintro k ⟨A,au,rfl⟩;obtain⟨_,_,_,a⟩:=h;rcases a with ⟨d,_⟩|⟨b,c,hb,e,_⟩
 .rw[d]at au;cases au
 .rw[hb]at au;cases au;exact e.lt
theorem aS.cell{T:TypeId}{w:I}{s:ag}{vs:Y O}(h:aS 1 T w s vs){i:Nat}{v:O}(d:vs[i]? =some v):
 ∃b c,s.a=some ⟨b,0,none⟩/\aZ w b c T/\c.size=s.cap/\i<s.len/\i<c.size/\w.cell? ⟨b,i,none⟩=some v/\c.toList.take s.len=vs:=by
 obtain⟨h1,h2,j,g⟩:=h;have hi:i<s.len:=by
  have:=(qp.1 d).1;omega
 rcases g with ⟨_,hc⟩|⟨b,c,hb,e,f,ht⟩
 .omega
 .rw[fR]at f ht
  refine⟨b,c,hb,e,f,hi,J,?_,ht⟩;rw[e.cell];rw[←ht,List.getElem?_take]at d;rw[if_pos hi]at d;simpa using d
theorem aS.set{T:TypeId}{w:I}{s:ag}{vs:Y O}{b i:Nat}(h:aS 1 T w s vs)(hb:s.a=some ⟨b,0,none⟩)(v:O):
 aS 1 T (w.setCell ⟨b,i,none⟩ v) s (vs.set i v):=by
 obtain⟨h1,h2,e,f⟩:=h;refine⟨by simpa using h1,h2,e,.inr ?_⟩;rcases f with ⟨g,_⟩|⟨b',c,d,j,k,ht⟩
 .rw[g]at hb;cases hb
 .rw[hb]at d
  cases d;refine⟨b,_,hb,j.set i v,by simpa using k,?_⟩;rw[←ht];simp[List.take_set]
def CC(P:Program)(dy e:TypeId)(sz bytes:Nat):ai:=
 match P.underlying dy,P.info? e,P.underlying e with
 |some (.slice e'),some i,some _=>e'==e&&(match i.zero with|some z=>z.cells.size==sz|none=>false)&&P.cellsOf e==sz&&i.bytes==bytes&&bytes !=0
 |_,_,_=>false
structure ib(P:Program)(dy e:TypeId)(sz bytes:Nat):Prop where
 h:CC P dy e sz bytes=true
theorem ib.out{P:Program}{dy e:TypeId}{sz bytes:Nat}(h:ib P dy e sz bytes):
 P.underlying dy=some (.slice e)/\∃i z,P.info? e=some i/\(P.underlying e).isSome=true/\i.zero=some z/\z.cells.size=sz/\P.cellsOf e=sz/\i.bytes=bytes/\bytes≠0:=by
 have h:=h.h;unfold CC at h;split at h
 .rename_i e' i d h1 h2 b
  simp only[du,jw,bne_iff_ne]at h;obtain⟨⟨⟨⟨rfl,a⟩,c⟩,f⟩,g⟩:=h;split at a
  .rename_i z j
   exact⟨h1,i,z,h2,by simp[b],j,by simpa using a,c,f,g⟩
  .cases a
 .cases h
theorem ib.append{P:Program}{w:I}{dy e c4:TypeId}{sz bytes:Nat}{s x:ag}{xs vs:Y O}(h:ib P dy e sz bytes)
 (c:Src sz w x xs) (d:aS sz e w s vs) (f:∀v∈xs,Plain v) (g:(2*(s.len+x.len)+1000)*bytes<=281474976710656):
 ∃ (b:ag) (w':I),Sem.run P (Builtin.append_ #[dy,dy] c4 #[.slice s.a s.len s.cap,.slice x.a x.len x.cap]) w=.ok (.slice b.a b.len b.cap) w'/\
  aS sz e w' b (vs++xs)/\b.len=s.len+x.len/\ad (aD s) w w'/\(∀k,aD b k->aD s k\/w.heap.size<=k):=by
 obtain⟨h1,i,z,h2,j,l,m,n,rfl,o⟩:=h.out;exact Hm rfl rfl h1 h1 h2 j l m n o c d f g
theorem Src.new{sz:Nat}{T:TypeId}(w:I)(xs:Y O)(n:Nat)(b:xs.length=n*sz):Src sz (w.alloc (.cells xs.toArray T)) ⟨some ⟨w.heap.size,0,none⟩,n,n⟩ xs:=by
 refine⟨b,(λh=>by cases h),λa c=>?_⟩
 cases c;rw[qP (aZ.new w xs.toArray T) _ _ _ (by simp[b])];simp[←b]
theorem aS.new{sz:Nat}{T:TypeId}(w:I)(xs:Y O)(n:Nat)(a:xs.length=n*sz)(hm:n<=maxLen):aS sz T (w.alloc (.cells xs.toArray T)) ⟨some ⟨w.heap.size,0,none⟩,n,n⟩ xs:=by
 refine⟨a,bk _,hm,.inr ⟨_,_,rfl,aZ.new w _ _,by simp[a],?_⟩⟩;show List.take (n*sz) xs=xs;rw[←a,jx]
theorem aS.none(sz:Nat)(T:TypeId)(w:I):aS sz T w ⟨.none,0,0⟩ []:=⟨by simp,bk _,by decide,.inl ⟨rfl,rfl⟩⟩
theorem fx(k:Nat):¬aD ⟨.none,0,0⟩ k:=by rintro⟨A,au,_⟩;cases au
theorem k_{A:ar}{n m k:Nat}:aD ⟨some A,n,m⟩ k↔A.block=k:=⟨λ⟨B,a,h⟩=>by cases a;exact h,λh=>⟨_,rfl,h⟩⟩
theorem Src.alloc{sz:Nat}{w:I}{s:ag}{vs:Y O}(h:Src sz w s vs)(o:Obj):Src sz (w.alloc o) s vs:=h.ak (W:=λ_=>False) (ad.alloc (.refl _ _) o) (λ_ _ h=>h)
theorem aS.ext{sz:Nat}{T:TypeId}{w w':I}{s:ag}{vs:Y O}(h:aS sz T w s vs)(hc:Ext w w'):aS sz T w' s vs:=h.ak hc λ_ _ h=>h
theorem Src.ext{sz:Nat}{w w':I}{s:ag}{vs:Y O}(h:Src sz w s vs)(hc:Ext w w'):Src sz w' s vs:=h.ak hc λ_ _ h=>h
theorem ib.push{P:Program}{w:I}{dy e c4:TypeId}{sz bytes:Nat}{s:ag}{vs xs:Y O}(h:ib P dy e sz bytes)(hx:xs.length=sz)
 (c:aS sz e w s vs) (d:∀v∈xs,Plain v) (f:(2*(s.len+1)+1000)*bytes<=281474976710656):
 ∃ (b:ag) (w':I),Sem.run P (Builtin.append_ #[dy,dy] c4 #[.slice s.a s.len s.cap,.slice (some ⟨w.heap.size,0,none⟩) 1 1]) (w.alloc (.cells xs.toArray e))=.ok (.slice b.a b.len b.cap) w'/\
  aS sz e w' b (vs++xs)/\b.len=s.len+1/\ad (aD s) w w'/\(∀k,aD b k->aD s k\/w.heap.size<=k):=by
 have hc:Ext w (w.alloc (.cells xs.toArray e)):=ad.alloc (.refl _ _) _;obtain⟨b,w',h1,h2,g,i,j⟩:=h.append (c4:=c4) (Src.new (T:=e) w xs 1 (by simpa using hx)) (c.ext hc) d f;exact⟨b,w',h1,h2,g,(ad.bA hc).trans i,λk l=>(j k l).imp id (λh=>by simp at h;omega)⟩
theorem ib.clone{P:Program}{w:I}{dy e c4:TypeId}{sz bytes:Nat}{x:ag}{xs:Y O}(h:ib P dy e sz bytes)
 (l:Src sz w x xs) (p:∀v∈xs,Plain v) (q:(2*x.len+1000)*bytes<=281474976710656):
 ∃ (f:ag) (w':I),Sem.run P (Builtin.append_ #[dy,dy] c4 #[.slice (some ⟨w.heap.size,0,none⟩) 0 0,.slice x.a x.len x.cap]) (w.alloc (.cells #[] e))=.ok (.slice f.a f.len f.cap) w'/\
  aS sz e w' f xs/\f.len=x.len/\Ext w w'/\(∀k,aD f k->w.heap.size<=k)/\f.a.isSome=true:=by
 have r:=aS.new (sz:=sz) (T:=e) w [] 0 (by simp) (by decide);have m:=l.alloc (.cells #[] e);obtain⟨f,w',h1,h2,n,g,t⟩:=h.append (c4:=c4) m r p (by simpa using q);refine⟨f,w',h1,by simpa using h2,by simpa using n,?_,λk j=>?_,?_⟩
 .refine⟨g.os.trans rfl,g.tape.trans rfl,g.output.trans rfl,?_,λk j _=>?_⟩
  .have:=g.size;simp at this;omega
  .rw[g.block k (by simp;omega) (by rintro⟨A,au,h⟩;cases au;simp at h;omega)]
   exact Below.heap_alloc _ _ _ j
 .rcases t k j with ⟨A,au,h⟩|h
  .cases au;simp at h;omega
  .simp at h;omega
 .obtain⟨_,i,z,E,u,F,G,y,rfl,H⟩:=h.out
  have hb:=h2.2.2.2;rcases hb with ⟨B,hc⟩|⟨b,c,hb,_⟩
  .
   exfalso;have J:=h2.2.1;have o:x.len=0:=by simp at n;omega
   have C:xs=[]:=oV.1 (by rw[l.len,o,Nat.zero_mul]);obtain⟨d,hd⟩:=kp _ u;have:=CB (P:=P) (w:=w.alloc (.cells #[] e)) (gG:= #[dy,dy]) (c4:=c4) (s:=⟨some ⟨w.heap.size,0,Option.none⟩,0,0⟩) rfl rfl h.out.1 h.out.1 hd y m (by simp[o]) (λa _=>by
    rw[C];exact⟨λi hi=>by simp at hi,λv D=>by simp at D⟩)
   rw[this]at h1;simp only[Result.ok.injEq,Value.slice.injEq]at h1;rw[B]at h1
   cases h1.1.1
  .rw[hb];rfl
theorem Hn(k:IntKind)(ns:Y Int):∀v∈ns.map (Value.int k),Plain v:=by
 intro v a;obtain⟨n,_,rfl⟩:=dj.1 a;trivial
theorem aS.at{T:TypeId}{w:I}{s:ag}{vs:Y O}(h:aS 1 T w s vs){i:Nat}{v:O}(f:vs[i]? =some v):
 ∃A:ar,s.a=some A/\((0:Int)<=(i:Int)/\(i:Int)<((s.len:Nat):Int))/\w.cell? (A.add (Int.toNat (i:Int)*1))=some v/\w.frozen? (A.add (Int.toNat (i:Int)*1))=false/\
  aD s (A.add (Int.toNat (i:Int)*1)).block/\∀d,aS 1 T (w.setCell (A.add (Int.toNat (i:Int)*1)) d) s (vs.set i d):=by
 obtain⟨b,c,hb,g,j,hi,k,hc,_⟩:=h.cell f;have e:(Addr.mk b 0 Option.none).add (Int.toNat (i:Int)*1)=⟨b,i,Option.none⟩:=by rw[fR,dW,av,cg]
 exact⟨_,hb,⟨J,J⟩,by rw[e];exact hc,by rw[e];exact g.frozen _ rfl,by rw[e];exact⟨_,hb,rfl⟩,λd=>by rw[e];exact h.set hb d⟩
end aO
namespace aO
open Go Go.RowKit
def CD(ns:Y Int):ByteArray:=ns.foldl (λr n=>r.push (UInt8.ofNat n.toNat)) ByteArray.empty
theorem Ho{P:Program}{w:I}{src dst e:TypeId}{s:ag}{ns:Y Int}(hs:P.underlying src=some (.slice e))(he:P.underlying e=some (.int .u8))(hd:P.underlying dst=some .string)
 (h:Src 1 w s (ns.map (.int .u8))):Sem.run P (convert src dst (.slice s.a s.len s.cap)) w=.ok (.string (CD ns)) w:=by
 rw[run_convert_bytes_string w src dst e s.a s.len s.cap hs he hd]
 cases b:s.a with
 |none=>
  have:=h.nil b;have d:ns=[]:=by simpa using this
  subst d;rfl
 |some A=>
  have c:=h.rd A b;rw[fR]at c;exact run_bytesToString w A s.len s.cap ns (by
   unfold loadCells;rw[run_loadCellsFrom _ _ _ _ c];simp)
theorem CE{P:Program}{e:TypeId}{v:O}(a:((P.info? e).bind (·.zero)).map (·.cells)=some #[v])(hc:P.cellsOf e=1)(n:Nat):gQ P e n=(List.replicate n v).toArray:=by
 unfold gQ;rw[hc]
 cases hi:(P.info? e).bind (·.zero) with
 |none=>rw[hi]at a;cases a
 |some z=>
  rw[hi]at a;simp only[l2,Option.some.injEq]at a;simp only[sQ,a,fR];apply Array.ext
  .simp
  .intro i h1 h2
   have b:n≠0:=by
    intro h;subst h;simp at h2
   simp[b,Nat.mod_one]
section
variable {P:Program}{w:I}{T:TypeId}{fuel:Nat}{cs:Y O}
theorem zH{k:IntKind}(h:gu P w fuel T cs)(a:P.underlying T=some (.int k)):∃n:Int,cs=[.int k n]/\k.min<=n/\n<=k.max:=by
 cases fuel with
 |zero=>cases h
 |succ f=>simpa only[gu,a] using h
theorem CF{fs:Array Field}(h:gu P w fuel T cs)(a:P.underlying T=some (.struct fs)):cs.length=P.cellsOf T/\∀f∈fs,∃fuel,gu P w fuel f.type ((cs.drop f.offset).take (P.cellsOf f.type)):=by
 cases fuel with
 |zero=>cases h
 |succ f=>
  simp only[gu,a]at h;exact⟨h.1,λg hg=>⟨f,h.2 g hg⟩⟩
end
theorem nN{w:I}{A:ar}:∀ {n i:Nat}{vs:Y O}{j:Nat}{v:O},aT w A i n=some vs->vs[j]? =some v->w.cell? (A.add (i+j))=some v
 |0,i,vs,j,v,h,a=>by simp[aT]at h;subst h;simp at a
 |n+1,i,vs,j,v,h,a=>by
  simp only[aT]at h
  cases h1:w.cell? (A.add i) with
  |none=>simp[h1]at h
  |some u=>
   cases h2:aT w A (i+1) n with
   |none=>simp[h1,h2]at h
   |some us=>
    simp only[h1,h2,Option.some.injEq]at h
    subst h
    cases j with
    |zero=>simp at a;subst a;exact h1
    |succ j=>
     have:=nN h2 (j:=j) (by simpa using a)
     rw[show i+(j+1)=i+1+j from J]
     exact this
theorem Src.at{w:I}{s:ag}{vs:Y O}(h:Src 1 w s vs){i:Nat}{v:O}(b:vs[i]? =some v):
 ∃A:ar,s.a=some A/\((0:Int)<=(i:Int)/\(i:Int)<((s.len:Nat):Int))/\w.cell? (A.add (Int.toNat (i:Int)*1))=some v:=by
 have hi:i<vs.length:=(qp.1 b).1;have d:=h.len
 cases c:s.a with
 |none=>have:=h.nil c;subst this;simp at hi
 |some A=>
  have:=nN (h.rd A c) b;exact⟨A,rfl,⟨J,J⟩,by rw[fR,dW];simpa using this⟩
end aO
